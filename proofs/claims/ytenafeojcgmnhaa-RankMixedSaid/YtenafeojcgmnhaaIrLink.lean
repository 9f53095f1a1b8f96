/-
  The printed functions are what the loaded ones compile to.
-/
import Derived.Test.YtenafeojcgmnhaaIrCode
import Derived.Test.YtenafeojcgmnhaaVsWp
import Derived.Test.YtenafeojcgmnhaaChecked
import Derived.KernelRfl
set_option linter.unusedVariables false
set_option maxRecDepth 100000
namespace Go.Proofs.Ytenafeojcgmnhaa
open Go Ads
namespace Ir
abbrev UY:List (Nat×aC):=[(3,C3),(4,C4),(5,C5),(6,C6),(7,C7),(8,C8),(9,C9),(10,RA),(11,Tb),(12,RB),(13,RC),(14,Oz),(15,OA),(16,OB),(17,OC),(18,OD),(19,NU),(20,RD),(21,RE),(22,RF),(23,RG),(24,RH),(25,OE),(26,OF),(27,RI),(28,RJ),(29,OG),(30,RK),(31,OH),(32,RL),(33,OI),(34,RM),(35,RN),(36,Tc),(37,OJ),(38,OK),(39,OL),(40,OM),(41,ON),(42,RO),(43,RP),(44,NV),(45,RQ),(46,OO),(47,NW),(48,RR),(49,RT),(50,RU),(51,RV),(52,RW),(53,RX),(54,RY),(55,RZ),(56,R1),(57,R2),(58,NX),(59,R3),(60,R4),(61,R5),(62,R6),(63,R7),(64,R8),(65,R9),(66,Lv),(67,Sc),(68,Sd),(69,Se),(70,Sf),(71,OP),(72,Sg),(73,Sh),(74,Si),(75,Sj),(76,Sk),(77,Td),(78,Sl),(79,Te),(80,Sm),(81,Sn),(82,Tf),(83,So),(84,Sq),(85,Sr),(86,Ss)]
theorem L3:az Try.prog Try.f3=some C3:=by kernel_rfl
theorem L4:az Try.prog Try.f4=some C4:=by kernel_rfl
theorem L5:az Try.prog Try.f5=some C5:=by kernel_rfl
theorem L6:az Try.prog Try.f6=some C6:=by kernel_rfl
theorem L7:az Try.prog Try.f7=some C7:=by kernel_rfl
theorem L8:az Try.prog Try.f8=some C8:=by kernel_rfl
theorem L9:az Try.prog Try.f9=some C9:=by kernel_rfl
theorem L10:az Try.prog Try.f10=some RA:=by kernel_rfl
theorem L11:az Try.prog Try.f11=some Tb:=by kernel_rfl
theorem L12:az Try.prog Try.f12=some RB:=by kernel_rfl
theorem L13:az Try.prog Try.f13=some RC:=by kernel_rfl
theorem L14:az Try.prog Try.f14=some Oz:=by kernel_rfl
theorem L15:az Try.prog Try.f15=some OA:=by kernel_rfl
theorem L16:az Try.prog Try.f16=some OB:=by kernel_rfl
theorem L17:az Try.prog Try.f17=some OC:=by kernel_rfl
theorem L18:az Try.prog Try.f18=some OD:=by kernel_rfl
theorem L19:az Try.prog Try.f19=some NU:=by kernel_rfl
theorem L20:az Try.prog Try.f20=some RD:=by kernel_rfl
theorem L21:az Try.prog Try.f21=some RE:=by kernel_rfl
theorem L22:az Try.prog Try.f22=some RF:=by kernel_rfl
theorem L23:az Try.prog Try.f23=some RG:=by kernel_rfl
theorem L24:az Try.prog Try.f24=some RH:=by kernel_rfl
theorem L25:az Try.prog Try.f25=some OE:=by kernel_rfl
theorem L26:az Try.prog Try.f26=some OF:=by kernel_rfl
theorem L27:az Try.prog Try.f27=some RI:=by kernel_rfl
theorem L28:az Try.prog Try.f28=some RJ:=by kernel_rfl
theorem L29:az Try.prog Try.f29=some OG:=by kernel_rfl
theorem L30:az Try.prog Try.f30=some RK:=by kernel_rfl
theorem L31:az Try.prog Try.f31=some OH:=by kernel_rfl
theorem L32:az Try.prog Try.f32=some RL:=by kernel_rfl
theorem L33:az Try.prog Try.f33=some OI:=by kernel_rfl
theorem L34:az Try.prog Try.f34=some RM:=by kernel_rfl
theorem L35:az Try.prog Try.f35=some RN:=by kernel_rfl
theorem L36:az Try.prog Try.f36=some Tc:=by kernel_rfl
theorem L37:az Try.prog Try.f37=some OJ:=by kernel_rfl
theorem L38:az Try.prog Try.f38=some OK:=by kernel_rfl
theorem L39:az Try.prog Try.f39=some OL:=by kernel_rfl
theorem L40:az Try.prog Try.f40=some OM:=by kernel_rfl
theorem L41:az Try.prog Try.f41=some ON:=by kernel_rfl
theorem L42:az Try.prog Try.f42=some RO:=by kernel_rfl
theorem L43:az Try.prog Try.f43=some RP:=by kernel_rfl
theorem L44:az Try.prog Try.f44=some NV:=by kernel_rfl
theorem L45:az Try.prog Try.f45=some RQ:=by kernel_rfl
theorem L46:az Try.prog Try.f46=some OO:=by kernel_rfl
theorem L47:az Try.prog Try.f47=some NW:=by kernel_rfl
theorem L48:az Try.prog Try.f48=some RR:=by kernel_rfl
theorem L49:az Try.prog Try.f49=some RT:=by kernel_rfl
theorem L50:az Try.prog Try.f50=some RU:=by kernel_rfl
theorem L51:az Try.prog Try.f51=some RV:=by kernel_rfl
theorem L52:az Try.prog Try.f52=some RW:=by kernel_rfl
theorem L53:az Try.prog Try.f53=some RX:=by kernel_rfl
theorem L54:az Try.prog Try.f54=some RY:=by kernel_rfl
theorem L55:az Try.prog Try.f55=some RZ:=by kernel_rfl
theorem L56:az Try.prog Try.f56=some R1:=by kernel_rfl
theorem L57:az Try.prog Try.f57=some R2:=by kernel_rfl
theorem L58:az Try.prog Try.f58=some NX:=by kernel_rfl
theorem L59:az Try.prog Try.f59=some R3:=by kernel_rfl
theorem L60:az Try.prog Try.f60=some R4:=by kernel_rfl
theorem L61:az Try.prog Try.f61=some R5:=by kernel_rfl
theorem L62:az Try.prog Try.f62=some R6:=by kernel_rfl
theorem L63:az Try.prog Try.f63=some R7:=by kernel_rfl
theorem L64:az Try.prog Try.f64=some R8:=by kernel_rfl
theorem L65:az Try.prog Try.f65=some R9:=by kernel_rfl
theorem L66:az Try.prog Try.f66=some Lv:=by kernel_rfl
theorem L67:az Try.prog Try.f67=some Sc:=by kernel_rfl
theorem L68:az Try.prog Try.f68=some Sd:=by kernel_rfl
theorem L69:az Try.prog Try.f69=some Se:=by kernel_rfl
theorem L70:az Try.prog Try.f70=some Sf:=by kernel_rfl
theorem L71:az Try.prog Try.f71=some OP:=by kernel_rfl
theorem L72:az Try.prog Try.f72=some Sg:=by kernel_rfl
theorem L73:az Try.prog Try.f73=some Sh:=by kernel_rfl
theorem L74:az Try.prog Try.f74=some Si:=by kernel_rfl
theorem L75:az Try.prog Try.f75=some Sj:=by kernel_rfl
theorem L76:az Try.prog Try.f76=some Sk:=by kernel_rfl
theorem L77:az Try.prog Try.f77=some Td:=by kernel_rfl
theorem L78:az Try.prog Try.f78=some Sl:=by kernel_rfl
theorem L79:az Try.prog Try.f79=some Te:=by kernel_rfl
theorem L80:az Try.prog Try.f80=some Sm:=by kernel_rfl
theorem L81:az Try.prog Try.f81=some Sn:=by kernel_rfl
theorem L82:az Try.prog Try.f82=some Tf:=by kernel_rfl
theorem L83:az Try.prog Try.f83=some So:=by kernel_rfl
theorem L84:az Try.prog Try.f84=some Sq:=by kernel_rfl
theorem L85:az Try.prog Try.f85=some Sr:=by kernel_rfl
theorem L86:az Try.prog Try.f86=some Ss:=by kernel_rfl
theorem all:IW (fun f af=>∃fn,Try.prog.funcs[f]?=some fn∧az Try.prog fn=some af) UY:=
 ⟨⟨_,Try.func3,L3⟩,⟨_,Try.func4,L4⟩,⟨_,Try.func5,L5⟩,⟨_,Try.func6,L6⟩,⟨_,Try.func7,L7⟩,⟨_,Try.func8,L8⟩,⟨_,Try.func9,L9⟩,⟨_,Try.func10,L10⟩,⟨_,Try.func11,L11⟩,⟨_,Try.func12,L12⟩,⟨_,Try.func13,L13⟩,⟨_,Try.func14,L14⟩,⟨_,Try.func15,L15⟩,⟨_,Try.func16,L16⟩,⟨_,Try.func17,L17⟩,⟨_,Try.func18,L18⟩,⟨_,Try.func19,L19⟩,⟨_,Try.func20,L20⟩,⟨_,Try.func21,L21⟩,⟨_,Try.func22,L22⟩,⟨_,Try.func23,L23⟩,⟨_,Try.func24,L24⟩,⟨_,Try.func25,L25⟩,⟨_,Try.func26,L26⟩,⟨_,Try.func27,L27⟩,⟨_,Try.func28,L28⟩,⟨_,Try.func29,L29⟩,⟨_,Try.func30,L30⟩,⟨_,Try.func31,L31⟩,⟨_,Try.func32,L32⟩,⟨_,Try.func33,L33⟩,⟨_,Try.func34,L34⟩,⟨_,Try.func35,L35⟩,⟨_,Try.func36,L36⟩,⟨_,Try.func37,L37⟩,⟨_,Try.func38,L38⟩,⟨_,Try.func39,L39⟩,⟨_,Try.func40,L40⟩,⟨_,Try.func41,L41⟩,⟨_,Try.func42,L42⟩,⟨_,Try.func43,L43⟩,⟨_,Try.func44,L44⟩,⟨_,Try.func45,L45⟩,⟨_,Try.func46,L46⟩,⟨_,Try.func47,L47⟩,⟨_,Try.func48,L48⟩,⟨_,Try.func49,L49⟩,⟨_,Try.func50,L50⟩,⟨_,Try.func51,L51⟩,⟨_,Try.func52,L52⟩,⟨_,Try.func53,L53⟩,⟨_,Try.func54,L54⟩,⟨_,Try.func55,L55⟩,⟨_,Try.func56,L56⟩,⟨_,Try.func57,L57⟩,⟨_,Try.func58,L58⟩,⟨_,Try.func59,L59⟩,⟨_,Try.func60,L60⟩,⟨_,Try.func61,L61⟩,⟨_,Try.func62,L62⟩,⟨_,Try.func63,L63⟩,⟨_,Try.func64,L64⟩,⟨_,Try.func65,L65⟩,⟨_,Try.func66,L66⟩,⟨_,Try.func67,L67⟩,⟨_,Try.func68,L68⟩,⟨_,Try.func69,L69⟩,⟨_,Try.func70,L70⟩,⟨_,Try.func71,L71⟩,⟨_,Try.func72,L72⟩,⟨_,Try.func73,L73⟩,⟨_,Try.func74,L74⟩,⟨_,Try.func75,L75⟩,⟨_,Try.func76,L76⟩,⟨_,Try.func77,L77⟩,⟨_,Try.func78,L78⟩,⟨_,Try.func79,L79⟩,⟨_,Try.func80,L80⟩,⟨_,Try.func81,L81⟩,⟨_,Try.func82,L82⟩,⟨_,Try.func83,L83⟩,⟨_,Try.func84,L84⟩,⟨_,Try.func85,L85⟩,⟨_,Try.func86,L86⟩,trivial⟩
theorem tie:T=QZ UY:=by kernel_rfl
theorem Tl:IW (fun _ af=>fq af.body=true) UY:=
 ⟨rfl,rfl,rfl,rfl,rfl,rfl,rfl,rfl,rfl,rfl,rfl,rfl,rfl,rfl,rfl,rfl,rfl,rfl,rfl,rfl,rfl,rfl,rfl,rfl,rfl,rfl,rfl,rfl,rfl,rfl,rfl,rfl,rfl,rfl,rfl,rfl,rfl,rfl,rfl,rfl,rfl,rfl,rfl,rfl,rfl,rfl,rfl,rfl,rfl,rfl,rfl,rfl,rfl,rfl,rfl,rfl,rfl,rfl,rfl,rfl,rfl,rfl,rfl,rfl,rfl,rfl,rfl,rfl,rfl,rfl,rfl,rfl,rfl,rfl,rfl,rfl,rfl,rfl,rfl,rfl,rfl,rfl,rfl,rfl,trivial⟩
theorem codes(f:Nat)(af:aC)(h:fs f=some af):fq af.body=true:=by unfold fs at h;rw[tie] at h;exact jR Tl h
end Ir
end Go.Proofs.Ytenafeojcgmnhaa
