/-
  The printed functions are what the loaded ones compile to.
-/
import Derived.Test.YtecdcefacdodgaaIrCode
import Derived.Test.YtecdcefacdodgaaVsWp
import Derived.Test.YtecdcefacdodgaaChecked
import Derived.KernelRfl
set_option linter.unusedVariables false
set_option maxRecDepth 100000
namespace Go.Proofs.Ytecdcefacdodgaa
open Go Ads
namespace Ir
abbrev WB:List (Nat×az):=[(3,C3),(4,C4),(5,C5),(14,S0),(15,S1),(16,Qc),(17,S3),(18,T0),(19,S4),(20,S5),(21,T3),(22,S6),(23,T4),(24,T5),(53,S7),(54,S8),(55,S9),(56,T6),(57,Ta),(81,Qd),(82,Tb),(83,Qe),(84,Tc),(85,Td),(86,Te),(87,Tf),(88,T7),(89,T8),(90,T9),(91,Tg),(92,Th),(93,Ti),(94,Tj),(95,Ua),(96,Ub),(97,Tl),(106,KI),(107,Fw),(108,KJ),(109,KK),(110,KL),(111,KM),(112,KN),(113,KO),(114,KP),(115,KQ),(116,KR),(117,KS),(118,KT),(119,G4),(120,KU),(121,KV),(122,KW),(133,KX),(134,Fx),(135,Fy),(136,KY),(137,KZ),(138,K0),(139,K1),(140,K2),(141,K3),(142,K4),(143,K5),(144,K6),(145,G5),(146,K7),(147,K8),(148,K9),(154,La),(155,Lb),(156,G6),(157,Lc),(158,G7),(159,Ld),(160,Le),(161,Lf),(162,Lg),(164,Lh),(165,Li),(166,Lj),(167,Lk),(168,Ll),(169,Lm),(170,Ln),(171,Lo)]
theorem L3:ak Try.prog Try.f3=some C3:=by kernel_rfl
theorem L4:ak Try.prog Try.f4=some C4:=by kernel_rfl
theorem L5:ak Try.prog Try.f5=some C5:=by kernel_rfl
theorem L14:ak Try.prog Try.f14=some S0:=by kernel_rfl
theorem L15:ak Try.prog Try.f15=some S1:=by kernel_rfl
theorem L16:ak Try.prog Try.f16=some Qc:=by kernel_rfl
theorem L17:ak Try.prog Try.f17=some S3:=by kernel_rfl
theorem L18:ak Try.prog Try.f18=some T0:=by kernel_rfl
theorem L19:ak Try.prog Try.f19=some S4:=by kernel_rfl
theorem L20:ak Try.prog Try.f20=some S5:=by kernel_rfl
theorem L21:ak Try.prog Try.f21=some T3:=by kernel_rfl
theorem L22:ak Try.prog Try.f22=some S6:=by kernel_rfl
theorem L23:ak Try.prog Try.f23=some T4:=by kernel_rfl
theorem L24:ak Try.prog Try.f24=some T5:=by kernel_rfl
theorem L53:ak Try.prog Try.f53=some S7:=by kernel_rfl
theorem L54:ak Try.prog Try.f54=some S8:=by kernel_rfl
theorem L55:ak Try.prog Try.f55=some S9:=by kernel_rfl
theorem L56:ak Try.prog Try.f56=some T6:=by kernel_rfl
theorem L57:ak Try.prog Try.f57=some Ta:=by kernel_rfl
theorem L81:ak Try.prog Try.f81=some Qd:=by kernel_rfl
theorem L82:ak Try.prog Try.f82=some Tb:=by kernel_rfl
theorem L83:ak Try.prog Try.f83=some Qe:=by kernel_rfl
theorem L84:ak Try.prog Try.f84=some Tc:=by kernel_rfl
theorem L85:ak Try.prog Try.f85=some Td:=by kernel_rfl
theorem L86:ak Try.prog Try.f86=some Te:=by kernel_rfl
theorem L87:ak Try.prog Try.f87=some Tf:=by kernel_rfl
theorem L88:ak Try.prog Try.f88=some T7:=by kernel_rfl
theorem L89:ak Try.prog Try.f89=some T8:=by kernel_rfl
theorem L90:ak Try.prog Try.f90=some T9:=by kernel_rfl
theorem L91:ak Try.prog Try.f91=some Tg:=by kernel_rfl
theorem L92:ak Try.prog Try.f92=some Th:=by kernel_rfl
theorem L93:ak Try.prog Try.f93=some Ti:=by kernel_rfl
theorem L94:ak Try.prog Try.f94=some Tj:=by kernel_rfl
theorem L95:ak Try.prog Try.f95=some Ua:=by kernel_rfl
theorem L96:ak Try.prog Try.f96=some Ub:=by kernel_rfl
theorem L97:ak Try.prog Try.f97=some Tl:=by kernel_rfl
theorem Uf:ak Try.prog Try.f106=some KI:=by kernel_rfl
theorem Ug:ak Try.prog Try.f107=some Fw:=by kernel_rfl
theorem Uh:ak Try.prog Try.f108=some KJ:=by kernel_rfl
theorem Ui:ak Try.prog Try.f109=some KK:=by kernel_rfl
theorem Uj:ak Try.prog Try.f110=some KL:=by kernel_rfl
theorem Uk:ak Try.prog Try.f111=some KM:=by kernel_rfl
theorem Ul:ak Try.prog Try.f112=some KN:=by kernel_rfl
theorem Um:ak Try.prog Try.f113=some KO:=by kernel_rfl
theorem Un:ak Try.prog Try.f114=some KP:=by kernel_rfl
theorem Uo:ak Try.prog Try.f115=some KQ:=by kernel_rfl
theorem Uq:ak Try.prog Try.f116=some KR:=by kernel_rfl
theorem Ur:ak Try.prog Try.f117=some KS:=by kernel_rfl
theorem Us:ak Try.prog Try.f118=some KT:=by kernel_rfl
theorem Ut:ak Try.prog Try.f119=some G4:=by kernel_rfl
theorem Uu:ak Try.prog Try.f120=some KU:=by kernel_rfl
theorem Uv:ak Try.prog Try.f121=some KV:=by kernel_rfl
theorem Uw:ak Try.prog Try.f122=some KW:=by kernel_rfl
theorem Ux:ak Try.prog Try.f133=some KX:=by kernel_rfl
theorem Uy:ak Try.prog Try.f134=some Fx:=by kernel_rfl
theorem Uz:ak Try.prog Try.f135=some Fy:=by kernel_rfl
theorem UA:ak Try.prog Try.f136=some KY:=by kernel_rfl
theorem UB:ak Try.prog Try.f137=some KZ:=by kernel_rfl
theorem UC:ak Try.prog Try.f138=some K0:=by kernel_rfl
theorem UD:ak Try.prog Try.f139=some K1:=by kernel_rfl
theorem UE:ak Try.prog Try.f140=some K2:=by kernel_rfl
theorem UF:ak Try.prog Try.f141=some K3:=by kernel_rfl
theorem UG:ak Try.prog Try.f142=some K4:=by kernel_rfl
theorem UH:ak Try.prog Try.f143=some K5:=by kernel_rfl
theorem UI:ak Try.prog Try.f144=some K6:=by kernel_rfl
theorem UJ:ak Try.prog Try.f145=some G5:=by kernel_rfl
theorem UK:ak Try.prog Try.f146=some K7:=by kernel_rfl
theorem UL:ak Try.prog Try.f147=some K8:=by kernel_rfl
theorem UM:ak Try.prog Try.f148=some K9:=by kernel_rfl
theorem UN:ak Try.prog Try.f154=some La:=by kernel_rfl
theorem UO:ak Try.prog Try.f155=some Lb:=by kernel_rfl
theorem UP:ak Try.prog Try.f156=some G6:=by kernel_rfl
theorem UQ:ak Try.prog Try.f157=some Lc:=by kernel_rfl
theorem UR:ak Try.prog Try.f158=some G7:=by kernel_rfl
theorem US:ak Try.prog Try.f159=some Ld:=by kernel_rfl
theorem UT:ak Try.prog Try.f160=some Le:=by kernel_rfl
theorem UU:ak Try.prog Try.f161=some Lf:=by kernel_rfl
theorem UW:ak Try.prog Try.f162=some Lg:=by kernel_rfl
theorem UX:ak Try.prog Try.f164=some Lh:=by kernel_rfl
theorem UY:ak Try.prog Try.f165=some Li:=by kernel_rfl
theorem UZ:ak Try.prog Try.f166=some Lj:=by kernel_rfl
theorem U0:ak Try.prog Try.f167=some Lk:=by kernel_rfl
theorem U1:ak Try.prog Try.f168=some Ll:=by kernel_rfl
theorem U2:ak Try.prog Try.f169=some Lm:=by kernel_rfl
theorem U3:ak Try.prog Try.f170=some Ln:=by kernel_rfl
theorem U4:ak Try.prog Try.f171=some Lo:=by kernel_rfl
theorem all:KH (fun f af=>∃fn,Try.prog.funcs[f]?=some fn∧ak Try.prog fn=some af) WB:=
 ⟨⟨_,Try.func3,L3⟩,⟨_,Try.func4,L4⟩,⟨_,Try.func5,L5⟩,⟨_,Try.func14,L14⟩,⟨_,Try.func15,L15⟩,⟨_,Try.func16,L16⟩,⟨_,Try.func17,L17⟩,⟨_,Try.func18,L18⟩,⟨_,Try.func19,L19⟩,⟨_,Try.func20,L20⟩,⟨_,Try.func21,L21⟩,⟨_,Try.func22,L22⟩,⟨_,Try.func23,L23⟩,⟨_,Try.func24,L24⟩,⟨_,Try.func53,L53⟩,⟨_,Try.func54,L54⟩,⟨_,Try.func55,L55⟩,⟨_,Try.func56,L56⟩,⟨_,Try.func57,L57⟩,⟨_,Try.func81,L81⟩,⟨_,Try.func82,L82⟩,⟨_,Try.func83,L83⟩,⟨_,Try.func84,L84⟩,⟨_,Try.func85,L85⟩,⟨_,Try.func86,L86⟩,⟨_,Try.func87,L87⟩,⟨_,Try.func88,L88⟩,⟨_,Try.func89,L89⟩,⟨_,Try.func90,L90⟩,⟨_,Try.func91,L91⟩,⟨_,Try.func92,L92⟩,⟨_,Try.func93,L93⟩,⟨_,Try.func94,L94⟩,⟨_,Try.func95,L95⟩,⟨_,Try.func96,L96⟩,⟨_,Try.func97,L97⟩,⟨_,Try.func106,Uf⟩,⟨_,Try.func107,Ug⟩,⟨_,Try.func108,Uh⟩,⟨_,Try.func109,Ui⟩,⟨_,Try.func110,Uj⟩,⟨_,Try.func111,Uk⟩,⟨_,Try.func112,Ul⟩,⟨_,Try.func113,Um⟩,⟨_,Try.func114,Un⟩,⟨_,Try.func115,Uo⟩,⟨_,Try.func116,Uq⟩,⟨_,Try.func117,Ur⟩,⟨_,Try.func118,Us⟩,⟨_,Try.func119,Ut⟩,⟨_,Try.func120,Uu⟩,⟨_,Try.func121,Uv⟩,⟨_,Try.func122,Uw⟩,⟨_,Try.func133,Ux⟩,⟨_,Try.func134,Uy⟩,⟨_,Try.func135,Uz⟩,⟨_,Try.func136,UA⟩,⟨_,Try.func137,UB⟩,⟨_,Try.func138,UC⟩,⟨_,Try.func139,UD⟩,⟨_,Try.func140,UE⟩,⟨_,Try.func141,UF⟩,⟨_,Try.func142,UG⟩,⟨_,Try.func143,UH⟩,⟨_,Try.func144,UI⟩,⟨_,Try.func145,UJ⟩,⟨_,Try.func146,UK⟩,⟨_,Try.func147,UL⟩,⟨_,Try.func148,UM⟩,⟨_,Try.func154,UN⟩,⟨_,Try.func155,UO⟩,⟨_,Try.func156,UP⟩,⟨_,Try.func157,UQ⟩,⟨_,Try.func158,UR⟩,⟨_,Try.func159,US⟩,⟨_,Try.func160,UT⟩,⟨_,Try.func161,UU⟩,⟨_,Try.func162,UW⟩,⟨_,Try.func164,UX⟩,⟨_,Try.func165,UY⟩,⟨_,Try.func166,UZ⟩,⟨_,Try.func167,U0⟩,⟨_,Try.func168,U1⟩,⟨_,Try.func169,U2⟩,⟨_,Try.func170,U3⟩,⟨_,Try.func171,U4⟩,trivial⟩
theorem tie:T=SG WB:=by kernel_rfl
theorem U8:KH (fun _ af=>eA af.body=true) WB:=
 ⟨rfl,rfl,rfl,rfl,rfl,rfl,rfl,rfl,rfl,rfl,rfl,rfl,rfl,rfl,rfl,rfl,rfl,rfl,rfl,rfl,rfl,rfl,rfl,rfl,rfl,rfl,rfl,rfl,rfl,rfl,rfl,rfl,rfl,rfl,rfl,rfl,rfl,rfl,rfl,rfl,rfl,rfl,rfl,rfl,rfl,rfl,rfl,rfl,rfl,rfl,rfl,rfl,rfl,rfl,rfl,rfl,rfl,rfl,rfl,rfl,rfl,rfl,rfl,rfl,rfl,rfl,rfl,rfl,rfl,rfl,rfl,rfl,rfl,rfl,rfl,rfl,rfl,rfl,rfl,rfl,rfl,rfl,rfl,rfl,rfl,rfl,trivial⟩
theorem codes(f:Nat)(af:az)(h:fs f=some af):eA af.body=true:=by unfold fs at h;rw[tie] at h;exact su U8 h
end Ir
end Go.Proofs.Ytecdcefacdodgaa
