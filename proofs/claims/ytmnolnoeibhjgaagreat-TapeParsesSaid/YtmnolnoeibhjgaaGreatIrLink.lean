/-
  The printed functions are what the loaded ones compile to.
-/
import Derived.Test.YtmnolnoeibhjgaaGreatIrCode
import Derived.Test.YtmnolnoeibhjgaaGreatVsWp
import Derived.Test.YtmnolnoeibhjgaaGreatChecked
import Derived.KernelRfl
set_option linter.unusedVariables false
set_option maxRecDepth 100000
namespace Go.Proofs.YtmnolnoeibhjgaaGreat
open Go Ads
namespace Ir
abbrev YC:List (Nat×aj):=[(3,C3),(4,C4),(5,C5),(7,C7),(8,C8),(9,C9),(10,S1),(11,S2),(12,Uz),(13,QB),(14,S3),(15,S4),(16,S6),(17,QC),(18,S7),(19,S8),(20,S9),(21,Ta),(22,UA),(23,Tb),(24,Tc),(25,Td),(26,Te),(27,Tf),(28,Tg),(29,UB),(30,UC),(31,Th),(32,PU),(33,Ti),(34,Tj),(35,Tk),(36,Tl),(37,Tm),(38,QD),(39,Tn),(40,UD),(41,UE),(42,UF),(43,To),(44,Tp),(45,Tq),(46,Ts),(47,Tt),(48,Tu),(49,QE),(50,QF),(51,Tv),(52,Tw),(53,QG),(54,Tx),(55,Ty),(56,QH),(57,Tz),(58,TA),(59,TB),(60,TC),(61,UG),(62,UH),(63,UI),(64,UJ),(65,UK),(66,UL),(67,UM),(68,UN),(69,UO),(70,UP),(71,TD),(72,QI),(73,TE),(74,TF),(75,UQ),(76,UR),(77,US),(78,UT),(81,UU),(83,UW),(84,UX),(85,UY),(86,UZ),(87,U0),(89,U1),(95,U2),(96,U3),(97,U4),(98,U5),(99,U6),(100,LA),(102,LB),(103,LC),(105,LD),(107,LF),(108,LG),(109,LH),(110,LI),(111,LJ),(119,LL),(121,LM),(122,LN),(123,LO),(124,LP),(125,LQ),(126,LR),(127,LS),(128,LU),(136,LV),(137,LW),(138,LX),(140,LY),(141,LZ),(142,L2),(143,L6),(144,Ma),(149,Mb),(151,Mc),(152,Md),(153,Me),(156,Mf),(157,Mg),(158,Mh),(159,Mi),(160,Mj),(164,Mk),(167,Ml),(168,Mm),(171,Mn),(174,Mo),(175,Mp),(176,Mq),(177,Mr),(178,Ms),(179,Mt),(180,Mu),(183,Mv),(185,Mw),(186,Mx),(187,My),(188,Mz),(189,MA),(214,MB),(222,MC),(223,MD),(224,ME),(225,MF),(226,MG),(227,MH),(228,MI),(229,MJ),(230,MK),(231,ML),(234,MM),(237,I9),(264,MN),(266,MO),(267,MP),(268,MQ),(269,MR),(270,MS),(271,MT),(272,MU),(273,MV),(274,MW),(275,MY),(276,MZ),(277,M0),(278,M1),(295,M3),(296,M4),(297,M5),(298,M6),(299,M7),(300,M8),(301,M9),(302,Na),(303,Nb),(304,Nc),(305,Nd),(306,Nf),(307,Ng),(315,Nh),(317,Ni),(318,Nj),(319,Nk),(320,Nl),(322,Nm),(331,Nn),(333,No),(334,Np),(337,Nq),(338,Nr),(339,Ns),(345,Nu)]
theorem L3:ai Tryz.prog Tryz.f3=some C3:=by kernel_rfl
theorem L4:ai Tryz.prog Tryz.f4=some C4:=by kernel_rfl
theorem L5:ai Tryz.prog Tryz.f5=some C5:=by kernel_rfl
theorem L7:ai Tryz.prog Tryz.f7=some C7:=by kernel_rfl
theorem L8:ai Tryz.prog Tryz.f8=some C8:=by kernel_rfl
theorem L9:ai Tryz.prog Tryz.f9=some C9:=by kernel_rfl
theorem L10:ai Tryz.prog Tryz.f10=some S1:=by kernel_rfl
theorem L11:ai Tryz.prog Tryz.f11=some S2:=by kernel_rfl
theorem L12:ai Tryz.prog Tryz.f12=some Uz:=by kernel_rfl
theorem L13:ai Tryz.prog Tryz.f13=some QB:=by kernel_rfl
theorem L14:ai Tryz.prog Tryz.f14=some S3:=by kernel_rfl
theorem L15:ai Tryz.prog Tryz.f15=some S4:=by kernel_rfl
theorem L16:ai Tryz.prog Tryz.f16=some S6:=by kernel_rfl
theorem L17:ai Tryz.prog Tryz.f17=some QC:=by kernel_rfl
theorem L18:ai Tryz.prog Tryz.f18=some S7:=by kernel_rfl
theorem L19:ai Tryz.prog Tryz.f19=some S8:=by kernel_rfl
theorem L20:ai Tryz.prog Tryz.f20=some S9:=by kernel_rfl
theorem L21:ai Tryz.prog Tryz.f21=some Ta:=by kernel_rfl
theorem L22:ai Tryz.prog Tryz.f22=some UA:=by kernel_rfl
theorem L23:ai Tryz.prog Tryz.f23=some Tb:=by kernel_rfl
theorem L24:ai Tryz.prog Tryz.f24=some Tc:=by kernel_rfl
theorem L25:ai Tryz.prog Tryz.f25=some Td:=by kernel_rfl
theorem L26:ai Tryz.prog Tryz.f26=some Te:=by kernel_rfl
theorem L27:ai Tryz.prog Tryz.f27=some Tf:=by kernel_rfl
theorem L28:ai Tryz.prog Tryz.f28=some Tg:=by kernel_rfl
theorem L29:ai Tryz.prog Tryz.f29=some UB:=by kernel_rfl
theorem L30:ai Tryz.prog Tryz.f30=some UC:=by kernel_rfl
theorem L31:ai Tryz.prog Tryz.f31=some Th:=by kernel_rfl
theorem L32:ai Tryz.prog Tryz.f32=some PU:=by kernel_rfl
theorem L33:ai Tryz.prog Tryz.f33=some Ti:=by kernel_rfl
theorem L34:ai Tryz.prog Tryz.f34=some Tj:=by kernel_rfl
theorem L35:ai Tryz.prog Tryz.f35=some Tk:=by kernel_rfl
theorem L36:ai Tryz.prog Tryz.f36=some Tl:=by kernel_rfl
theorem L37:ai Tryz.prog Tryz.f37=some Tm:=by kernel_rfl
theorem L38:ai Tryz.prog Tryz.f38=some QD:=by kernel_rfl
theorem L39:ai Tryz.prog Tryz.f39=some Tn:=by kernel_rfl
theorem L40:ai Tryz.prog Tryz.f40=some UD:=by kernel_rfl
theorem L41:ai Tryz.prog Tryz.f41=some UE:=by kernel_rfl
theorem L42:ai Tryz.prog Tryz.f42=some UF:=by kernel_rfl
theorem L43:ai Tryz.prog Tryz.f43=some To:=by kernel_rfl
theorem L44:ai Tryz.prog Tryz.f44=some Tp:=by kernel_rfl
theorem L45:ai Tryz.prog Tryz.f45=some Tq:=by kernel_rfl
theorem L46:ai Tryz.prog Tryz.f46=some Ts:=by kernel_rfl
theorem L47:ai Tryz.prog Tryz.f47=some Tt:=by kernel_rfl
theorem L48:ai Tryz.prog Tryz.f48=some Tu:=by kernel_rfl
theorem L49:ai Tryz.prog Tryz.f49=some QE:=by kernel_rfl
theorem L50:ai Tryz.prog Tryz.f50=some QF:=by kernel_rfl
theorem L51:ai Tryz.prog Tryz.f51=some Tv:=by kernel_rfl
theorem L52:ai Tryz.prog Tryz.f52=some Tw:=by kernel_rfl
theorem L53:ai Tryz.prog Tryz.f53=some QG:=by kernel_rfl
theorem L54:ai Tryz.prog Tryz.f54=some Tx:=by kernel_rfl
theorem L55:ai Tryz.prog Tryz.f55=some Ty:=by kernel_rfl
theorem L56:ai Tryz.prog Tryz.f56=some QH:=by kernel_rfl
theorem L57:ai Tryz.prog Tryz.f57=some Tz:=by kernel_rfl
theorem L58:ai Tryz.prog Tryz.f58=some TA:=by kernel_rfl
theorem L59:ai Tryz.prog Tryz.f59=some TB:=by kernel_rfl
theorem L60:ai Tryz.prog Tryz.f60=some TC:=by kernel_rfl
theorem L61:ai Tryz.prog Tryz.f61=some UG:=by kernel_rfl
theorem L62:ai Tryz.prog Tryz.f62=some UH:=by kernel_rfl
theorem L63:ai Tryz.prog Tryz.f63=some UI:=by kernel_rfl
theorem L64:ai Tryz.prog Tryz.f64=some UJ:=by kernel_rfl
theorem L65:ai Tryz.prog Tryz.f65=some UK:=by kernel_rfl
theorem L66:ai Tryz.prog Tryz.f66=some UL:=by kernel_rfl
theorem L67:ai Tryz.prog Tryz.f67=some UM:=by kernel_rfl
theorem L68:ai Tryz.prog Tryz.f68=some UN:=by kernel_rfl
theorem L69:ai Tryz.prog Tryz.f69=some UO:=by kernel_rfl
theorem L70:ai Tryz.prog Tryz.f70=some UP:=by kernel_rfl
theorem L71:ai Tryz.prog Tryz.f71=some TD:=by kernel_rfl
theorem L72:ai Tryz.prog Tryz.f72=some QI:=by kernel_rfl
theorem L73:ai Tryz.prog Tryz.f73=some TE:=by kernel_rfl
theorem L74:ai Tryz.prog Tryz.f74=some TF:=by kernel_rfl
theorem L75:ai Tryz.prog Tryz.f75=some UQ:=by kernel_rfl
theorem L76:ai Tryz.prog Tryz.f76=some UR:=by kernel_rfl
theorem L77:ai Tryz.prog Tryz.f77=some US:=by kernel_rfl
theorem L78:ai Tryz.prog Tryz.f78=some UT:=by kernel_rfl
theorem L81:ai Tryz.prog Tryz.f81=some UU:=by kernel_rfl
theorem L83:ai Tryz.prog Tryz.f83=some UW:=by kernel_rfl
theorem L84:ai Tryz.prog Tryz.f84=some UX:=by kernel_rfl
theorem L85:ai Tryz.prog Tryz.f85=some UY:=by kernel_rfl
theorem L86:ai Tryz.prog Tryz.f86=some UZ:=by kernel_rfl
theorem L87:ai Tryz.prog Tryz.f87=some U0:=by kernel_rfl
theorem L89:ai Tryz.prog Tryz.f89=some U1:=by kernel_rfl
theorem L95:ai Tryz.prog Tryz.f95=some U2:=by kernel_rfl
theorem L96:ai Tryz.prog Tryz.f96=some U3:=by kernel_rfl
theorem L97:ai Tryz.prog Tryz.f97=some U4:=by kernel_rfl
theorem L98:ai Tryz.prog Tryz.f98=some U5:=by kernel_rfl
theorem L99:ai Tryz.prog Tryz.f99=some U6:=by kernel_rfl
theorem U9:ai Tryz.prog Tryz.f100=some LA:=by kernel_rfl
theorem Va:ai Tryz.prog Tryz.f102=some LB:=by kernel_rfl
theorem Vb:ai Tryz.prog Tryz.f103=some LC:=by kernel_rfl
theorem Vc:ai Tryz.prog Tryz.f105=some LD:=by kernel_rfl
theorem Vd:ai Tryz.prog Tryz.f107=some LF:=by kernel_rfl
theorem Ve:ai Tryz.prog Tryz.f108=some LG:=by kernel_rfl
theorem Vf:ai Tryz.prog Tryz.f109=some LH:=by kernel_rfl
theorem Vg:ai Tryz.prog Tryz.f110=some LI:=by kernel_rfl
theorem Vh:ai Tryz.prog Tryz.f111=some LJ:=by kernel_rfl
theorem Vi:ai Tryz.prog Tryz.f119=some LL:=by kernel_rfl
theorem Vj:ai Tryz.prog Tryz.f121=some LM:=by kernel_rfl
theorem Vk:ai Tryz.prog Tryz.f122=some LN:=by kernel_rfl
theorem Vl:ai Tryz.prog Tryz.f123=some LO:=by kernel_rfl
theorem Vm:ai Tryz.prog Tryz.f124=some LP:=by kernel_rfl
theorem Vn:ai Tryz.prog Tryz.f125=some LQ:=by kernel_rfl
theorem Vo:ai Tryz.prog Tryz.f126=some LR:=by kernel_rfl
theorem Vp:ai Tryz.prog Tryz.f127=some LS:=by kernel_rfl
theorem Vq:ai Tryz.prog Tryz.f128=some LU:=by kernel_rfl
theorem Vr:ai Tryz.prog Tryz.f136=some LV:=by kernel_rfl
theorem Vs:ai Tryz.prog Tryz.f137=some LW:=by kernel_rfl
theorem Vt:ai Tryz.prog Tryz.f138=some LX:=by kernel_rfl
theorem Vu:ai Tryz.prog Tryz.f140=some LY:=by kernel_rfl
theorem Vv:ai Tryz.prog Tryz.f141=some LZ:=by kernel_rfl
theorem Vw:ai Tryz.prog Tryz.f142=some L2:=by kernel_rfl
theorem Vx:ai Tryz.prog Tryz.f143=some L6:=by kernel_rfl
theorem Vy:ai Tryz.prog Tryz.f144=some Ma:=by kernel_rfl
theorem Vz:ai Tryz.prog Tryz.f149=some Mb:=by kernel_rfl
theorem VA:ai Tryz.prog Tryz.f151=some Mc:=by kernel_rfl
theorem VB:ai Tryz.prog Tryz.f152=some Md:=by kernel_rfl
theorem VE:ai Tryz.prog Tryz.f153=some Me:=by kernel_rfl
theorem VF:ai Tryz.prog Tryz.f156=some Mf:=by kernel_rfl
theorem VG:ai Tryz.prog Tryz.f157=some Mg:=by kernel_rfl
theorem VH:ai Tryz.prog Tryz.f158=some Mh:=by kernel_rfl
theorem VI:ai Tryz.prog Tryz.f159=some Mi:=by kernel_rfl
theorem VJ:ai Tryz.prog Tryz.f160=some Mj:=by kernel_rfl
theorem VK:ai Tryz.prog Tryz.f164=some Mk:=by kernel_rfl
theorem VL:ai Tryz.prog Tryz.f167=some Ml:=by kernel_rfl
theorem VM:ai Tryz.prog Tryz.f168=some Mm:=by kernel_rfl
theorem VN:ai Tryz.prog Tryz.f171=some Mn:=by kernel_rfl
theorem VP:ai Tryz.prog Tryz.f174=some Mo:=by kernel_rfl
theorem VQ:ai Tryz.prog Tryz.f175=some Mp:=by kernel_rfl
theorem VR:ai Tryz.prog Tryz.f176=some Mq:=by kernel_rfl
theorem VT:ai Tryz.prog Tryz.f177=some Mr:=by kernel_rfl
theorem VU:ai Tryz.prog Tryz.f178=some Ms:=by kernel_rfl
theorem VV:ai Tryz.prog Tryz.f179=some Mt:=by kernel_rfl
theorem VW:ai Tryz.prog Tryz.f180=some Mu:=by kernel_rfl
theorem VY:ai Tryz.prog Tryz.f183=some Mv:=by kernel_rfl
theorem VZ:ai Tryz.prog Tryz.f185=some Mw:=by kernel_rfl
theorem V0:ai Tryz.prog Tryz.f186=some Mx:=by kernel_rfl
theorem V1:ai Tryz.prog Tryz.f187=some My:=by kernel_rfl
theorem V2:ai Tryz.prog Tryz.f188=some Mz:=by kernel_rfl
theorem V3:ai Tryz.prog Tryz.f189=some MA:=by kernel_rfl
theorem V4:ai Tryz.prog Tryz.f214=some MB:=by kernel_rfl
theorem V5:ai Tryz.prog Tryz.f222=some MC:=by kernel_rfl
theorem V6:ai Tryz.prog Tryz.f223=some MD:=by kernel_rfl
theorem V7:ai Tryz.prog Tryz.f224=some ME:=by kernel_rfl
theorem V8:ai Tryz.prog Tryz.f225=some MF:=by kernel_rfl
theorem V9:ai Tryz.prog Tryz.f226=some MG:=by kernel_rfl
theorem Wa:ai Tryz.prog Tryz.f227=some MH:=by kernel_rfl
theorem Wb:ai Tryz.prog Tryz.f228=some MI:=by kernel_rfl
theorem Wc:ai Tryz.prog Tryz.f229=some MJ:=by kernel_rfl
theorem Wd:ai Tryz.prog Tryz.f230=some MK:=by kernel_rfl
theorem We:ai Tryz.prog Tryz.f231=some ML:=by kernel_rfl
theorem Wf:ai Tryz.prog Tryz.f234=some MM:=by kernel_rfl
theorem Wg:ai Tryz.prog Tryz.f237=some I9:=by kernel_rfl
theorem Wh:ai Tryz.prog Tryz.f264=some MN:=by kernel_rfl
theorem Wi:ai Tryz.prog Tryz.f266=some MO:=by kernel_rfl
theorem Wj:ai Tryz.prog Tryz.f267=some MP:=by kernel_rfl
theorem Wk:ai Tryz.prog Tryz.f268=some MQ:=by kernel_rfl
theorem Wl:ai Tryz.prog Tryz.f269=some MR:=by kernel_rfl
theorem Wm:ai Tryz.prog Tryz.f270=some MS:=by kernel_rfl
theorem Wn:ai Tryz.prog Tryz.f271=some MT:=by kernel_rfl
theorem Wo:ai Tryz.prog Tryz.f272=some MU:=by kernel_rfl
theorem Wp:ai Tryz.prog Tryz.f273=some MV:=by kernel_rfl
theorem Wq:ai Tryz.prog Tryz.f274=some MW:=by kernel_rfl
theorem Wr:ai Tryz.prog Tryz.f275=some MY:=by kernel_rfl
theorem Ws:ai Tryz.prog Tryz.f276=some MZ:=by kernel_rfl
theorem Wt:ai Tryz.prog Tryz.f277=some M0:=by kernel_rfl
theorem Wu:ai Tryz.prog Tryz.f278=some M1:=by kernel_rfl
theorem Wv:ai Tryz.prog Tryz.f295=some M3:=by kernel_rfl
theorem Ww:ai Tryz.prog Tryz.f296=some M4:=by kernel_rfl
theorem Wx:ai Tryz.prog Tryz.f297=some M5:=by kernel_rfl
theorem Wy:ai Tryz.prog Tryz.f298=some M6:=by kernel_rfl
theorem Wz:ai Tryz.prog Tryz.f299=some M7:=by kernel_rfl
theorem WA:ai Tryz.prog Tryz.f300=some M8:=by kernel_rfl
theorem WB:ai Tryz.prog Tryz.f301=some M9:=by kernel_rfl
theorem WC:ai Tryz.prog Tryz.f302=some Na:=by kernel_rfl
theorem WD:ai Tryz.prog Tryz.f303=some Nb:=by kernel_rfl
theorem WE:ai Tryz.prog Tryz.f304=some Nc:=by kernel_rfl
theorem WG:ai Tryz.prog Tryz.f305=some Nd:=by kernel_rfl
theorem WH:ai Tryz.prog Tryz.f306=some Nf:=by kernel_rfl
theorem WI:ai Tryz.prog Tryz.f307=some Ng:=by kernel_rfl
theorem WJ:ai Tryz.prog Tryz.f315=some Nh:=by kernel_rfl
theorem WK:ai Tryz.prog Tryz.f317=some Ni:=by kernel_rfl
theorem WL:ai Tryz.prog Tryz.f318=some Nj:=by kernel_rfl
theorem WM:ai Tryz.prog Tryz.f319=some Nk:=by kernel_rfl
theorem WN:ai Tryz.prog Tryz.f320=some Nl:=by kernel_rfl
theorem WO:ai Tryz.prog Tryz.f322=some Nm:=by kernel_rfl
theorem WQ:ai Tryz.prog Tryz.f331=some Nn:=by kernel_rfl
theorem WR:ai Tryz.prog Tryz.f333=some No:=by kernel_rfl
theorem WT:ai Tryz.prog Tryz.f334=some Np:=by kernel_rfl
theorem WU:ai Tryz.prog Tryz.f337=some Nq:=by kernel_rfl
theorem WV:ai Tryz.prog Tryz.f338=some Nr:=by kernel_rfl
theorem WW:ai Tryz.prog Tryz.f339=some Ns:=by kernel_rfl
theorem WX:ai Tryz.prog Tryz.f345=some Nu:=by kernel_rfl
theorem all:I8 (fun f af=>∃fn,Tryz.prog.funcs[f]?=some fn∧ai Tryz.prog fn=some af) YC:=
 ⟨⟨_,Tryz.func3,L3⟩,⟨_,Tryz.func4,L4⟩,⟨_,Tryz.func5,L5⟩,⟨_,Tryz.func7,L7⟩,⟨_,Tryz.func8,L8⟩,⟨_,Tryz.func9,L9⟩,⟨_,Tryz.func10,L10⟩,⟨_,Tryz.func11,L11⟩,⟨_,Tryz.func12,L12⟩,⟨_,Tryz.func13,L13⟩,⟨_,Tryz.func14,L14⟩,⟨_,Tryz.func15,L15⟩,⟨_,Tryz.func16,L16⟩,⟨_,Tryz.func17,L17⟩,⟨_,Tryz.func18,L18⟩,⟨_,Tryz.func19,L19⟩,⟨_,Tryz.func20,L20⟩,⟨_,Tryz.func21,L21⟩,⟨_,Tryz.func22,L22⟩,⟨_,Tryz.func23,L23⟩,⟨_,Tryz.func24,L24⟩,⟨_,Tryz.func25,L25⟩,⟨_,Tryz.func26,L26⟩,⟨_,Tryz.func27,L27⟩,⟨_,Tryz.func28,L28⟩,⟨_,Tryz.func29,L29⟩,⟨_,Tryz.func30,L30⟩,⟨_,Tryz.func31,L31⟩,⟨_,Tryz.func32,L32⟩,⟨_,Tryz.func33,L33⟩,⟨_,Tryz.func34,L34⟩,⟨_,Tryz.func35,L35⟩,⟨_,Tryz.func36,L36⟩,⟨_,Tryz.func37,L37⟩,⟨_,Tryz.func38,L38⟩,⟨_,Tryz.func39,L39⟩,⟨_,Tryz.func40,L40⟩,⟨_,Tryz.func41,L41⟩,⟨_,Tryz.func42,L42⟩,⟨_,Tryz.func43,L43⟩,⟨_,Tryz.func44,L44⟩,⟨_,Tryz.func45,L45⟩,⟨_,Tryz.func46,L46⟩,⟨_,Tryz.func47,L47⟩,⟨_,Tryz.func48,L48⟩,⟨_,Tryz.func49,L49⟩,⟨_,Tryz.func50,L50⟩,⟨_,Tryz.func51,L51⟩,⟨_,Tryz.func52,L52⟩,⟨_,Tryz.func53,L53⟩,⟨_,Tryz.func54,L54⟩,⟨_,Tryz.func55,L55⟩,⟨_,Tryz.func56,L56⟩,⟨_,Tryz.func57,L57⟩,⟨_,Tryz.func58,L58⟩,⟨_,Tryz.func59,L59⟩,⟨_,Tryz.func60,L60⟩,⟨_,Tryz.func61,L61⟩,⟨_,Tryz.func62,L62⟩,⟨_,Tryz.func63,L63⟩,⟨_,Tryz.func64,L64⟩,⟨_,Tryz.func65,L65⟩,⟨_,Tryz.func66,L66⟩,⟨_,Tryz.func67,L67⟩,⟨_,Tryz.func68,L68⟩,⟨_,Tryz.func69,L69⟩,⟨_,Tryz.func70,L70⟩,⟨_,Tryz.func71,L71⟩,⟨_,Tryz.func72,L72⟩,⟨_,Tryz.func73,L73⟩,⟨_,Tryz.func74,L74⟩,⟨_,Tryz.func75,L75⟩,⟨_,Tryz.func76,L76⟩,⟨_,Tryz.func77,L77⟩,⟨_,Tryz.func78,L78⟩,⟨_,Tryz.func81,L81⟩,⟨_,Tryz.func83,L83⟩,⟨_,Tryz.func84,L84⟩,⟨_,Tryz.func85,L85⟩,⟨_,Tryz.func86,L86⟩,⟨_,Tryz.func87,L87⟩,⟨_,Tryz.func89,L89⟩,⟨_,Tryz.func95,L95⟩,⟨_,Tryz.func96,L96⟩,⟨_,Tryz.func97,L97⟩,⟨_,Tryz.func98,L98⟩,⟨_,Tryz.func99,L99⟩,⟨_,Tryz.func100,U9⟩,⟨_,Tryz.func102,Va⟩,⟨_,Tryz.func103,Vb⟩,⟨_,Tryz.func105,Vc⟩,⟨_,Tryz.func107,Vd⟩,⟨_,Tryz.func108,Ve⟩,⟨_,Tryz.func109,Vf⟩,⟨_,Tryz.func110,Vg⟩,⟨_,Tryz.func111,Vh⟩,⟨_,Tryz.func119,Vi⟩,⟨_,Tryz.func121,Vj⟩,⟨_,Tryz.func122,Vk⟩,⟨_,Tryz.func123,Vl⟩,⟨_,Tryz.func124,Vm⟩,⟨_,Tryz.func125,Vn⟩,⟨_,Tryz.func126,Vo⟩,⟨_,Tryz.func127,Vp⟩,⟨_,Tryz.func128,Vq⟩,⟨_,Tryz.func136,Vr⟩,⟨_,Tryz.func137,Vs⟩,⟨_,Tryz.func138,Vt⟩,⟨_,Tryz.func140,Vu⟩,⟨_,Tryz.func141,Vv⟩,⟨_,Tryz.func142,Vw⟩,⟨_,Tryz.func143,Vx⟩,⟨_,Tryz.func144,Vy⟩,⟨_,Tryz.func149,Vz⟩,⟨_,Tryz.func151,VA⟩,⟨_,Tryz.func152,VB⟩,⟨_,Tryz.func153,VE⟩,⟨_,Tryz.func156,VF⟩,⟨_,Tryz.func157,VG⟩,⟨_,Tryz.func158,VH⟩,⟨_,Tryz.func159,VI⟩,⟨_,Tryz.func160,VJ⟩,⟨_,Tryz.func164,VK⟩,⟨_,Tryz.func167,VL⟩,⟨_,Tryz.func168,VM⟩,⟨_,Tryz.func171,VN⟩,⟨_,Tryz.func174,VP⟩,⟨_,Tryz.func175,VQ⟩,⟨_,Tryz.func176,VR⟩,⟨_,Tryz.func177,VT⟩,⟨_,Tryz.func178,VU⟩,⟨_,Tryz.func179,VV⟩,⟨_,Tryz.func180,VW⟩,⟨_,Tryz.func183,VY⟩,⟨_,Tryz.func185,VZ⟩,⟨_,Tryz.func186,V0⟩,⟨_,Tryz.func187,V1⟩,⟨_,Tryz.func188,V2⟩,⟨_,Tryz.func189,V3⟩,⟨_,Tryz.func214,V4⟩,⟨_,Tryz.func222,V5⟩,⟨_,Tryz.func223,V6⟩,⟨_,Tryz.func224,V7⟩,⟨_,Tryz.func225,V8⟩,⟨_,Tryz.func226,V9⟩,⟨_,Tryz.func227,Wa⟩,⟨_,Tryz.func228,Wb⟩,⟨_,Tryz.func229,Wc⟩,⟨_,Tryz.func230,Wd⟩,⟨_,Tryz.func231,We⟩,⟨_,Tryz.func234,Wf⟩,⟨_,Tryz.func237,Wg⟩,⟨_,Tryz.func264,Wh⟩,⟨_,Tryz.func266,Wi⟩,⟨_,Tryz.func267,Wj⟩,⟨_,Tryz.func268,Wk⟩,⟨_,Tryz.func269,Wl⟩,⟨_,Tryz.func270,Wm⟩,⟨_,Tryz.func271,Wn⟩,⟨_,Tryz.func272,Wo⟩,⟨_,Tryz.func273,Wp⟩,⟨_,Tryz.func274,Wq⟩,⟨_,Tryz.func275,Wr⟩,⟨_,Tryz.func276,Ws⟩,⟨_,Tryz.func277,Wt⟩,⟨_,Tryz.func278,Wu⟩,⟨_,Tryz.func295,Wv⟩,⟨_,Tryz.func296,Ww⟩,⟨_,Tryz.func297,Wx⟩,⟨_,Tryz.func298,Wy⟩,⟨_,Tryz.func299,Wz⟩,⟨_,Tryz.func300,WA⟩,⟨_,Tryz.func301,WB⟩,⟨_,Tryz.func302,WC⟩,⟨_,Tryz.func303,WD⟩,⟨_,Tryz.func304,WE⟩,⟨_,Tryz.func305,WG⟩,⟨_,Tryz.func306,WH⟩,⟨_,Tryz.func307,WI⟩,⟨_,Tryz.func315,WJ⟩,⟨_,Tryz.func317,WK⟩,⟨_,Tryz.func318,WL⟩,⟨_,Tryz.func319,WM⟩,⟨_,Tryz.func320,WN⟩,⟨_,Tryz.func322,WO⟩,⟨_,Tryz.func331,WQ⟩,⟨_,Tryz.func333,WR⟩,⟨_,Tryz.func334,WT⟩,⟨_,Tryz.func337,WU⟩,⟨_,Tryz.func338,WV⟩,⟨_,Tryz.func339,WW⟩,⟨_,Tryz.func345,WX⟩,trivial⟩
theorem tie:T=Sy YC:=by kernel_rfl
theorem Eu:I8 (fun _ af=>eS af.body=true) YC:=
 ⟨rfl,rfl,rfl,rfl,rfl,rfl,rfl,rfl,rfl,rfl,rfl,rfl,rfl,rfl,rfl,rfl,rfl,rfl,rfl,rfl,rfl,rfl,rfl,rfl,rfl,rfl,rfl,rfl,rfl,rfl,rfl,rfl,rfl,rfl,rfl,rfl,rfl,rfl,rfl,rfl,rfl,rfl,rfl,rfl,rfl,rfl,rfl,rfl,rfl,rfl,rfl,rfl,rfl,rfl,rfl,rfl,rfl,rfl,rfl,rfl,rfl,rfl,rfl,rfl,rfl,rfl,rfl,rfl,rfl,rfl,rfl,rfl,rfl,rfl,rfl,rfl,rfl,rfl,rfl,rfl,rfl,rfl,rfl,rfl,rfl,rfl,rfl,rfl,rfl,rfl,rfl,rfl,rfl,rfl,rfl,rfl,rfl,rfl,rfl,rfl,rfl,rfl,rfl,rfl,rfl,rfl,rfl,rfl,rfl,rfl,rfl,rfl,rfl,rfl,rfl,rfl,rfl,rfl,rfl,rfl,rfl,rfl,rfl,rfl,rfl,rfl,rfl,rfl,rfl,rfl,rfl,rfl,rfl,rfl,rfl,rfl,rfl,rfl,rfl,rfl,rfl,rfl,rfl,rfl,rfl,rfl,rfl,rfl,rfl,rfl,rfl,rfl,rfl,rfl,rfl,rfl,rfl,rfl,rfl,rfl,rfl,rfl,rfl,rfl,rfl,rfl,rfl,rfl,rfl,rfl,rfl,rfl,rfl,rfl,rfl,rfl,rfl,rfl,rfl,rfl,rfl,rfl,rfl,rfl,rfl,rfl,rfl,rfl,rfl,rfl,rfl,rfl,trivial⟩
theorem codes(f:Nat)(af:aj)(h:fs f=some af):eS af.body=true:=by unfold fs at h;rw[tie] at h;exact sC Eu h
end Ir
end Go.Proofs.YtmnolnoeibhjgaaGreat
