/-
  The printed functions are what the loaded ones compile to.
-/
import Derived.Test.YtnlcabhfkpafmaaGreatIrCode
import Derived.Test.YtnlcabhfkpafmaaGreatVsWp
import Derived.Test.YtnlcabhfkpafmaaGreatChecked
import Derived.KernelRfl
set_option linter.unusedVariables false
set_option maxRecDepth 100000
namespace Go.Proofs.YtnlcabhfkpafmaaGreat
open Go Ads
namespace Ir
abbrev ZA:List (Nat×an):=[(5,C5),(7,C7),(9,C9),(10,UY),(12,UZ),(13,U0),(14,U1),(15,U2),(16,U3),(17,U4),(18,U5),(19,U6),(20,U7),(21,U8),(22,U9),(23,Va),(24,Vb),(25,Vc),(26,Vd),(27,Ve),(28,Vf),(29,Vg),(30,Vh),(31,S9),(32,Vi),(33,Vj),(34,Vk),(35,Vl),(36,Sz),(37,Vm),(38,Vn),(39,Vo),(40,Vp),(41,Vq),(42,Vr),(46,Vs),(47,Vt),(48,Vu),(49,Vv),(50,Vw),(51,Vx),(52,Vy),(53,Vz),(54,VA),(55,VB),(56,VE),(57,VF),(58,VG),(59,VH),(60,VI),(61,VJ),(62,VK),(63,VL),(64,Ta),(65,VM),(66,VN),(67,VP),(68,VQ),(69,VR),(70,VT),(71,VU),(72,VV),(73,VW),(74,VX),(75,VY),(76,VZ),(77,Tb),(78,V0),(79,V1),(80,V2),(81,V3),(82,V4),(83,Tc),(84,V5),(85,V6),(86,V7),(87,V8),(88,V9),(89,Wa),(90,Wb),(91,Wc),(92,Wd),(93,We),(94,Wf),(95,Wg),(96,Wh),(97,Wi),(98,Wj),(99,Wk),(100,KR),(101,KS),(102,KT),(103,KU),(104,GS),(105,KV),(106,KW),(107,KX),(108,GU),(109,KY),(110,KZ),(111,K0),(112,K1),(113,K2),(114,K3),(115,K4),(116,K5),(117,K6),(118,K8),(119,K9),(120,La),(121,Lb),(122,Lc),(123,Ld),(124,Le),(125,Lf),(126,Lg),(127,Lh),(128,Li),(129,Lj),(130,Lk),(131,Ll),(132,Lm),(133,Ln),(134,GV),(135,Lo),(136,Lp),(137,Lq),(138,Lr),(139,Ls),(140,Lt),(141,Lu),(142,Lv),(143,Lw),(144,Lx),(145,Ly),(146,Lz),(147,LA),(148,LB),(149,GW),(150,LC),(151,LD),(152,LF),(153,LG),(154,LH),(155,LI),(156,LJ),(157,LK),(158,LL),(159,LM),(160,LN),(161,LO),(162,LP),(163,LQ),(164,GX),(165,LR),(166,LS),(167,LU),(168,LV),(169,LW),(170,LX),(171,LY),(172,LZ),(173,L3),(174,GY),(175,GZ),(176,L8),(177,Ma),(178,Mb),(179,Mc),(180,Md),(181,Me),(182,Mf),(183,G0),(184,Mg),(185,Mh),(186,G1),(187,Mi),(188,Mj),(189,G2),(198,Mk)]
theorem L5:ai Tryz.prog Tryz.f5=some C5:=by kernel_rfl
theorem L7:ai Tryz.prog Tryz.f7=some C7:=by kernel_rfl
theorem L9:ai Tryz.prog Tryz.f9=some C9:=by kernel_rfl
theorem L10:ai Tryz.prog Tryz.f10=some UY:=by kernel_rfl
theorem L12:ai Tryz.prog Tryz.f12=some UZ:=by kernel_rfl
theorem L13:ai Tryz.prog Tryz.f13=some U0:=by kernel_rfl
theorem L14:ai Tryz.prog Tryz.f14=some U1:=by kernel_rfl
theorem L15:ai Tryz.prog Tryz.f15=some U2:=by kernel_rfl
theorem L16:ai Tryz.prog Tryz.f16=some U3:=by kernel_rfl
theorem L17:ai Tryz.prog Tryz.f17=some U4:=by kernel_rfl
theorem L18:ai Tryz.prog Tryz.f18=some U5:=by kernel_rfl
theorem L19:ai Tryz.prog Tryz.f19=some U6:=by kernel_rfl
theorem L20:ai Tryz.prog Tryz.f20=some U7:=by kernel_rfl
theorem L21:ai Tryz.prog Tryz.f21=some U8:=by kernel_rfl
theorem L22:ai Tryz.prog Tryz.f22=some U9:=by kernel_rfl
theorem L23:ai Tryz.prog Tryz.f23=some Va:=by kernel_rfl
theorem L24:ai Tryz.prog Tryz.f24=some Vb:=by kernel_rfl
theorem L25:ai Tryz.prog Tryz.f25=some Vc:=by kernel_rfl
theorem L26:ai Tryz.prog Tryz.f26=some Vd:=by kernel_rfl
theorem L27:ai Tryz.prog Tryz.f27=some Ve:=by kernel_rfl
theorem L28:ai Tryz.prog Tryz.f28=some Vf:=by kernel_rfl
theorem L29:ai Tryz.prog Tryz.f29=some Vg:=by kernel_rfl
theorem L30:ai Tryz.prog Tryz.f30=some Vh:=by kernel_rfl
theorem L31:ai Tryz.prog Tryz.f31=some S9:=by kernel_rfl
theorem L32:ai Tryz.prog Tryz.f32=some Vi:=by kernel_rfl
theorem L33:ai Tryz.prog Tryz.f33=some Vj:=by kernel_rfl
theorem L34:ai Tryz.prog Tryz.f34=some Vk:=by kernel_rfl
theorem L35:ai Tryz.prog Tryz.f35=some Vl:=by kernel_rfl
theorem L36:ai Tryz.prog Tryz.f36=some Sz:=by kernel_rfl
theorem L37:ai Tryz.prog Tryz.f37=some Vm:=by kernel_rfl
theorem L38:ai Tryz.prog Tryz.f38=some Vn:=by kernel_rfl
theorem L39:ai Tryz.prog Tryz.f39=some Vo:=by kernel_rfl
theorem L40:ai Tryz.prog Tryz.f40=some Vp:=by kernel_rfl
theorem L41:ai Tryz.prog Tryz.f41=some Vq:=by kernel_rfl
theorem L42:ai Tryz.prog Tryz.f42=some Vr:=by kernel_rfl
theorem L46:ai Tryz.prog Tryz.f46=some Vs:=by kernel_rfl
theorem L47:ai Tryz.prog Tryz.f47=some Vt:=by kernel_rfl
theorem L48:ai Tryz.prog Tryz.f48=some Vu:=by kernel_rfl
theorem L49:ai Tryz.prog Tryz.f49=some Vv:=by kernel_rfl
theorem L50:ai Tryz.prog Tryz.f50=some Vw:=by kernel_rfl
theorem L51:ai Tryz.prog Tryz.f51=some Vx:=by kernel_rfl
theorem L52:ai Tryz.prog Tryz.f52=some Vy:=by kernel_rfl
theorem L53:ai Tryz.prog Tryz.f53=some Vz:=by kernel_rfl
theorem L54:ai Tryz.prog Tryz.f54=some VA:=by kernel_rfl
theorem L55:ai Tryz.prog Tryz.f55=some VB:=by kernel_rfl
theorem L56:ai Tryz.prog Tryz.f56=some VE:=by kernel_rfl
theorem L57:ai Tryz.prog Tryz.f57=some VF:=by kernel_rfl
theorem L58:ai Tryz.prog Tryz.f58=some VG:=by kernel_rfl
theorem L59:ai Tryz.prog Tryz.f59=some VH:=by kernel_rfl
theorem L60:ai Tryz.prog Tryz.f60=some VI:=by kernel_rfl
theorem L61:ai Tryz.prog Tryz.f61=some VJ:=by kernel_rfl
theorem L62:ai Tryz.prog Tryz.f62=some VK:=by kernel_rfl
theorem L63:ai Tryz.prog Tryz.f63=some VL:=by kernel_rfl
theorem L64:ai Tryz.prog Tryz.f64=some Ta:=by kernel_rfl
theorem L65:ai Tryz.prog Tryz.f65=some VM:=by kernel_rfl
theorem L66:ai Tryz.prog Tryz.f66=some VN:=by kernel_rfl
theorem L67:ai Tryz.prog Tryz.f67=some VP:=by kernel_rfl
theorem L68:ai Tryz.prog Tryz.f68=some VQ:=by kernel_rfl
theorem L69:ai Tryz.prog Tryz.f69=some VR:=by kernel_rfl
theorem L70:ai Tryz.prog Tryz.f70=some VT:=by kernel_rfl
theorem L71:ai Tryz.prog Tryz.f71=some VU:=by kernel_rfl
theorem L72:ai Tryz.prog Tryz.f72=some VV:=by kernel_rfl
theorem L73:ai Tryz.prog Tryz.f73=some VW:=by kernel_rfl
theorem L74:ai Tryz.prog Tryz.f74=some VX:=by kernel_rfl
theorem L75:ai Tryz.prog Tryz.f75=some VY:=by kernel_rfl
theorem L76:ai Tryz.prog Tryz.f76=some VZ:=by kernel_rfl
theorem L77:ai Tryz.prog Tryz.f77=some Tb:=by kernel_rfl
theorem L78:ai Tryz.prog Tryz.f78=some V0:=by kernel_rfl
theorem L79:ai Tryz.prog Tryz.f79=some V1:=by kernel_rfl
theorem L80:ai Tryz.prog Tryz.f80=some V2:=by kernel_rfl
theorem L81:ai Tryz.prog Tryz.f81=some V3:=by kernel_rfl
theorem L82:ai Tryz.prog Tryz.f82=some V4:=by kernel_rfl
theorem L83:ai Tryz.prog Tryz.f83=some Tc:=by kernel_rfl
theorem L84:ai Tryz.prog Tryz.f84=some V5:=by kernel_rfl
theorem L85:ai Tryz.prog Tryz.f85=some V6:=by kernel_rfl
theorem L86:ai Tryz.prog Tryz.f86=some V7:=by kernel_rfl
theorem L87:ai Tryz.prog Tryz.f87=some V8:=by kernel_rfl
theorem L88:ai Tryz.prog Tryz.f88=some V9:=by kernel_rfl
theorem L89:ai Tryz.prog Tryz.f89=some Wa:=by kernel_rfl
theorem L90:ai Tryz.prog Tryz.f90=some Wb:=by kernel_rfl
theorem L91:ai Tryz.prog Tryz.f91=some Wc:=by kernel_rfl
theorem L92:ai Tryz.prog Tryz.f92=some Wd:=by kernel_rfl
theorem L93:ai Tryz.prog Tryz.f93=some We:=by kernel_rfl
theorem L94:ai Tryz.prog Tryz.f94=some Wf:=by kernel_rfl
theorem L95:ai Tryz.prog Tryz.f95=some Wg:=by kernel_rfl
theorem L96:ai Tryz.prog Tryz.f96=some Wh:=by kernel_rfl
theorem L97:ai Tryz.prog Tryz.f97=some Wi:=by kernel_rfl
theorem L98:ai Tryz.prog Tryz.f98=some Wj:=by kernel_rfl
theorem L99:ai Tryz.prog Tryz.f99=some Wk:=by kernel_rfl
theorem WL:ai Tryz.prog Tryz.f100=some KR:=by kernel_rfl
theorem WM:ai Tryz.prog Tryz.f101=some KS:=by kernel_rfl
theorem WN:ai Tryz.prog Tryz.f102=some KT:=by kernel_rfl
theorem WO:ai Tryz.prog Tryz.f103=some KU:=by kernel_rfl
theorem WQ:ai Tryz.prog Tryz.f104=some GS:=by kernel_rfl
theorem WR:ai Tryz.prog Tryz.f105=some KV:=by kernel_rfl
theorem WS:ai Tryz.prog Tryz.f106=some KW:=by kernel_rfl
theorem WT:ai Tryz.prog Tryz.f107=some KX:=by kernel_rfl
theorem WU:ai Tryz.prog Tryz.f108=some GU:=by kernel_rfl
theorem WV:ai Tryz.prog Tryz.f109=some KY:=by kernel_rfl
theorem WW:ai Tryz.prog Tryz.f110=some KZ:=by kernel_rfl
theorem WX:ai Tryz.prog Tryz.f111=some K0:=by kernel_rfl
theorem WY:ai Tryz.prog Tryz.f112=some K1:=by kernel_rfl
theorem WZ:ai Tryz.prog Tryz.f113=some K2:=by kernel_rfl
theorem W1:ai Tryz.prog Tryz.f114=some K3:=by kernel_rfl
theorem W2:ai Tryz.prog Tryz.f115=some K4:=by kernel_rfl
theorem W3:ai Tryz.prog Tryz.f116=some K5:=by kernel_rfl
theorem W4:ai Tryz.prog Tryz.f117=some K6:=by kernel_rfl
theorem W5:ai Tryz.prog Tryz.f118=some K8:=by kernel_rfl
theorem W6:ai Tryz.prog Tryz.f119=some K9:=by kernel_rfl
theorem W7:ai Tryz.prog Tryz.f120=some La:=by kernel_rfl
theorem W8:ai Tryz.prog Tryz.f121=some Lb:=by kernel_rfl
theorem W9:ai Tryz.prog Tryz.f122=some Lc:=by kernel_rfl
theorem Xa:ai Tryz.prog Tryz.f123=some Ld:=by kernel_rfl
theorem Xb:ai Tryz.prog Tryz.f124=some Le:=by kernel_rfl
theorem Xc:ai Tryz.prog Tryz.f125=some Lf:=by kernel_rfl
theorem Xd:ai Tryz.prog Tryz.f126=some Lg:=by kernel_rfl
theorem Xe:ai Tryz.prog Tryz.f127=some Lh:=by kernel_rfl
theorem Xf:ai Tryz.prog Tryz.f128=some Li:=by kernel_rfl
theorem Xg:ai Tryz.prog Tryz.f129=some Lj:=by kernel_rfl
theorem Xh:ai Tryz.prog Tryz.f130=some Lk:=by kernel_rfl
theorem Xi:ai Tryz.prog Tryz.f131=some Ll:=by kernel_rfl
theorem Xj:ai Tryz.prog Tryz.f132=some Lm:=by kernel_rfl
theorem Xk:ai Tryz.prog Tryz.f133=some Ln:=by kernel_rfl
theorem Xl:ai Tryz.prog Tryz.f134=some GV:=by kernel_rfl
theorem Xm:ai Tryz.prog Tryz.f135=some Lo:=by kernel_rfl
theorem Xn:ai Tryz.prog Tryz.f136=some Lp:=by kernel_rfl
theorem Xo:ai Tryz.prog Tryz.f137=some Lq:=by kernel_rfl
theorem Xp:ai Tryz.prog Tryz.f138=some Lr:=by kernel_rfl
theorem Xq:ai Tryz.prog Tryz.f139=some Ls:=by kernel_rfl
theorem Xr:ai Tryz.prog Tryz.f140=some Lt:=by kernel_rfl
theorem Xs:ai Tryz.prog Tryz.f141=some Lu:=by kernel_rfl
theorem Xt:ai Tryz.prog Tryz.f142=some Lv:=by kernel_rfl
theorem Xu:ai Tryz.prog Tryz.f143=some Lw:=by kernel_rfl
theorem Xv:ai Tryz.prog Tryz.f144=some Lx:=by kernel_rfl
theorem Xw:ai Tryz.prog Tryz.f145=some Ly:=by kernel_rfl
theorem Xx:ai Tryz.prog Tryz.f146=some Lz:=by kernel_rfl
theorem Xy:ai Tryz.prog Tryz.f147=some LA:=by kernel_rfl
theorem Xz:ai Tryz.prog Tryz.f148=some LB:=by kernel_rfl
theorem XA:ai Tryz.prog Tryz.f149=some GW:=by kernel_rfl
theorem XB:ai Tryz.prog Tryz.f150=some LC:=by kernel_rfl
theorem XC:ai Tryz.prog Tryz.f151=some LD:=by kernel_rfl
theorem XD:ai Tryz.prog Tryz.f152=some LF:=by kernel_rfl
theorem XE:ai Tryz.prog Tryz.f153=some LG:=by kernel_rfl
theorem XF:ai Tryz.prog Tryz.f154=some LH:=by kernel_rfl
theorem XG:ai Tryz.prog Tryz.f155=some LI:=by kernel_rfl
theorem XH:ai Tryz.prog Tryz.f156=some LJ:=by kernel_rfl
theorem XI:ai Tryz.prog Tryz.f157=some LK:=by kernel_rfl
theorem XJ:ai Tryz.prog Tryz.f158=some LL:=by kernel_rfl
theorem XK:ai Tryz.prog Tryz.f159=some LM:=by kernel_rfl
theorem XL:ai Tryz.prog Tryz.f160=some LN:=by kernel_rfl
theorem XM:ai Tryz.prog Tryz.f161=some LO:=by kernel_rfl
theorem XN:ai Tryz.prog Tryz.f162=some LP:=by kernel_rfl
theorem XO:ai Tryz.prog Tryz.f163=some LQ:=by kernel_rfl
theorem XP:ai Tryz.prog Tryz.f164=some GX:=by kernel_rfl
theorem XQ:ai Tryz.prog Tryz.f165=some LR:=by kernel_rfl
theorem XR:ai Tryz.prog Tryz.f166=some LS:=by kernel_rfl
theorem XS:ai Tryz.prog Tryz.f167=some LU:=by kernel_rfl
theorem XT:ai Tryz.prog Tryz.f168=some LV:=by kernel_rfl
theorem XU:ai Tryz.prog Tryz.f169=some LW:=by kernel_rfl
theorem XV:ai Tryz.prog Tryz.f170=some LX:=by kernel_rfl
theorem XW:ai Tryz.prog Tryz.f171=some LY:=by kernel_rfl
theorem XX:ai Tryz.prog Tryz.f172=some LZ:=by kernel_rfl
theorem XY:ai Tryz.prog Tryz.f173=some L3:=by kernel_rfl
theorem XZ:ai Tryz.prog Tryz.f174=some GY:=by kernel_rfl
theorem X0:ai Tryz.prog Tryz.f175=some GZ:=by kernel_rfl
theorem X1:ai Tryz.prog Tryz.f176=some L8:=by kernel_rfl
theorem X2:ai Tryz.prog Tryz.f177=some Ma:=by kernel_rfl
theorem X3:ai Tryz.prog Tryz.f178=some Mb:=by kernel_rfl
theorem X4:ai Tryz.prog Tryz.f179=some Mc:=by kernel_rfl
theorem X5:ai Tryz.prog Tryz.f180=some Md:=by kernel_rfl
theorem X6:ai Tryz.prog Tryz.f181=some Me:=by kernel_rfl
theorem X7:ai Tryz.prog Tryz.f182=some Mf:=by kernel_rfl
theorem X8:ai Tryz.prog Tryz.f183=some G0:=by kernel_rfl
theorem X9:ai Tryz.prog Tryz.f184=some Mg:=by kernel_rfl
theorem Ya:ai Tryz.prog Tryz.f185=some Mh:=by kernel_rfl
theorem Yb:ai Tryz.prog Tryz.f186=some G1:=by kernel_rfl
theorem Yc:ai Tryz.prog Tryz.f187=some Mi:=by kernel_rfl
theorem Yd:ai Tryz.prog Tryz.f188=some Mj:=by kernel_rfl
theorem Ye:ai Tryz.prog Tryz.f189=some G2:=by kernel_rfl
theorem Yf:ai Tryz.prog Tryz.f198=some Mk:=by kernel_rfl
theorem all:KQ (fun f af=>∃fn,Tryz.prog.funcs[f]?=some fn∧ai Tryz.prog fn=some af) ZA:=
 ⟨⟨_,Tryz.func5,L5⟩,⟨_,Tryz.func7,L7⟩,⟨_,Tryz.func9,L9⟩,⟨_,Tryz.func10,L10⟩,⟨_,Tryz.func12,L12⟩,⟨_,Tryz.func13,L13⟩,⟨_,Tryz.func14,L14⟩,⟨_,Tryz.func15,L15⟩,⟨_,Tryz.func16,L16⟩,⟨_,Tryz.func17,L17⟩,⟨_,Tryz.func18,L18⟩,⟨_,Tryz.func19,L19⟩,⟨_,Tryz.func20,L20⟩,⟨_,Tryz.func21,L21⟩,⟨_,Tryz.func22,L22⟩,⟨_,Tryz.func23,L23⟩,⟨_,Tryz.func24,L24⟩,⟨_,Tryz.func25,L25⟩,⟨_,Tryz.func26,L26⟩,⟨_,Tryz.func27,L27⟩,⟨_,Tryz.func28,L28⟩,⟨_,Tryz.func29,L29⟩,⟨_,Tryz.func30,L30⟩,⟨_,Tryz.func31,L31⟩,⟨_,Tryz.func32,L32⟩,⟨_,Tryz.func33,L33⟩,⟨_,Tryz.func34,L34⟩,⟨_,Tryz.func35,L35⟩,⟨_,Tryz.func36,L36⟩,⟨_,Tryz.func37,L37⟩,⟨_,Tryz.func38,L38⟩,⟨_,Tryz.func39,L39⟩,⟨_,Tryz.func40,L40⟩,⟨_,Tryz.func41,L41⟩,⟨_,Tryz.func42,L42⟩,⟨_,Tryz.func46,L46⟩,⟨_,Tryz.func47,L47⟩,⟨_,Tryz.func48,L48⟩,⟨_,Tryz.func49,L49⟩,⟨_,Tryz.func50,L50⟩,⟨_,Tryz.func51,L51⟩,⟨_,Tryz.func52,L52⟩,⟨_,Tryz.func53,L53⟩,⟨_,Tryz.func54,L54⟩,⟨_,Tryz.func55,L55⟩,⟨_,Tryz.func56,L56⟩,⟨_,Tryz.func57,L57⟩,⟨_,Tryz.func58,L58⟩,⟨_,Tryz.func59,L59⟩,⟨_,Tryz.func60,L60⟩,⟨_,Tryz.func61,L61⟩,⟨_,Tryz.func62,L62⟩,⟨_,Tryz.func63,L63⟩,⟨_,Tryz.func64,L64⟩,⟨_,Tryz.func65,L65⟩,⟨_,Tryz.func66,L66⟩,⟨_,Tryz.func67,L67⟩,⟨_,Tryz.func68,L68⟩,⟨_,Tryz.func69,L69⟩,⟨_,Tryz.func70,L70⟩,⟨_,Tryz.func71,L71⟩,⟨_,Tryz.func72,L72⟩,⟨_,Tryz.func73,L73⟩,⟨_,Tryz.func74,L74⟩,⟨_,Tryz.func75,L75⟩,⟨_,Tryz.func76,L76⟩,⟨_,Tryz.func77,L77⟩,⟨_,Tryz.func78,L78⟩,⟨_,Tryz.func79,L79⟩,⟨_,Tryz.func80,L80⟩,⟨_,Tryz.func81,L81⟩,⟨_,Tryz.func82,L82⟩,⟨_,Tryz.func83,L83⟩,⟨_,Tryz.func84,L84⟩,⟨_,Tryz.func85,L85⟩,⟨_,Tryz.func86,L86⟩,⟨_,Tryz.func87,L87⟩,⟨_,Tryz.func88,L88⟩,⟨_,Tryz.func89,L89⟩,⟨_,Tryz.func90,L90⟩,⟨_,Tryz.func91,L91⟩,⟨_,Tryz.func92,L92⟩,⟨_,Tryz.func93,L93⟩,⟨_,Tryz.func94,L94⟩,⟨_,Tryz.func95,L95⟩,⟨_,Tryz.func96,L96⟩,⟨_,Tryz.func97,L97⟩,⟨_,Tryz.func98,L98⟩,⟨_,Tryz.func99,L99⟩,⟨_,Tryz.func100,WL⟩,⟨_,Tryz.func101,WM⟩,⟨_,Tryz.func102,WN⟩,⟨_,Tryz.func103,WO⟩,⟨_,Tryz.func104,WQ⟩,⟨_,Tryz.func105,WR⟩,⟨_,Tryz.func106,WS⟩,⟨_,Tryz.func107,WT⟩,⟨_,Tryz.func108,WU⟩,⟨_,Tryz.func109,WV⟩,⟨_,Tryz.func110,WW⟩,⟨_,Tryz.func111,WX⟩,⟨_,Tryz.func112,WY⟩,⟨_,Tryz.func113,WZ⟩,⟨_,Tryz.func114,W1⟩,⟨_,Tryz.func115,W2⟩,⟨_,Tryz.func116,W3⟩,⟨_,Tryz.func117,W4⟩,⟨_,Tryz.func118,W5⟩,⟨_,Tryz.func119,W6⟩,⟨_,Tryz.func120,W7⟩,⟨_,Tryz.func121,W8⟩,⟨_,Tryz.func122,W9⟩,⟨_,Tryz.func123,Xa⟩,⟨_,Tryz.func124,Xb⟩,⟨_,Tryz.func125,Xc⟩,⟨_,Tryz.func126,Xd⟩,⟨_,Tryz.func127,Xe⟩,⟨_,Tryz.func128,Xf⟩,⟨_,Tryz.func129,Xg⟩,⟨_,Tryz.func130,Xh⟩,⟨_,Tryz.func131,Xi⟩,⟨_,Tryz.func132,Xj⟩,⟨_,Tryz.func133,Xk⟩,⟨_,Tryz.func134,Xl⟩,⟨_,Tryz.func135,Xm⟩,⟨_,Tryz.func136,Xn⟩,⟨_,Tryz.func137,Xo⟩,⟨_,Tryz.func138,Xp⟩,⟨_,Tryz.func139,Xq⟩,⟨_,Tryz.func140,Xr⟩,⟨_,Tryz.func141,Xs⟩,⟨_,Tryz.func142,Xt⟩,⟨_,Tryz.func143,Xu⟩,⟨_,Tryz.func144,Xv⟩,⟨_,Tryz.func145,Xw⟩,⟨_,Tryz.func146,Xx⟩,⟨_,Tryz.func147,Xy⟩,⟨_,Tryz.func148,Xz⟩,⟨_,Tryz.func149,XA⟩,⟨_,Tryz.func150,XB⟩,⟨_,Tryz.func151,XC⟩,⟨_,Tryz.func152,XD⟩,⟨_,Tryz.func153,XE⟩,⟨_,Tryz.func154,XF⟩,⟨_,Tryz.func155,XG⟩,⟨_,Tryz.func156,XH⟩,⟨_,Tryz.func157,XI⟩,⟨_,Tryz.func158,XJ⟩,⟨_,Tryz.func159,XK⟩,⟨_,Tryz.func160,XL⟩,⟨_,Tryz.func161,XM⟩,⟨_,Tryz.func162,XN⟩,⟨_,Tryz.func163,XO⟩,⟨_,Tryz.func164,XP⟩,⟨_,Tryz.func165,XQ⟩,⟨_,Tryz.func166,XR⟩,⟨_,Tryz.func167,XS⟩,⟨_,Tryz.func168,XT⟩,⟨_,Tryz.func169,XU⟩,⟨_,Tryz.func170,XV⟩,⟨_,Tryz.func171,XW⟩,⟨_,Tryz.func172,XX⟩,⟨_,Tryz.func173,XY⟩,⟨_,Tryz.func174,XZ⟩,⟨_,Tryz.func175,X0⟩,⟨_,Tryz.func176,X1⟩,⟨_,Tryz.func177,X2⟩,⟨_,Tryz.func178,X3⟩,⟨_,Tryz.func179,X4⟩,⟨_,Tryz.func180,X5⟩,⟨_,Tryz.func181,X6⟩,⟨_,Tryz.func182,X7⟩,⟨_,Tryz.func183,X8⟩,⟨_,Tryz.func184,X9⟩,⟨_,Tryz.func185,Ya⟩,⟨_,Tryz.func186,Yb⟩,⟨_,Tryz.func187,Yc⟩,⟨_,Tryz.func188,Yd⟩,⟨_,Tryz.func189,Ye⟩,⟨_,Tryz.func198,Yf⟩,trivial⟩
theorem tie:T=UF ZA:=by kernel_rfl
theorem Yl:KQ (fun _ af=>ff af.body=true) ZA:=
 ⟨rfl,rfl,rfl,rfl,rfl,rfl,rfl,rfl,rfl,rfl,rfl,rfl,rfl,rfl,rfl,rfl,rfl,rfl,rfl,rfl,rfl,rfl,rfl,rfl,rfl,rfl,rfl,rfl,rfl,rfl,rfl,rfl,rfl,rfl,rfl,rfl,rfl,rfl,rfl,rfl,rfl,rfl,rfl,rfl,rfl,rfl,rfl,rfl,rfl,rfl,rfl,rfl,rfl,rfl,rfl,rfl,rfl,rfl,rfl,rfl,rfl,rfl,rfl,rfl,rfl,rfl,rfl,rfl,rfl,rfl,rfl,rfl,rfl,rfl,rfl,rfl,rfl,rfl,rfl,rfl,rfl,rfl,rfl,rfl,rfl,rfl,rfl,rfl,rfl,rfl,rfl,rfl,rfl,rfl,rfl,rfl,rfl,rfl,rfl,rfl,rfl,rfl,rfl,rfl,rfl,rfl,rfl,rfl,rfl,rfl,rfl,rfl,rfl,rfl,rfl,rfl,rfl,rfl,rfl,rfl,rfl,rfl,rfl,rfl,rfl,rfl,rfl,rfl,rfl,rfl,rfl,rfl,rfl,rfl,rfl,rfl,rfl,rfl,rfl,rfl,rfl,rfl,rfl,rfl,rfl,rfl,rfl,rfl,rfl,rfl,rfl,rfl,rfl,rfl,rfl,rfl,rfl,rfl,rfl,rfl,rfl,rfl,rfl,rfl,rfl,rfl,rfl,rfl,rfl,rfl,rfl,rfl,rfl,rfl,rfl,rfl,rfl,rfl,rfl,rfl,trivial⟩
theorem codes(f:Nat)(af:an)(h:fs f=some af):ff af.body=true:=by unfold fs at h;rw[tie] at h;exact zY Yl h
end Ir
end Go.Proofs.YtnlcabhfkpafmaaGreat
