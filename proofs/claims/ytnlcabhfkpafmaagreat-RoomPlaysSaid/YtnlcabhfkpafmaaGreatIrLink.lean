/-
  The printed functions are what the loaded ones compile to.
-/
import Derived.Test.YtnlcabhfkpafmaaGreatIrCode
import Derived.Test.YtnlcabhfkpafmaaGreatVsWp
import Derived.Test.YtnlcabhfkpafmaaGreatChecked
import Derived.KernelRfl
set_option linter.unusedVariables false
set_option maxRecDepth 100000
namespace Go.Proofs.YtnlcabhfkpafmaaGreat
open Go Ads
namespace Ir
abbrev Zy:List (Nat×ak):=[(5,C5),(7,C7),(9,C9),(10,UW),(12,UX),(13,UY),(14,UZ),(15,U0),(16,U1),(17,U2),(18,U3),(19,U4),(20,U5),(21,U6),(22,U7),(23,U8),(24,U9),(25,Va),(26,Vb),(27,Vc),(28,Vd),(29,Ve),(30,Vf),(31,SZ),(32,Vg),(33,Vh),(34,Vi),(35,Vj),(36,Sy),(37,Vk),(38,Vl),(39,Vm),(40,Vn),(41,Vo),(42,Vp),(46,Vq),(47,Vr),(48,Vs),(49,Vt),(50,Vu),(51,Vv),(52,Vw),(53,Vx),(54,Vy),(55,Vz),(56,VA),(57,VB),(58,VE),(59,VF),(60,VG),(61,VH),(62,VI),(63,VJ),(64,S5),(65,VK),(66,VL),(67,VM),(68,VN),(69,VP),(70,VQ),(71,VR),(72,VT),(73,VU),(74,VV),(75,VW),(76,VX),(77,S9),(78,VY),(79,VZ),(80,V0),(81,V1),(82,V2),(83,Ta),(84,V3),(85,V4),(86,V5),(87,V6),(88,V7),(89,V8),(90,V9),(91,Wa),(92,Wb),(93,Wc),(94,Wd),(95,We),(96,Wf),(97,Wg),(98,Wh),(99,Wi),(100,KT),(101,KU),(102,KV),(103,KW),(104,GU),(105,KX),(106,KY),(107,KZ),(108,GV),(109,K0),(110,K1),(111,K2),(112,K3),(113,K4),(114,K5),(115,K6),(116,K8),(117,K9),(118,La),(119,Lb),(120,Lc),(121,Ld),(122,Le),(123,Lf),(124,Lg),(125,Lh),(126,Li),(127,Lj),(128,Lk),(129,Ll),(130,Lm),(131,Ln),(132,Lo),(133,Lp),(134,GW),(135,Lq),(136,Lr),(137,Ls),(138,Lt),(139,Lu),(140,Lv),(141,Lw),(142,Lx),(143,Ly),(144,Lz),(145,LA),(146,LB),(147,LC),(148,LD),(149,GX),(150,LF),(151,LG),(152,LH),(153,LI),(154,LJ),(155,LK),(156,LL),(157,LM),(158,LN),(159,LO),(160,LP),(161,LQ),(162,LR),(163,LS),(164,GY),(165,LU),(166,LV),(167,LW),(168,LX),(169,LY),(170,LZ),(171,L3),(172,L8),(173,Ma),(174,GZ),(175,G0),(176,Mb),(177,Mc),(178,Md),(179,Me),(180,Mf),(181,Mg),(182,Mh),(183,G1),(184,Mi),(185,Mj),(186,G2),(187,Mk),(188,Ml),(189,G3),(198,Mm)]
theorem L5:oN Tryz.prog Tryz.f5=some C5:=by kernel_rfl
theorem L7:oN Tryz.prog Tryz.f7=some C7:=by kernel_rfl
theorem L9:oN Tryz.prog Tryz.f9=some C9:=by kernel_rfl
theorem L10:oN Tryz.prog Tryz.f10=some UW:=by kernel_rfl
theorem L12:oN Tryz.prog Tryz.f12=some UX:=by kernel_rfl
theorem L13:oN Tryz.prog Tryz.f13=some UY:=by kernel_rfl
theorem L14:oN Tryz.prog Tryz.f14=some UZ:=by kernel_rfl
theorem L15:oN Tryz.prog Tryz.f15=some U0:=by kernel_rfl
theorem L16:oN Tryz.prog Tryz.f16=some U1:=by kernel_rfl
theorem L17:oN Tryz.prog Tryz.f17=some U2:=by kernel_rfl
theorem L18:oN Tryz.prog Tryz.f18=some U3:=by kernel_rfl
theorem L19:oN Tryz.prog Tryz.f19=some U4:=by kernel_rfl
theorem L20:oN Tryz.prog Tryz.f20=some U5:=by kernel_rfl
theorem L21:oN Tryz.prog Tryz.f21=some U6:=by kernel_rfl
theorem L22:oN Tryz.prog Tryz.f22=some U7:=by kernel_rfl
theorem L23:oN Tryz.prog Tryz.f23=some U8:=by kernel_rfl
theorem L24:oN Tryz.prog Tryz.f24=some U9:=by kernel_rfl
theorem L25:oN Tryz.prog Tryz.f25=some Va:=by kernel_rfl
theorem L26:oN Tryz.prog Tryz.f26=some Vb:=by kernel_rfl
theorem L27:oN Tryz.prog Tryz.f27=some Vc:=by kernel_rfl
theorem L28:oN Tryz.prog Tryz.f28=some Vd:=by kernel_rfl
theorem L29:oN Tryz.prog Tryz.f29=some Ve:=by kernel_rfl
theorem L30:oN Tryz.prog Tryz.f30=some Vf:=by kernel_rfl
theorem L31:oN Tryz.prog Tryz.f31=some SZ:=by kernel_rfl
theorem L32:oN Tryz.prog Tryz.f32=some Vg:=by kernel_rfl
theorem L33:oN Tryz.prog Tryz.f33=some Vh:=by kernel_rfl
theorem L34:oN Tryz.prog Tryz.f34=some Vi:=by kernel_rfl
theorem L35:oN Tryz.prog Tryz.f35=some Vj:=by kernel_rfl
theorem L36:oN Tryz.prog Tryz.f36=some Sy:=by kernel_rfl
theorem L37:oN Tryz.prog Tryz.f37=some Vk:=by kernel_rfl
theorem L38:oN Tryz.prog Tryz.f38=some Vl:=by kernel_rfl
theorem L39:oN Tryz.prog Tryz.f39=some Vm:=by kernel_rfl
theorem L40:oN Tryz.prog Tryz.f40=some Vn:=by kernel_rfl
theorem L41:oN Tryz.prog Tryz.f41=some Vo:=by kernel_rfl
theorem L42:oN Tryz.prog Tryz.f42=some Vp:=by kernel_rfl
theorem L46:oN Tryz.prog Tryz.f46=some Vq:=by kernel_rfl
theorem L47:oN Tryz.prog Tryz.f47=some Vr:=by kernel_rfl
theorem L48:oN Tryz.prog Tryz.f48=some Vs:=by kernel_rfl
theorem L49:oN Tryz.prog Tryz.f49=some Vt:=by kernel_rfl
theorem L50:oN Tryz.prog Tryz.f50=some Vu:=by kernel_rfl
theorem L51:oN Tryz.prog Tryz.f51=some Vv:=by kernel_rfl
theorem L52:oN Tryz.prog Tryz.f52=some Vw:=by kernel_rfl
theorem L53:oN Tryz.prog Tryz.f53=some Vx:=by kernel_rfl
theorem L54:oN Tryz.prog Tryz.f54=some Vy:=by kernel_rfl
theorem L55:oN Tryz.prog Tryz.f55=some Vz:=by kernel_rfl
theorem L56:oN Tryz.prog Tryz.f56=some VA:=by kernel_rfl
theorem L57:oN Tryz.prog Tryz.f57=some VB:=by kernel_rfl
theorem L58:oN Tryz.prog Tryz.f58=some VE:=by kernel_rfl
theorem L59:oN Tryz.prog Tryz.f59=some VF:=by kernel_rfl
theorem L60:oN Tryz.prog Tryz.f60=some VG:=by kernel_rfl
theorem L61:oN Tryz.prog Tryz.f61=some VH:=by kernel_rfl
theorem L62:oN Tryz.prog Tryz.f62=some VI:=by kernel_rfl
theorem L63:oN Tryz.prog Tryz.f63=some VJ:=by kernel_rfl
theorem L64:oN Tryz.prog Tryz.f64=some S5:=by kernel_rfl
theorem L65:oN Tryz.prog Tryz.f65=some VK:=by kernel_rfl
theorem L66:oN Tryz.prog Tryz.f66=some VL:=by kernel_rfl
theorem L67:oN Tryz.prog Tryz.f67=some VM:=by kernel_rfl
theorem L68:oN Tryz.prog Tryz.f68=some VN:=by kernel_rfl
theorem L69:oN Tryz.prog Tryz.f69=some VP:=by kernel_rfl
theorem L70:oN Tryz.prog Tryz.f70=some VQ:=by kernel_rfl
theorem L71:oN Tryz.prog Tryz.f71=some VR:=by kernel_rfl
theorem L72:oN Tryz.prog Tryz.f72=some VT:=by kernel_rfl
theorem L73:oN Tryz.prog Tryz.f73=some VU:=by kernel_rfl
theorem L74:oN Tryz.prog Tryz.f74=some VV:=by kernel_rfl
theorem L75:oN Tryz.prog Tryz.f75=some VW:=by kernel_rfl
theorem L76:oN Tryz.prog Tryz.f76=some VX:=by kernel_rfl
theorem L77:oN Tryz.prog Tryz.f77=some S9:=by kernel_rfl
theorem L78:oN Tryz.prog Tryz.f78=some VY:=by kernel_rfl
theorem L79:oN Tryz.prog Tryz.f79=some VZ:=by kernel_rfl
theorem L80:oN Tryz.prog Tryz.f80=some V0:=by kernel_rfl
theorem L81:oN Tryz.prog Tryz.f81=some V1:=by kernel_rfl
theorem L82:oN Tryz.prog Tryz.f82=some V2:=by kernel_rfl
theorem L83:oN Tryz.prog Tryz.f83=some Ta:=by kernel_rfl
theorem L84:oN Tryz.prog Tryz.f84=some V3:=by kernel_rfl
theorem L85:oN Tryz.prog Tryz.f85=some V4:=by kernel_rfl
theorem L86:oN Tryz.prog Tryz.f86=some V5:=by kernel_rfl
theorem L87:oN Tryz.prog Tryz.f87=some V6:=by kernel_rfl
theorem L88:oN Tryz.prog Tryz.f88=some V7:=by kernel_rfl
theorem L89:oN Tryz.prog Tryz.f89=some V8:=by kernel_rfl
theorem L90:oN Tryz.prog Tryz.f90=some V9:=by kernel_rfl
theorem L91:oN Tryz.prog Tryz.f91=some Wa:=by kernel_rfl
theorem L92:oN Tryz.prog Tryz.f92=some Wb:=by kernel_rfl
theorem L93:oN Tryz.prog Tryz.f93=some Wc:=by kernel_rfl
theorem L94:oN Tryz.prog Tryz.f94=some Wd:=by kernel_rfl
theorem L95:oN Tryz.prog Tryz.f95=some We:=by kernel_rfl
theorem L96:oN Tryz.prog Tryz.f96=some Wf:=by kernel_rfl
theorem L97:oN Tryz.prog Tryz.f97=some Wg:=by kernel_rfl
theorem L98:oN Tryz.prog Tryz.f98=some Wh:=by kernel_rfl
theorem L99:oN Tryz.prog Tryz.f99=some Wi:=by kernel_rfl
theorem WJ:oN Tryz.prog Tryz.f100=some KT:=by kernel_rfl
theorem WK:oN Tryz.prog Tryz.f101=some KU:=by kernel_rfl
theorem WL:oN Tryz.prog Tryz.f102=some KV:=by kernel_rfl
theorem WM:oN Tryz.prog Tryz.f103=some KW:=by kernel_rfl
theorem WN:oN Tryz.prog Tryz.f104=some GU:=by kernel_rfl
theorem WO:oN Tryz.prog Tryz.f105=some KX:=by kernel_rfl
theorem WQ:oN Tryz.prog Tryz.f106=some KY:=by kernel_rfl
theorem WR:oN Tryz.prog Tryz.f107=some KZ:=by kernel_rfl
theorem WS:oN Tryz.prog Tryz.f108=some GV:=by kernel_rfl
theorem WT:oN Tryz.prog Tryz.f109=some K0:=by kernel_rfl
theorem WU:oN Tryz.prog Tryz.f110=some K1:=by kernel_rfl
theorem WV:oN Tryz.prog Tryz.f111=some K2:=by kernel_rfl
theorem WW:oN Tryz.prog Tryz.f112=some K3:=by kernel_rfl
theorem WX:oN Tryz.prog Tryz.f113=some K4:=by kernel_rfl
theorem WY:oN Tryz.prog Tryz.f114=some K5:=by kernel_rfl
theorem WZ:oN Tryz.prog Tryz.f115=some K6:=by kernel_rfl
theorem W1:oN Tryz.prog Tryz.f116=some K8:=by kernel_rfl
theorem W2:oN Tryz.prog Tryz.f117=some K9:=by kernel_rfl
theorem W3:oN Tryz.prog Tryz.f118=some La:=by kernel_rfl
theorem W4:oN Tryz.prog Tryz.f119=some Lb:=by kernel_rfl
theorem W5:oN Tryz.prog Tryz.f120=some Lc:=by kernel_rfl
theorem W6:oN Tryz.prog Tryz.f121=some Ld:=by kernel_rfl
theorem W7:oN Tryz.prog Tryz.f122=some Le:=by kernel_rfl
theorem W8:oN Tryz.prog Tryz.f123=some Lf:=by kernel_rfl
theorem W9:oN Tryz.prog Tryz.f124=some Lg:=by kernel_rfl
theorem Xa:oN Tryz.prog Tryz.f125=some Lh:=by kernel_rfl
theorem Xb:oN Tryz.prog Tryz.f126=some Li:=by kernel_rfl
theorem Xc:oN Tryz.prog Tryz.f127=some Lj:=by kernel_rfl
theorem Xd:oN Tryz.prog Tryz.f128=some Lk:=by kernel_rfl
theorem Xe:oN Tryz.prog Tryz.f129=some Ll:=by kernel_rfl
theorem Xf:oN Tryz.prog Tryz.f130=some Lm:=by kernel_rfl
theorem Xg:oN Tryz.prog Tryz.f131=some Ln:=by kernel_rfl
theorem Xh:oN Tryz.prog Tryz.f132=some Lo:=by kernel_rfl
theorem Xi:oN Tryz.prog Tryz.f133=some Lp:=by kernel_rfl
theorem Xj:oN Tryz.prog Tryz.f134=some GW:=by kernel_rfl
theorem Xk:oN Tryz.prog Tryz.f135=some Lq:=by kernel_rfl
theorem Xl:oN Tryz.prog Tryz.f136=some Lr:=by kernel_rfl
theorem Xm:oN Tryz.prog Tryz.f137=some Ls:=by kernel_rfl
theorem Xn:oN Tryz.prog Tryz.f138=some Lt:=by kernel_rfl
theorem Xo:oN Tryz.prog Tryz.f139=some Lu:=by kernel_rfl
theorem Xp:oN Tryz.prog Tryz.f140=some Lv:=by kernel_rfl
theorem Xq:oN Tryz.prog Tryz.f141=some Lw:=by kernel_rfl
theorem Xr:oN Tryz.prog Tryz.f142=some Lx:=by kernel_rfl
theorem Xs:oN Tryz.prog Tryz.f143=some Ly:=by kernel_rfl
theorem Xt:oN Tryz.prog Tryz.f144=some Lz:=by kernel_rfl
theorem Xu:oN Tryz.prog Tryz.f145=some LA:=by kernel_rfl
theorem Xv:oN Tryz.prog Tryz.f146=some LB:=by kernel_rfl
theorem Xw:oN Tryz.prog Tryz.f147=some LC:=by kernel_rfl
theorem Xx:oN Tryz.prog Tryz.f148=some LD:=by kernel_rfl
theorem Xy:oN Tryz.prog Tryz.f149=some GX:=by kernel_rfl
theorem Xz:oN Tryz.prog Tryz.f150=some LF:=by kernel_rfl
theorem XA:oN Tryz.prog Tryz.f151=some LG:=by kernel_rfl
theorem XB:oN Tryz.prog Tryz.f152=some LH:=by kernel_rfl
theorem XC:oN Tryz.prog Tryz.f153=some LI:=by kernel_rfl
theorem XD:oN Tryz.prog Tryz.f154=some LJ:=by kernel_rfl
theorem XE:oN Tryz.prog Tryz.f155=some LK:=by kernel_rfl
theorem XF:oN Tryz.prog Tryz.f156=some LL:=by kernel_rfl
theorem XG:oN Tryz.prog Tryz.f157=some LM:=by kernel_rfl
theorem XH:oN Tryz.prog Tryz.f158=some LN:=by kernel_rfl
theorem XI:oN Tryz.prog Tryz.f159=some LO:=by kernel_rfl
theorem XJ:oN Tryz.prog Tryz.f160=some LP:=by kernel_rfl
theorem XK:oN Tryz.prog Tryz.f161=some LQ:=by kernel_rfl
theorem XL:oN Tryz.prog Tryz.f162=some LR:=by kernel_rfl
theorem XM:oN Tryz.prog Tryz.f163=some LS:=by kernel_rfl
theorem XN:oN Tryz.prog Tryz.f164=some GY:=by kernel_rfl
theorem XO:oN Tryz.prog Tryz.f165=some LU:=by kernel_rfl
theorem XP:oN Tryz.prog Tryz.f166=some LV:=by kernel_rfl
theorem XQ:oN Tryz.prog Tryz.f167=some LW:=by kernel_rfl
theorem XR:oN Tryz.prog Tryz.f168=some LX:=by kernel_rfl
theorem XS:oN Tryz.prog Tryz.f169=some LY:=by kernel_rfl
theorem XT:oN Tryz.prog Tryz.f170=some LZ:=by kernel_rfl
theorem XU:oN Tryz.prog Tryz.f171=some L3:=by kernel_rfl
theorem XV:oN Tryz.prog Tryz.f172=some L8:=by kernel_rfl
theorem XW:oN Tryz.prog Tryz.f173=some Ma:=by kernel_rfl
theorem XX:oN Tryz.prog Tryz.f174=some GZ:=by kernel_rfl
theorem XY:oN Tryz.prog Tryz.f175=some G0:=by kernel_rfl
theorem XZ:oN Tryz.prog Tryz.f176=some Mb:=by kernel_rfl
theorem X0:oN Tryz.prog Tryz.f177=some Mc:=by kernel_rfl
theorem X1:oN Tryz.prog Tryz.f178=some Md:=by kernel_rfl
theorem X2:oN Tryz.prog Tryz.f179=some Me:=by kernel_rfl
theorem X3:oN Tryz.prog Tryz.f180=some Mf:=by kernel_rfl
theorem X4:oN Tryz.prog Tryz.f181=some Mg:=by kernel_rfl
theorem X5:oN Tryz.prog Tryz.f182=some Mh:=by kernel_rfl
theorem X6:oN Tryz.prog Tryz.f183=some G1:=by kernel_rfl
theorem X7:oN Tryz.prog Tryz.f184=some Mi:=by kernel_rfl
theorem X8:oN Tryz.prog Tryz.f185=some Mj:=by kernel_rfl
theorem X9:oN Tryz.prog Tryz.f186=some G2:=by kernel_rfl
theorem Ya:oN Tryz.prog Tryz.f187=some Mk:=by kernel_rfl
theorem Yb:oN Tryz.prog Tryz.f188=some Ml:=by kernel_rfl
theorem Yc:oN Tryz.prog Tryz.f189=some G3:=by kernel_rfl
theorem Yd:oN Tryz.prog Tryz.f198=some Mm:=by kernel_rfl
theorem all:KS (fun f af=>∃fn,Tryz.prog.funcs[f]?=some fn∧oN Tryz.prog fn=some af) Zy:=
 ⟨⟨_,Tryz.func5,L5⟩,⟨_,Tryz.func7,L7⟩,⟨_,Tryz.func9,L9⟩,⟨_,Tryz.func10,L10⟩,⟨_,Tryz.func12,L12⟩,⟨_,Tryz.func13,L13⟩,⟨_,Tryz.func14,L14⟩,⟨_,Tryz.func15,L15⟩,⟨_,Tryz.func16,L16⟩,⟨_,Tryz.func17,L17⟩,⟨_,Tryz.func18,L18⟩,⟨_,Tryz.func19,L19⟩,⟨_,Tryz.func20,L20⟩,⟨_,Tryz.func21,L21⟩,⟨_,Tryz.func22,L22⟩,⟨_,Tryz.func23,L23⟩,⟨_,Tryz.func24,L24⟩,⟨_,Tryz.func25,L25⟩,⟨_,Tryz.func26,L26⟩,⟨_,Tryz.func27,L27⟩,⟨_,Tryz.func28,L28⟩,⟨_,Tryz.func29,L29⟩,⟨_,Tryz.func30,L30⟩,⟨_,Tryz.func31,L31⟩,⟨_,Tryz.func32,L32⟩,⟨_,Tryz.func33,L33⟩,⟨_,Tryz.func34,L34⟩,⟨_,Tryz.func35,L35⟩,⟨_,Tryz.func36,L36⟩,⟨_,Tryz.func37,L37⟩,⟨_,Tryz.func38,L38⟩,⟨_,Tryz.func39,L39⟩,⟨_,Tryz.func40,L40⟩,⟨_,Tryz.func41,L41⟩,⟨_,Tryz.func42,L42⟩,⟨_,Tryz.func46,L46⟩,⟨_,Tryz.func47,L47⟩,⟨_,Tryz.func48,L48⟩,⟨_,Tryz.func49,L49⟩,⟨_,Tryz.func50,L50⟩,⟨_,Tryz.func51,L51⟩,⟨_,Tryz.func52,L52⟩,⟨_,Tryz.func53,L53⟩,⟨_,Tryz.func54,L54⟩,⟨_,Tryz.func55,L55⟩,⟨_,Tryz.func56,L56⟩,⟨_,Tryz.func57,L57⟩,⟨_,Tryz.func58,L58⟩,⟨_,Tryz.func59,L59⟩,⟨_,Tryz.func60,L60⟩,⟨_,Tryz.func61,L61⟩,⟨_,Tryz.func62,L62⟩,⟨_,Tryz.func63,L63⟩,⟨_,Tryz.func64,L64⟩,⟨_,Tryz.func65,L65⟩,⟨_,Tryz.func66,L66⟩,⟨_,Tryz.func67,L67⟩,⟨_,Tryz.func68,L68⟩,⟨_,Tryz.func69,L69⟩,⟨_,Tryz.func70,L70⟩,⟨_,Tryz.func71,L71⟩,⟨_,Tryz.func72,L72⟩,⟨_,Tryz.func73,L73⟩,⟨_,Tryz.func74,L74⟩,⟨_,Tryz.func75,L75⟩,⟨_,Tryz.func76,L76⟩,⟨_,Tryz.func77,L77⟩,⟨_,Tryz.func78,L78⟩,⟨_,Tryz.func79,L79⟩,⟨_,Tryz.func80,L80⟩,⟨_,Tryz.func81,L81⟩,⟨_,Tryz.func82,L82⟩,⟨_,Tryz.func83,L83⟩,⟨_,Tryz.func84,L84⟩,⟨_,Tryz.func85,L85⟩,⟨_,Tryz.func86,L86⟩,⟨_,Tryz.func87,L87⟩,⟨_,Tryz.func88,L88⟩,⟨_,Tryz.func89,L89⟩,⟨_,Tryz.func90,L90⟩,⟨_,Tryz.func91,L91⟩,⟨_,Tryz.func92,L92⟩,⟨_,Tryz.func93,L93⟩,⟨_,Tryz.func94,L94⟩,⟨_,Tryz.func95,L95⟩,⟨_,Tryz.func96,L96⟩,⟨_,Tryz.func97,L97⟩,⟨_,Tryz.func98,L98⟩,⟨_,Tryz.func99,L99⟩,⟨_,Tryz.func100,WJ⟩,⟨_,Tryz.func101,WK⟩,⟨_,Tryz.func102,WL⟩,⟨_,Tryz.func103,WM⟩,⟨_,Tryz.func104,WN⟩,⟨_,Tryz.func105,WO⟩,⟨_,Tryz.func106,WQ⟩,⟨_,Tryz.func107,WR⟩,⟨_,Tryz.func108,WS⟩,⟨_,Tryz.func109,WT⟩,⟨_,Tryz.func110,WU⟩,⟨_,Tryz.func111,WV⟩,⟨_,Tryz.func112,WW⟩,⟨_,Tryz.func113,WX⟩,⟨_,Tryz.func114,WY⟩,⟨_,Tryz.func115,WZ⟩,⟨_,Tryz.func116,W1⟩,⟨_,Tryz.func117,W2⟩,⟨_,Tryz.func118,W3⟩,⟨_,Tryz.func119,W4⟩,⟨_,Tryz.func120,W5⟩,⟨_,Tryz.func121,W6⟩,⟨_,Tryz.func122,W7⟩,⟨_,Tryz.func123,W8⟩,⟨_,Tryz.func124,W9⟩,⟨_,Tryz.func125,Xa⟩,⟨_,Tryz.func126,Xb⟩,⟨_,Tryz.func127,Xc⟩,⟨_,Tryz.func128,Xd⟩,⟨_,Tryz.func129,Xe⟩,⟨_,Tryz.func130,Xf⟩,⟨_,Tryz.func131,Xg⟩,⟨_,Tryz.func132,Xh⟩,⟨_,Tryz.func133,Xi⟩,⟨_,Tryz.func134,Xj⟩,⟨_,Tryz.func135,Xk⟩,⟨_,Tryz.func136,Xl⟩,⟨_,Tryz.func137,Xm⟩,⟨_,Tryz.func138,Xn⟩,⟨_,Tryz.func139,Xo⟩,⟨_,Tryz.func140,Xp⟩,⟨_,Tryz.func141,Xq⟩,⟨_,Tryz.func142,Xr⟩,⟨_,Tryz.func143,Xs⟩,⟨_,Tryz.func144,Xt⟩,⟨_,Tryz.func145,Xu⟩,⟨_,Tryz.func146,Xv⟩,⟨_,Tryz.func147,Xw⟩,⟨_,Tryz.func148,Xx⟩,⟨_,Tryz.func149,Xy⟩,⟨_,Tryz.func150,Xz⟩,⟨_,Tryz.func151,XA⟩,⟨_,Tryz.func152,XB⟩,⟨_,Tryz.func153,XC⟩,⟨_,Tryz.func154,XD⟩,⟨_,Tryz.func155,XE⟩,⟨_,Tryz.func156,XF⟩,⟨_,Tryz.func157,XG⟩,⟨_,Tryz.func158,XH⟩,⟨_,Tryz.func159,XI⟩,⟨_,Tryz.func160,XJ⟩,⟨_,Tryz.func161,XK⟩,⟨_,Tryz.func162,XL⟩,⟨_,Tryz.func163,XM⟩,⟨_,Tryz.func164,XN⟩,⟨_,Tryz.func165,XO⟩,⟨_,Tryz.func166,XP⟩,⟨_,Tryz.func167,XQ⟩,⟨_,Tryz.func168,XR⟩,⟨_,Tryz.func169,XS⟩,⟨_,Tryz.func170,XT⟩,⟨_,Tryz.func171,XU⟩,⟨_,Tryz.func172,XV⟩,⟨_,Tryz.func173,XW⟩,⟨_,Tryz.func174,XX⟩,⟨_,Tryz.func175,XY⟩,⟨_,Tryz.func176,XZ⟩,⟨_,Tryz.func177,X0⟩,⟨_,Tryz.func178,X1⟩,⟨_,Tryz.func179,X2⟩,⟨_,Tryz.func180,X3⟩,⟨_,Tryz.func181,X4⟩,⟨_,Tryz.func182,X5⟩,⟨_,Tryz.func183,X6⟩,⟨_,Tryz.func184,X7⟩,⟨_,Tryz.func185,X8⟩,⟨_,Tryz.func186,X9⟩,⟨_,Tryz.func187,Ya⟩,⟨_,Tryz.func188,Yb⟩,⟨_,Tryz.func189,Yc⟩,⟨_,Tryz.func198,Yd⟩,trivial⟩
theorem tie:T=UD Zy:=by kernel_rfl
theorem Yj:KS (fun _ af=>ff af.body=true) Zy:=
 ⟨rfl,rfl,rfl,rfl,rfl,rfl,rfl,rfl,rfl,rfl,rfl,rfl,rfl,rfl,rfl,rfl,rfl,rfl,rfl,rfl,rfl,rfl,rfl,rfl,rfl,rfl,rfl,rfl,rfl,rfl,rfl,rfl,rfl,rfl,rfl,rfl,rfl,rfl,rfl,rfl,rfl,rfl,rfl,rfl,rfl,rfl,rfl,rfl,rfl,rfl,rfl,rfl,rfl,rfl,rfl,rfl,rfl,rfl,rfl,rfl,rfl,rfl,rfl,rfl,rfl,rfl,rfl,rfl,rfl,rfl,rfl,rfl,rfl,rfl,rfl,rfl,rfl,rfl,rfl,rfl,rfl,rfl,rfl,rfl,rfl,rfl,rfl,rfl,rfl,rfl,rfl,rfl,rfl,rfl,rfl,rfl,rfl,rfl,rfl,rfl,rfl,rfl,rfl,rfl,rfl,rfl,rfl,rfl,rfl,rfl,rfl,rfl,rfl,rfl,rfl,rfl,rfl,rfl,rfl,rfl,rfl,rfl,rfl,rfl,rfl,rfl,rfl,rfl,rfl,rfl,rfl,rfl,rfl,rfl,rfl,rfl,rfl,rfl,rfl,rfl,rfl,rfl,rfl,rfl,rfl,rfl,rfl,rfl,rfl,rfl,rfl,rfl,rfl,rfl,rfl,rfl,rfl,rfl,rfl,rfl,rfl,rfl,rfl,rfl,rfl,rfl,rfl,rfl,rfl,rfl,rfl,rfl,rfl,rfl,rfl,rfl,rfl,rfl,rfl,rfl,trivial⟩
theorem codes(f:Nat)(af:ak)(h:fs f=some af):ff af.body=true:=by unfold fs at h;rw[tie] at h;exact zY Yj h
end Ir
end Go.Proofs.YtnlcabhfkpafmaaGreat
