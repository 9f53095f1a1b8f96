/-
  The printed functions are what the loaded ones compile to.
-/
import Derived.Test.YtnlcabhfkpafmaaGreatIrCode
import Derived.Test.YtnlcabhfkpafmaaGreatVsWp
import Derived.Test.YtnlcabhfkpafmaaGreatChecked
import Derived.KernelRfl
set_option linter.unusedVariables false
set_option maxRecDepth 100000
namespace Go.Proofs.YtnlcabhfkpafmaaGreat
open Go Ads
namespace Ir
abbrev lsC:List (Nat×aq):=[(3,C3),(4,C4),(6,C6),(7,C7),(8,C8),(9,C9),(10,V2),(11,V3),(12,V4),(13,V5),(14,V6),(15,V7),(20,V8),(21,V9),(22,Wa),(23,Wb),(24,XN),(25,XO),(26,XP),(27,Wc),(28,Wd),(29,XQ),(30,We),(31,TB),(32,Wf),(33,Wg),(34,Wh),(35,Wi),(36,SL),(37,Wj),(38,Wk),(39,Wl),(40,Wm),(41,Wn),(42,Wo),(43,Wp),(44,Wq),(45,Wr),(46,Wu),(47,Wv),(48,Ww),(49,Wx),(50,Wy),(51,Wz),(52,WB),(53,WC),(54,WD),(79,WE),(80,WG),(81,WH),(82,WI),(83,TC),(84,WJ),(85,WK),(86,WL),(87,WM),(88,WN),(89,XR),(90,XS),(91,XT),(92,WO),(93,WQ),(94,WR),(95,TD),(96,WS),(97,WT),(98,WU),(99,WV),(100,LC),(101,LD),(102,LF),(103,LG),(104,HL),(105,LH),(106,LI),(107,LJ),(108,HM),(109,LL),(110,LM),(111,LN),(112,LO),(132,LP),(133,LQ),(134,HN),(135,LR),(136,LS),(137,LU),(138,LV),(139,LW),(140,LX),(141,LY),(142,LZ),(143,Ma),(144,Mb),(145,Mc),(146,Md),(147,Me),(148,Mf),(149,HO),(150,Mg),(151,Mh),(152,Mi),(153,Mj),(161,Mk),(162,Ml),(163,Mm),(164,HP),(165,Mn),(166,Mo),(167,Mp),(168,Mq),(169,Mr),(170,Ms),(171,Mt),(172,Mu),(173,Mw),(174,HQ),(175,HS),(176,Mx),(177,My),(178,Mz),(180,MA),(181,MB),(182,MC),(183,HT),(184,MD),(185,ME),(186,HU),(187,MF),(188,MG),(189,HV),(198,MH)]
theorem L3:aj Tryz.prog Tryz.f3=some C3:=by kernel_rfl
theorem L4:aj Tryz.prog Tryz.f4=some C4:=by kernel_rfl
theorem L6:aj Tryz.prog Tryz.f6=some C6:=by kernel_rfl
theorem L7:aj Tryz.prog Tryz.f7=some C7:=by kernel_rfl
theorem L8:aj Tryz.prog Tryz.f8=some C8:=by kernel_rfl
theorem L9:aj Tryz.prog Tryz.f9=some C9:=by kernel_rfl
theorem L10:aj Tryz.prog Tryz.f10=some V2:=by kernel_rfl
theorem L11:aj Tryz.prog Tryz.f11=some V3:=by kernel_rfl
theorem L12:aj Tryz.prog Tryz.f12=some V4:=by kernel_rfl
theorem L13:aj Tryz.prog Tryz.f13=some V5:=by kernel_rfl
theorem L14:aj Tryz.prog Tryz.f14=some V6:=by kernel_rfl
theorem L15:aj Tryz.prog Tryz.f15=some V7:=by kernel_rfl
theorem L20:aj Tryz.prog Tryz.f20=some V8:=by kernel_rfl
theorem L21:aj Tryz.prog Tryz.f21=some V9:=by kernel_rfl
theorem L22:aj Tryz.prog Tryz.f22=some Wa:=by kernel_rfl
theorem L23:aj Tryz.prog Tryz.f23=some Wb:=by kernel_rfl
theorem L24:aj Tryz.prog Tryz.f24=some XN:=by kernel_rfl
theorem L25:aj Tryz.prog Tryz.f25=some XO:=by kernel_rfl
theorem L26:aj Tryz.prog Tryz.f26=some XP:=by kernel_rfl
theorem L27:aj Tryz.prog Tryz.f27=some Wc:=by kernel_rfl
theorem L28:aj Tryz.prog Tryz.f28=some Wd:=by kernel_rfl
theorem L29:aj Tryz.prog Tryz.f29=some XQ:=by kernel_rfl
theorem L30:aj Tryz.prog Tryz.f30=some We:=by kernel_rfl
theorem L31:aj Tryz.prog Tryz.f31=some TB:=by kernel_rfl
theorem L32:aj Tryz.prog Tryz.f32=some Wf:=by kernel_rfl
theorem L33:aj Tryz.prog Tryz.f33=some Wg:=by kernel_rfl
theorem L34:aj Tryz.prog Tryz.f34=some Wh:=by kernel_rfl
theorem L35:aj Tryz.prog Tryz.f35=some Wi:=by kernel_rfl
theorem L36:aj Tryz.prog Tryz.f36=some SL:=by kernel_rfl
theorem L37:aj Tryz.prog Tryz.f37=some Wj:=by kernel_rfl
theorem L38:aj Tryz.prog Tryz.f38=some Wk:=by kernel_rfl
theorem L39:aj Tryz.prog Tryz.f39=some Wl:=by kernel_rfl
theorem L40:aj Tryz.prog Tryz.f40=some Wm:=by kernel_rfl
theorem L41:aj Tryz.prog Tryz.f41=some Wn:=by kernel_rfl
theorem L42:aj Tryz.prog Tryz.f42=some Wo:=by kernel_rfl
theorem L43:aj Tryz.prog Tryz.f43=some Wp:=by kernel_rfl
theorem L44:aj Tryz.prog Tryz.f44=some Wq:=by kernel_rfl
theorem L45:aj Tryz.prog Tryz.f45=some Wr:=by kernel_rfl
theorem L46:aj Tryz.prog Tryz.f46=some Wu:=by kernel_rfl
theorem L47:aj Tryz.prog Tryz.f47=some Wv:=by kernel_rfl
theorem L48:aj Tryz.prog Tryz.f48=some Ww:=by kernel_rfl
theorem L49:aj Tryz.prog Tryz.f49=some Wx:=by kernel_rfl
theorem L50:aj Tryz.prog Tryz.f50=some Wy:=by kernel_rfl
theorem L51:aj Tryz.prog Tryz.f51=some Wz:=by kernel_rfl
theorem L52:aj Tryz.prog Tryz.f52=some WB:=by kernel_rfl
theorem L53:aj Tryz.prog Tryz.f53=some WC:=by kernel_rfl
theorem L54:aj Tryz.prog Tryz.f54=some WD:=by kernel_rfl
theorem L79:aj Tryz.prog Tryz.f79=some WE:=by kernel_rfl
theorem L80:aj Tryz.prog Tryz.f80=some WG:=by kernel_rfl
theorem L81:aj Tryz.prog Tryz.f81=some WH:=by kernel_rfl
theorem L82:aj Tryz.prog Tryz.f82=some WI:=by kernel_rfl
theorem L83:aj Tryz.prog Tryz.f83=some TC:=by kernel_rfl
theorem L84:aj Tryz.prog Tryz.f84=some WJ:=by kernel_rfl
theorem L85:aj Tryz.prog Tryz.f85=some WK:=by kernel_rfl
theorem L86:aj Tryz.prog Tryz.f86=some WL:=by kernel_rfl
theorem L87:aj Tryz.prog Tryz.f87=some WM:=by kernel_rfl
theorem L88:aj Tryz.prog Tryz.f88=some WN:=by kernel_rfl
theorem L89:aj Tryz.prog Tryz.f89=some XR:=by kernel_rfl
theorem L90:aj Tryz.prog Tryz.f90=some XS:=by kernel_rfl
theorem L91:aj Tryz.prog Tryz.f91=some XT:=by kernel_rfl
theorem L92:aj Tryz.prog Tryz.f92=some WO:=by kernel_rfl
theorem L93:aj Tryz.prog Tryz.f93=some WQ:=by kernel_rfl
theorem L94:aj Tryz.prog Tryz.f94=some WR:=by kernel_rfl
theorem L95:aj Tryz.prog Tryz.f95=some TD:=by kernel_rfl
theorem L96:aj Tryz.prog Tryz.f96=some WS:=by kernel_rfl
theorem L97:aj Tryz.prog Tryz.f97=some WT:=by kernel_rfl
theorem L98:aj Tryz.prog Tryz.f98=some WU:=by kernel_rfl
theorem L99:aj Tryz.prog Tryz.f99=some WV:=by kernel_rfl
theorem XY:aj Tryz.prog Tryz.f100=some LC:=by kernel_rfl
theorem XZ:aj Tryz.prog Tryz.f101=some LD:=by kernel_rfl
theorem X0:aj Tryz.prog Tryz.f102=some LF:=by kernel_rfl
theorem X1:aj Tryz.prog Tryz.f103=some LG:=by kernel_rfl
theorem X2:aj Tryz.prog Tryz.f104=some HL:=by kernel_rfl
theorem X3:aj Tryz.prog Tryz.f105=some LH:=by kernel_rfl
theorem X4:aj Tryz.prog Tryz.f106=some LI:=by kernel_rfl
theorem X5:aj Tryz.prog Tryz.f107=some LJ:=by kernel_rfl
theorem X6:aj Tryz.prog Tryz.f108=some HM:=by kernel_rfl
theorem X7:aj Tryz.prog Tryz.f109=some LL:=by kernel_rfl
theorem X8:aj Tryz.prog Tryz.f110=some LM:=by kernel_rfl
theorem X9:aj Tryz.prog Tryz.f111=some LN:=by kernel_rfl
theorem Ya:aj Tryz.prog Tryz.f112=some LO:=by kernel_rfl
theorem Yb:aj Tryz.prog Tryz.f132=some LP:=by kernel_rfl
theorem Yc:aj Tryz.prog Tryz.f133=some LQ:=by kernel_rfl
theorem Yd:aj Tryz.prog Tryz.f134=some HN:=by kernel_rfl
theorem Ye:aj Tryz.prog Tryz.f135=some LR:=by kernel_rfl
theorem Yf:aj Tryz.prog Tryz.f136=some LS:=by kernel_rfl
theorem Yg:aj Tryz.prog Tryz.f137=some LU:=by kernel_rfl
theorem Yh:aj Tryz.prog Tryz.f138=some LV:=by kernel_rfl
theorem Yi:aj Tryz.prog Tryz.f139=some LW:=by kernel_rfl
theorem Yj:aj Tryz.prog Tryz.f140=some LX:=by kernel_rfl
theorem Yk:aj Tryz.prog Tryz.f141=some LY:=by kernel_rfl
theorem Yl:aj Tryz.prog Tryz.f142=some LZ:=by kernel_rfl
theorem Ym:aj Tryz.prog Tryz.f143=some Ma:=by kernel_rfl
theorem Yn:aj Tryz.prog Tryz.f144=some Mb:=by kernel_rfl
theorem Yo:aj Tryz.prog Tryz.f145=some Mc:=by kernel_rfl
theorem Yp:aj Tryz.prog Tryz.f146=some Md:=by kernel_rfl
theorem Yq:aj Tryz.prog Tryz.f147=some Me:=by kernel_rfl
theorem Yr:aj Tryz.prog Tryz.f148=some Mf:=by kernel_rfl
theorem Ys:aj Tryz.prog Tryz.f149=some HO:=by kernel_rfl
theorem Yt:aj Tryz.prog Tryz.f150=some Mg:=by kernel_rfl
theorem Yu:aj Tryz.prog Tryz.f151=some Mh:=by kernel_rfl
theorem Yv:aj Tryz.prog Tryz.f152=some Mi:=by kernel_rfl
theorem Yw:aj Tryz.prog Tryz.f153=some Mj:=by kernel_rfl
theorem Yx:aj Tryz.prog Tryz.f161=some Mk:=by kernel_rfl
theorem Yy:aj Tryz.prog Tryz.f162=some Ml:=by kernel_rfl
theorem Yz:aj Tryz.prog Tryz.f163=some Mm:=by kernel_rfl
theorem YA:aj Tryz.prog Tryz.f164=some HP:=by kernel_rfl
theorem YB:aj Tryz.prog Tryz.f165=some Mn:=by kernel_rfl
theorem YC:aj Tryz.prog Tryz.f166=some Mo:=by kernel_rfl
theorem YD:aj Tryz.prog Tryz.f167=some Mp:=by kernel_rfl
theorem YE:aj Tryz.prog Tryz.f168=some Mq:=by kernel_rfl
theorem YF:aj Tryz.prog Tryz.f169=some Mr:=by kernel_rfl
theorem YG:aj Tryz.prog Tryz.f170=some Ms:=by kernel_rfl
theorem YH:aj Tryz.prog Tryz.f171=some Mt:=by kernel_rfl
theorem YI:aj Tryz.prog Tryz.f172=some Mu:=by kernel_rfl
theorem YJ:aj Tryz.prog Tryz.f173=some Mw:=by kernel_rfl
theorem YK:aj Tryz.prog Tryz.f174=some HQ:=by kernel_rfl
theorem YL:aj Tryz.prog Tryz.f175=some HS:=by kernel_rfl
theorem YM:aj Tryz.prog Tryz.f176=some Mx:=by kernel_rfl
theorem YN:aj Tryz.prog Tryz.f177=some My:=by kernel_rfl
theorem YO:aj Tryz.prog Tryz.f178=some Mz:=by kernel_rfl
theorem YP:aj Tryz.prog Tryz.f180=some MA:=by kernel_rfl
theorem YQ:aj Tryz.prog Tryz.f181=some MB:=by kernel_rfl
theorem YR:aj Tryz.prog Tryz.f182=some MC:=by kernel_rfl
theorem YS:aj Tryz.prog Tryz.f183=some HT:=by kernel_rfl
theorem YT:aj Tryz.prog Tryz.f184=some MD:=by kernel_rfl
theorem YU:aj Tryz.prog Tryz.f185=some ME:=by kernel_rfl
theorem YV:aj Tryz.prog Tryz.f186=some HU:=by kernel_rfl
theorem YW:aj Tryz.prog Tryz.f187=some MF:=by kernel_rfl
theorem YX:aj Tryz.prog Tryz.f188=some MG:=by kernel_rfl
theorem YY:aj Tryz.prog Tryz.f189=some HV:=by kernel_rfl
theorem YZ:aj Tryz.prog Tryz.f198=some MH:=by kernel_rfl
theorem all:LB (fun f af=>∃fn,Tryz.prog.funcs[f]?=some fn∧aj Tryz.prog fn=some af) lsC:=
 ⟨⟨_,Tryz.func3,L3⟩,⟨_,Tryz.func4,L4⟩,⟨_,Tryz.func6,L6⟩,⟨_,Tryz.func7,L7⟩,⟨_,Tryz.func8,L8⟩,⟨_,Tryz.func9,L9⟩,⟨_,Tryz.func10,L10⟩,⟨_,Tryz.func11,L11⟩,⟨_,Tryz.func12,L12⟩,⟨_,Tryz.func13,L13⟩,⟨_,Tryz.func14,L14⟩,⟨_,Tryz.func15,L15⟩,⟨_,Tryz.func20,L20⟩,⟨_,Tryz.func21,L21⟩,⟨_,Tryz.func22,L22⟩,⟨_,Tryz.func23,L23⟩,⟨_,Tryz.func24,L24⟩,⟨_,Tryz.func25,L25⟩,⟨_,Tryz.func26,L26⟩,⟨_,Tryz.func27,L27⟩,⟨_,Tryz.func28,L28⟩,⟨_,Tryz.func29,L29⟩,⟨_,Tryz.func30,L30⟩,⟨_,Tryz.func31,L31⟩,⟨_,Tryz.func32,L32⟩,⟨_,Tryz.func33,L33⟩,⟨_,Tryz.func34,L34⟩,⟨_,Tryz.func35,L35⟩,⟨_,Tryz.func36,L36⟩,⟨_,Tryz.func37,L37⟩,⟨_,Tryz.func38,L38⟩,⟨_,Tryz.func39,L39⟩,⟨_,Tryz.func40,L40⟩,⟨_,Tryz.func41,L41⟩,⟨_,Tryz.func42,L42⟩,⟨_,Tryz.func43,L43⟩,⟨_,Tryz.func44,L44⟩,⟨_,Tryz.func45,L45⟩,⟨_,Tryz.func46,L46⟩,⟨_,Tryz.func47,L47⟩,⟨_,Tryz.func48,L48⟩,⟨_,Tryz.func49,L49⟩,⟨_,Tryz.func50,L50⟩,⟨_,Tryz.func51,L51⟩,⟨_,Tryz.func52,L52⟩,⟨_,Tryz.func53,L53⟩,⟨_,Tryz.func54,L54⟩,⟨_,Tryz.func79,L79⟩,⟨_,Tryz.func80,L80⟩,⟨_,Tryz.func81,L81⟩,⟨_,Tryz.func82,L82⟩,⟨_,Tryz.func83,L83⟩,⟨_,Tryz.func84,L84⟩,⟨_,Tryz.func85,L85⟩,⟨_,Tryz.func86,L86⟩,⟨_,Tryz.func87,L87⟩,⟨_,Tryz.func88,L88⟩,⟨_,Tryz.func89,L89⟩,⟨_,Tryz.func90,L90⟩,⟨_,Tryz.func91,L91⟩,⟨_,Tryz.func92,L92⟩,⟨_,Tryz.func93,L93⟩,⟨_,Tryz.func94,L94⟩,⟨_,Tryz.func95,L95⟩,⟨_,Tryz.func96,L96⟩,⟨_,Tryz.func97,L97⟩,⟨_,Tryz.func98,L98⟩,⟨_,Tryz.func99,L99⟩,⟨_,Tryz.func100,XY⟩,⟨_,Tryz.func101,XZ⟩,⟨_,Tryz.func102,X0⟩,⟨_,Tryz.func103,X1⟩,⟨_,Tryz.func104,X2⟩,⟨_,Tryz.func105,X3⟩,⟨_,Tryz.func106,X4⟩,⟨_,Tryz.func107,X5⟩,⟨_,Tryz.func108,X6⟩,⟨_,Tryz.func109,X7⟩,⟨_,Tryz.func110,X8⟩,⟨_,Tryz.func111,X9⟩,⟨_,Tryz.func112,Ya⟩,⟨_,Tryz.func132,Yb⟩,⟨_,Tryz.func133,Yc⟩,⟨_,Tryz.func134,Yd⟩,⟨_,Tryz.func135,Ye⟩,⟨_,Tryz.func136,Yf⟩,⟨_,Tryz.func137,Yg⟩,⟨_,Tryz.func138,Yh⟩,⟨_,Tryz.func139,Yi⟩,⟨_,Tryz.func140,Yj⟩,⟨_,Tryz.func141,Yk⟩,⟨_,Tryz.func142,Yl⟩,⟨_,Tryz.func143,Ym⟩,⟨_,Tryz.func144,Yn⟩,⟨_,Tryz.func145,Yo⟩,⟨_,Tryz.func146,Yp⟩,⟨_,Tryz.func147,Yq⟩,⟨_,Tryz.func148,Yr⟩,⟨_,Tryz.func149,Ys⟩,⟨_,Tryz.func150,Yt⟩,⟨_,Tryz.func151,Yu⟩,⟨_,Tryz.func152,Yv⟩,⟨_,Tryz.func153,Yw⟩,⟨_,Tryz.func161,Yx⟩,⟨_,Tryz.func162,Yy⟩,⟨_,Tryz.func163,Yz⟩,⟨_,Tryz.func164,YA⟩,⟨_,Tryz.func165,YB⟩,⟨_,Tryz.func166,YC⟩,⟨_,Tryz.func167,YD⟩,⟨_,Tryz.func168,YE⟩,⟨_,Tryz.func169,YF⟩,⟨_,Tryz.func170,YG⟩,⟨_,Tryz.func171,YH⟩,⟨_,Tryz.func172,YI⟩,⟨_,Tryz.func173,YJ⟩,⟨_,Tryz.func174,YK⟩,⟨_,Tryz.func175,YL⟩,⟨_,Tryz.func176,YM⟩,⟨_,Tryz.func177,YN⟩,⟨_,Tryz.func178,YO⟩,⟨_,Tryz.func180,YP⟩,⟨_,Tryz.func181,YQ⟩,⟨_,Tryz.func182,YR⟩,⟨_,Tryz.func183,YS⟩,⟨_,Tryz.func184,YT⟩,⟨_,Tryz.func185,YU⟩,⟨_,Tryz.func186,YV⟩,⟨_,Tryz.func187,YW⟩,⟨_,Tryz.func188,YX⟩,⟨_,Tryz.func189,YY⟩,⟨_,Tryz.func198,YZ⟩,trivial⟩
theorem tie:T=VB lsC:=by kernel_rfl
theorem Y6:LB (fun _ af=>fj af.body=true) lsC:=
 ⟨rfl,rfl,rfl,rfl,rfl,rfl,rfl,rfl,rfl,rfl,rfl,rfl,rfl,rfl,rfl,rfl,rfl,rfl,rfl,rfl,rfl,rfl,rfl,rfl,rfl,rfl,rfl,rfl,rfl,rfl,rfl,rfl,rfl,rfl,rfl,rfl,rfl,rfl,rfl,rfl,rfl,rfl,rfl,rfl,rfl,rfl,rfl,rfl,rfl,rfl,rfl,rfl,rfl,rfl,rfl,rfl,rfl,rfl,rfl,rfl,rfl,rfl,rfl,rfl,rfl,rfl,rfl,rfl,rfl,rfl,rfl,rfl,rfl,rfl,rfl,rfl,rfl,rfl,rfl,rfl,rfl,rfl,rfl,rfl,rfl,rfl,rfl,rfl,rfl,rfl,rfl,rfl,rfl,rfl,rfl,rfl,rfl,rfl,rfl,rfl,rfl,rfl,rfl,rfl,rfl,rfl,rfl,rfl,rfl,rfl,rfl,rfl,rfl,rfl,rfl,rfl,rfl,rfl,rfl,rfl,rfl,rfl,rfl,rfl,rfl,rfl,rfl,rfl,rfl,rfl,rfl,rfl,trivial⟩
theorem codes(f:Nat)(af:aq)(h:fs f=some af):fj af.body=true:=by unfold fs at h;rw[tie] at h;exact sW Y6 h
end Ir
end Go.Proofs.YtnlcabhfkpafmaaGreat
