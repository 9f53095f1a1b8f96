/-
  The printed functions are what the loaded ones compile to.
-/
import Derived.Test.YtepdklcpagielaaIrCode
import Derived.Test.YtepdklcpagielaaVsWp
import Derived.Test.YtepdklcpagielaaChecked
import Derived.KernelRfl
set_option linter.unusedVariables false
set_option maxRecDepth 100000
namespace Go.Proofs.Ytepdklcpagielaa
open Go Ads
namespace Ir
abbrev lsC:List (Nat×aB):=[(4,C4),(5,C5),(6,C6),(7,C7),(8,C8),(17,Xx),(18,Ud),(19,Xy),(20,Xz),(21,XA),(22,XB),(23,XC),(24,XD),(25,XE),(26,XF),(27,XG),(28,XH),(29,XI),(30,XJ),(31,Ue),(32,UH),(33,XK),(34,ZA),(41,XL),(42,Uf),(43,QE),(44,XM),(45,XN),(46,XO),(47,XP),(48,UI),(49,XQ),(50,XR),(51,XS),(52,XT),(53,ZB),(54,ZC),(56,XU),(57,XV),(58,XX),(59,XZ),(60,X4),(61,X5),(62,X7),(63,X8),(64,Ya),(65,Yb),(66,Yc),(67,Yd),(68,Ye),(69,Yf),(70,Yg),(71,Yh),(72,Yi),(73,Yj),(74,Yk),(75,Yl),(76,Ug),(77,ZD),(78,ZE),(79,UJ),(80,Ym),(81,Yn),(82,Yo),(83,UK),(84,Yp),(85,Yq),(86,Yr),(87,Ys),(88,Yt),(89,Yu),(90,Yv),(91,Yw),(92,Yx),(93,Yy),(94,Yz),(95,YA),(96,YB),(97,YC),(98,ZF),(99,YD),(100,J6),(101,NG),(102,NH),(103,NI),(104,NJ),(105,NK),(106,Ie),(107,NL),(108,NM),(109,NN),(110,NO),(111,J7),(112,NP),(113,Ig),(114,NQ),(115,NS),(116,NT),(117,NU),(118,NV),(119,NW),(120,NX),(121,NY),(122,NZ),(123,N0),(124,Ih),(125,Ii),(126,N1),(127,N2),(128,N3),(129,N4),(130,N5),(131,N6),(132,N7),(133,N8),(134,Oa),(135,Ob),(136,Oc),(137,Od),(138,Oe),(139,J8),(140,Of),(141,J9),(142,Og),(143,Oh),(144,Oi),(145,Oj),(146,Ok),(147,Ol),(148,Om),(149,On),(150,Oo),(151,Oq),(152,Ot),(153,Ou)]
theorem L4:aq Try.prog Try.f4=some C4:=by kernel_rfl
theorem L5:aq Try.prog Try.f5=some C5:=by kernel_rfl
theorem L6:aq Try.prog Try.f6=some C6:=by kernel_rfl
theorem L7:aq Try.prog Try.f7=some C7:=by kernel_rfl
theorem L8:aq Try.prog Try.f8=some C8:=by kernel_rfl
theorem L17:aq Try.prog Try.f17=some Xx:=by kernel_rfl
theorem L18:aq Try.prog Try.f18=some Ud:=by kernel_rfl
theorem L19:aq Try.prog Try.f19=some Xy:=by kernel_rfl
theorem L20:aq Try.prog Try.f20=some Xz:=by kernel_rfl
theorem L21:aq Try.prog Try.f21=some XA:=by kernel_rfl
theorem L22:aq Try.prog Try.f22=some XB:=by kernel_rfl
theorem L23:aq Try.prog Try.f23=some XC:=by kernel_rfl
theorem L24:aq Try.prog Try.f24=some XD:=by kernel_rfl
theorem L25:aq Try.prog Try.f25=some XE:=by kernel_rfl
theorem L26:aq Try.prog Try.f26=some XF:=by kernel_rfl
theorem L27:aq Try.prog Try.f27=some XG:=by kernel_rfl
theorem L28:aq Try.prog Try.f28=some XH:=by kernel_rfl
theorem L29:aq Try.prog Try.f29=some XI:=by kernel_rfl
theorem L30:aq Try.prog Try.f30=some XJ:=by kernel_rfl
theorem L31:aq Try.prog Try.f31=some Ue:=by kernel_rfl
theorem L32:aq Try.prog Try.f32=some UH:=by kernel_rfl
theorem L33:aq Try.prog Try.f33=some XK:=by kernel_rfl
theorem L34:aq Try.prog Try.f34=some ZA:=by kernel_rfl
theorem L41:aq Try.prog Try.f41=some XL:=by kernel_rfl
theorem L42:aq Try.prog Try.f42=some Uf:=by kernel_rfl
theorem L43:aq Try.prog Try.f43=some QE:=by kernel_rfl
theorem L44:aq Try.prog Try.f44=some XM:=by kernel_rfl
theorem L45:aq Try.prog Try.f45=some XN:=by kernel_rfl
theorem L46:aq Try.prog Try.f46=some XO:=by kernel_rfl
theorem L47:aq Try.prog Try.f47=some XP:=by kernel_rfl
theorem L48:aq Try.prog Try.f48=some UI:=by kernel_rfl
theorem L49:aq Try.prog Try.f49=some XQ:=by kernel_rfl
theorem L50:aq Try.prog Try.f50=some XR:=by kernel_rfl
theorem L51:aq Try.prog Try.f51=some XS:=by kernel_rfl
theorem L52:aq Try.prog Try.f52=some XT:=by kernel_rfl
theorem L53:aq Try.prog Try.f53=some ZB:=by kernel_rfl
theorem L54:aq Try.prog Try.f54=some ZC:=by kernel_rfl
theorem L56:aq Try.prog Try.f56=some XU:=by kernel_rfl
theorem L57:aq Try.prog Try.f57=some XV:=by kernel_rfl
theorem L58:aq Try.prog Try.f58=some XX:=by kernel_rfl
theorem L59:aq Try.prog Try.f59=some XZ:=by kernel_rfl
theorem L60:aq Try.prog Try.f60=some X4:=by kernel_rfl
theorem L61:aq Try.prog Try.f61=some X5:=by kernel_rfl
theorem L62:aq Try.prog Try.f62=some X7:=by kernel_rfl
theorem L63:aq Try.prog Try.f63=some X8:=by kernel_rfl
theorem L64:aq Try.prog Try.f64=some Ya:=by kernel_rfl
theorem L65:aq Try.prog Try.f65=some Yb:=by kernel_rfl
theorem L66:aq Try.prog Try.f66=some Yc:=by kernel_rfl
theorem L67:aq Try.prog Try.f67=some Yd:=by kernel_rfl
theorem L68:aq Try.prog Try.f68=some Ye:=by kernel_rfl
theorem L69:aq Try.prog Try.f69=some Yf:=by kernel_rfl
theorem L70:aq Try.prog Try.f70=some Yg:=by kernel_rfl
theorem L71:aq Try.prog Try.f71=some Yh:=by kernel_rfl
theorem L72:aq Try.prog Try.f72=some Yi:=by kernel_rfl
theorem L73:aq Try.prog Try.f73=some Yj:=by kernel_rfl
theorem L74:aq Try.prog Try.f74=some Yk:=by kernel_rfl
theorem L75:aq Try.prog Try.f75=some Yl:=by kernel_rfl
theorem L76:aq Try.prog Try.f76=some Ug:=by kernel_rfl
theorem L77:aq Try.prog Try.f77=some ZD:=by kernel_rfl
theorem L78:aq Try.prog Try.f78=some ZE:=by kernel_rfl
theorem L79:aq Try.prog Try.f79=some UJ:=by kernel_rfl
theorem L80:aq Try.prog Try.f80=some Ym:=by kernel_rfl
theorem L81:aq Try.prog Try.f81=some Yn:=by kernel_rfl
theorem L82:aq Try.prog Try.f82=some Yo:=by kernel_rfl
theorem L83:aq Try.prog Try.f83=some UK:=by kernel_rfl
theorem L84:aq Try.prog Try.f84=some Yp:=by kernel_rfl
theorem L85:aq Try.prog Try.f85=some Yq:=by kernel_rfl
theorem L86:aq Try.prog Try.f86=some Yr:=by kernel_rfl
theorem L87:aq Try.prog Try.f87=some Ys:=by kernel_rfl
theorem L88:aq Try.prog Try.f88=some Yt:=by kernel_rfl
theorem L89:aq Try.prog Try.f89=some Yu:=by kernel_rfl
theorem L90:aq Try.prog Try.f90=some Yv:=by kernel_rfl
theorem L91:aq Try.prog Try.f91=some Yw:=by kernel_rfl
theorem L92:aq Try.prog Try.f92=some Yx:=by kernel_rfl
theorem L93:aq Try.prog Try.f93=some Yy:=by kernel_rfl
theorem L94:aq Try.prog Try.f94=some Yz:=by kernel_rfl
theorem L95:aq Try.prog Try.f95=some YA:=by kernel_rfl
theorem L96:aq Try.prog Try.f96=some YB:=by kernel_rfl
theorem L97:aq Try.prog Try.f97=some YC:=by kernel_rfl
theorem L98:aq Try.prog Try.f98=some ZF:=by kernel_rfl
theorem L99:aq Try.prog Try.f99=some YD:=by kernel_rfl
theorem ZJ:aq Try.prog Try.f100=some J6:=by kernel_rfl
theorem ZK:aq Try.prog Try.f101=some NG:=by kernel_rfl
theorem ZL:aq Try.prog Try.f102=some NH:=by kernel_rfl
theorem ZM:aq Try.prog Try.f103=some NI:=by kernel_rfl
theorem ZN:aq Try.prog Try.f104=some NJ:=by kernel_rfl
theorem ZO:aq Try.prog Try.f105=some NK:=by kernel_rfl
theorem ZP:aq Try.prog Try.f106=some Ie:=by kernel_rfl
theorem ZQ:aq Try.prog Try.f107=some NL:=by kernel_rfl
theorem ZR:aq Try.prog Try.f108=some NM:=by kernel_rfl
theorem ZS:aq Try.prog Try.f109=some NN:=by kernel_rfl
theorem ZT:aq Try.prog Try.f110=some NO:=by kernel_rfl
theorem ZU:aq Try.prog Try.f111=some J7:=by kernel_rfl
theorem ZV:aq Try.prog Try.f112=some NP:=by kernel_rfl
theorem ZW:aq Try.prog Try.f113=some Ig:=by kernel_rfl
theorem ZX:aq Try.prog Try.f114=some NQ:=by kernel_rfl
theorem ZY:aq Try.prog Try.f115=some NS:=by kernel_rfl
theorem ZZ:aq Try.prog Try.f116=some NT:=by kernel_rfl
theorem Z0:aq Try.prog Try.f117=some NU:=by kernel_rfl
theorem Z1:aq Try.prog Try.f118=some NV:=by kernel_rfl
theorem Z2:aq Try.prog Try.f119=some NW:=by kernel_rfl
theorem Z3:aq Try.prog Try.f120=some NX:=by kernel_rfl
theorem Z4:aq Try.prog Try.f121=some NY:=by kernel_rfl
theorem Z5:aq Try.prog Try.f122=some NZ:=by kernel_rfl
theorem Z6:aq Try.prog Try.f123=some N0:=by kernel_rfl
theorem Z7:aq Try.prog Try.f124=some Ih:=by kernel_rfl
theorem Z8:aq Try.prog Try.f125=some Ii:=by kernel_rfl
theorem Z9:aq Try.prog Try.f126=some N1:=by kernel_rfl
theorem aaa:aq Try.prog Try.f127=some N2:=by kernel_rfl
theorem aab:aq Try.prog Try.f128=some N3:=by kernel_rfl
theorem aac:aq Try.prog Try.f129=some N4:=by kernel_rfl
theorem aad:aq Try.prog Try.f130=some N5:=by kernel_rfl
theorem aae:aq Try.prog Try.f131=some N6:=by kernel_rfl
theorem aaf:aq Try.prog Try.f132=some N7:=by kernel_rfl
theorem aag:aq Try.prog Try.f133=some N8:=by kernel_rfl
theorem aah:aq Try.prog Try.f134=some Oa:=by kernel_rfl
theorem aai:aq Try.prog Try.f135=some Ob:=by kernel_rfl
theorem aaj:aq Try.prog Try.f136=some Oc:=by kernel_rfl
theorem aak:aq Try.prog Try.f137=some Od:=by kernel_rfl
theorem aal:aq Try.prog Try.f138=some Oe:=by kernel_rfl
theorem aam:aq Try.prog Try.f139=some J8:=by kernel_rfl
theorem aan:aq Try.prog Try.f140=some Of:=by kernel_rfl
theorem aao:aq Try.prog Try.f141=some J9:=by kernel_rfl
theorem aap:aq Try.prog Try.f142=some Og:=by kernel_rfl
theorem aaq:aq Try.prog Try.f143=some Oh:=by kernel_rfl
theorem aar:aq Try.prog Try.f144=some Oi:=by kernel_rfl
theorem aas:aq Try.prog Try.f145=some Oj:=by kernel_rfl
theorem aat:aq Try.prog Try.f146=some Ok:=by kernel_rfl
theorem aau:aq Try.prog Try.f147=some Ol:=by kernel_rfl
theorem aav:aq Try.prog Try.f148=some Om:=by kernel_rfl
theorem aaw:aq Try.prog Try.f149=some On:=by kernel_rfl
theorem aax:aq Try.prog Try.f150=some Oo:=by kernel_rfl
theorem aay:aq Try.prog Try.f151=some Oq:=by kernel_rfl
theorem aaz:aq Try.prog Try.f152=some Ot:=by kernel_rfl
theorem aaA:aq Try.prog Try.f153=some Ou:=by kernel_rfl
theorem all:NF (fun f af=>∃fn,Try.prog.funcs[f]?=some fn∧aq Try.prog fn=some af) lsC:=
 ⟨⟨_,Try.func4,L4⟩,⟨_,Try.func5,L5⟩,⟨_,Try.func6,L6⟩,⟨_,Try.func7,L7⟩,⟨_,Try.func8,L8⟩,⟨_,Try.func17,L17⟩,⟨_,Try.func18,L18⟩,⟨_,Try.func19,L19⟩,⟨_,Try.func20,L20⟩,⟨_,Try.func21,L21⟩,⟨_,Try.func22,L22⟩,⟨_,Try.func23,L23⟩,⟨_,Try.func24,L24⟩,⟨_,Try.func25,L25⟩,⟨_,Try.func26,L26⟩,⟨_,Try.func27,L27⟩,⟨_,Try.func28,L28⟩,⟨_,Try.func29,L29⟩,⟨_,Try.func30,L30⟩,⟨_,Try.func31,L31⟩,⟨_,Try.func32,L32⟩,⟨_,Try.func33,L33⟩,⟨_,Try.func34,L34⟩,⟨_,Try.func41,L41⟩,⟨_,Try.func42,L42⟩,⟨_,Try.func43,L43⟩,⟨_,Try.func44,L44⟩,⟨_,Try.func45,L45⟩,⟨_,Try.func46,L46⟩,⟨_,Try.func47,L47⟩,⟨_,Try.func48,L48⟩,⟨_,Try.func49,L49⟩,⟨_,Try.func50,L50⟩,⟨_,Try.func51,L51⟩,⟨_,Try.func52,L52⟩,⟨_,Try.func53,L53⟩,⟨_,Try.func54,L54⟩,⟨_,Try.func56,L56⟩,⟨_,Try.func57,L57⟩,⟨_,Try.func58,L58⟩,⟨_,Try.func59,L59⟩,⟨_,Try.func60,L60⟩,⟨_,Try.func61,L61⟩,⟨_,Try.func62,L62⟩,⟨_,Try.func63,L63⟩,⟨_,Try.func64,L64⟩,⟨_,Try.func65,L65⟩,⟨_,Try.func66,L66⟩,⟨_,Try.func67,L67⟩,⟨_,Try.func68,L68⟩,⟨_,Try.func69,L69⟩,⟨_,Try.func70,L70⟩,⟨_,Try.func71,L71⟩,⟨_,Try.func72,L72⟩,⟨_,Try.func73,L73⟩,⟨_,Try.func74,L74⟩,⟨_,Try.func75,L75⟩,⟨_,Try.func76,L76⟩,⟨_,Try.func77,L77⟩,⟨_,Try.func78,L78⟩,⟨_,Try.func79,L79⟩,⟨_,Try.func80,L80⟩,⟨_,Try.func81,L81⟩,⟨_,Try.func82,L82⟩,⟨_,Try.func83,L83⟩,⟨_,Try.func84,L84⟩,⟨_,Try.func85,L85⟩,⟨_,Try.func86,L86⟩,⟨_,Try.func87,L87⟩,⟨_,Try.func88,L88⟩,⟨_,Try.func89,L89⟩,⟨_,Try.func90,L90⟩,⟨_,Try.func91,L91⟩,⟨_,Try.func92,L92⟩,⟨_,Try.func93,L93⟩,⟨_,Try.func94,L94⟩,⟨_,Try.func95,L95⟩,⟨_,Try.func96,L96⟩,⟨_,Try.func97,L97⟩,⟨_,Try.func98,L98⟩,⟨_,Try.func99,L99⟩,⟨_,Try.func100,ZJ⟩,⟨_,Try.func101,ZK⟩,⟨_,Try.func102,ZL⟩,⟨_,Try.func103,ZM⟩,⟨_,Try.func104,ZN⟩,⟨_,Try.func105,ZO⟩,⟨_,Try.func106,ZP⟩,⟨_,Try.func107,ZQ⟩,⟨_,Try.func108,ZR⟩,⟨_,Try.func109,ZS⟩,⟨_,Try.func110,ZT⟩,⟨_,Try.func111,ZU⟩,⟨_,Try.func112,ZV⟩,⟨_,Try.func113,ZW⟩,⟨_,Try.func114,ZX⟩,⟨_,Try.func115,ZY⟩,⟨_,Try.func116,ZZ⟩,⟨_,Try.func117,Z0⟩,⟨_,Try.func118,Z1⟩,⟨_,Try.func119,Z2⟩,⟨_,Try.func120,Z3⟩,⟨_,Try.func121,Z4⟩,⟨_,Try.func122,Z5⟩,⟨_,Try.func123,Z6⟩,⟨_,Try.func124,Z7⟩,⟨_,Try.func125,Z8⟩,⟨_,Try.func126,Z9⟩,⟨_,Try.func127,aaa⟩,⟨_,Try.func128,aab⟩,⟨_,Try.func129,aac⟩,⟨_,Try.func130,aad⟩,⟨_,Try.func131,aae⟩,⟨_,Try.func132,aaf⟩,⟨_,Try.func133,aag⟩,⟨_,Try.func134,aah⟩,⟨_,Try.func135,aai⟩,⟨_,Try.func136,aaj⟩,⟨_,Try.func137,aak⟩,⟨_,Try.func138,aal⟩,⟨_,Try.func139,aam⟩,⟨_,Try.func140,aan⟩,⟨_,Try.func141,aao⟩,⟨_,Try.func142,aap⟩,⟨_,Try.func143,aaq⟩,⟨_,Try.func144,aar⟩,⟨_,Try.func145,aas⟩,⟨_,Try.func146,aat⟩,⟨_,Try.func147,aau⟩,⟨_,Try.func148,aav⟩,⟨_,Try.func149,aaw⟩,⟨_,Try.func150,aax⟩,⟨_,Try.func151,aay⟩,⟨_,Try.func152,aaz⟩,⟨_,Try.func153,aaA⟩,trivial⟩
theorem tie:T=WZ lsC:=by kernel_rfl
theorem aaB:NF (fun _ af=>gr af.body=true) lsC:=
 ⟨rfl,rfl,rfl,rfl,rfl,rfl,rfl,rfl,rfl,rfl,rfl,rfl,rfl,rfl,rfl,rfl,rfl,rfl,rfl,rfl,rfl,rfl,rfl,rfl,rfl,rfl,rfl,rfl,rfl,rfl,rfl,rfl,rfl,rfl,rfl,rfl,rfl,rfl,rfl,rfl,rfl,rfl,rfl,rfl,rfl,rfl,rfl,rfl,rfl,rfl,rfl,rfl,rfl,rfl,rfl,rfl,rfl,rfl,rfl,rfl,rfl,rfl,rfl,rfl,rfl,rfl,rfl,rfl,rfl,rfl,rfl,rfl,rfl,rfl,rfl,rfl,rfl,rfl,rfl,rfl,rfl,rfl,rfl,rfl,rfl,rfl,rfl,rfl,rfl,rfl,rfl,rfl,rfl,rfl,rfl,rfl,rfl,rfl,rfl,rfl,rfl,rfl,rfl,rfl,rfl,rfl,rfl,rfl,rfl,rfl,rfl,rfl,rfl,rfl,rfl,rfl,rfl,rfl,rfl,rfl,rfl,rfl,rfl,rfl,rfl,rfl,rfl,rfl,rfl,rfl,rfl,rfl,rfl,rfl,rfl,trivial⟩
theorem codes(f:Nat)(af:aB)(h:fs f=some af):gr af.body=true:=by unfold fs at h;rw[tie] at h;exact ql aaB h
end Ir
end Go.Proofs.Ytepdklcpagielaa
