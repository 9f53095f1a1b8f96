/-
  The printed functions are what the loaded ones compile to.
-/
import Derived.Test.YtepdklcpagielaaIrCode
import Derived.Test.YtepdklcpagielaaVsWp
import Derived.Test.YtepdklcpagielaaChecked
import Derived.KernelRfl
set_option linter.unusedVariables false
set_option maxRecDepth 100000
namespace Go.Proofs.Ytepdklcpagielaa
open Go Ads
namespace Ir
theorem L8 : compFunc Try.prog Try.f8 = some C8 := by kernel_rfl
theorem L28 : compFunc Try.prog Try.f28 = some C28 := by kernel_rfl
theorem L29 : compFunc Try.prog Try.f29 = some C29 := by kernel_rfl
theorem L30 : compFunc Try.prog Try.f30 = some C30 := by kernel_rfl
theorem L31 : compFunc Try.prog Try.f31 = some C31 := by kernel_rfl
theorem L32 : compFunc Try.prog Try.f32 = some C32 := by kernel_rfl
theorem L33 : compFunc Try.prog Try.f33 = some C33 := by kernel_rfl
theorem L34 : compFunc Try.prog Try.f34 = some C34 := by kernel_rfl
theorem L42 : compFunc Try.prog Try.f42 = some C42 := by kernel_rfl
theorem L50 : compFunc Try.prog Try.f50 = some C50 := by kernel_rfl
theorem L51 : compFunc Try.prog Try.f51 = some C51 := by kernel_rfl
theorem L52 : compFunc Try.prog Try.f52 = some C52 := by kernel_rfl
theorem L53 : compFunc Try.prog Try.f53 = some C53 := by kernel_rfl
theorem L54 : compFunc Try.prog Try.f54 = some C54 := by kernel_rfl
theorem L76 : compFunc Try.prog Try.f76 = some C76 := by kernel_rfl
theorem L77 : compFunc Try.prog Try.f77 = some C77 := by kernel_rfl
theorem L78 : compFunc Try.prog Try.f78 = some C78 := by kernel_rfl
theorem L80 : compFunc Try.prog Try.f80 = some C80 := by kernel_rfl
theorem L97 : compFunc Try.prog Try.f97 = some C97 := by kernel_rfl
theorem L98 : compFunc Try.prog Try.f98 = some C98 := by kernel_rfl
theorem L99 : compFunc Try.prog Try.f99 = some C99 := by kernel_rfl
theorem L100 : compFunc Try.prog Try.f100 = some C100 := by kernel_rfl
theorem L105 : compFunc Try.prog Try.f105 = some C105 := by kernel_rfl
theorem L106 : compFunc Try.prog Try.f106 = some C106 := by kernel_rfl
theorem L107 : compFunc Try.prog Try.f107 = some C107 := by kernel_rfl
theorem L108 : compFunc Try.prog Try.f108 = some C108 := by kernel_rfl
theorem L109 : compFunc Try.prog Try.f109 = some C109 := by kernel_rfl
theorem L110 : compFunc Try.prog Try.f110 = some C110 := by kernel_rfl
theorem L112 : compFunc Try.prog Try.f112 = some C112 := by kernel_rfl
theorem L113 : compFunc Try.prog Try.f113 = some C113 := by kernel_rfl
theorem L114 : compFunc Try.prog Try.f114 = some C114 := by kernel_rfl
theorem L115 : compFunc Try.prog Try.f115 = some C115 := by kernel_rfl
theorem L116 : compFunc Try.prog Try.f116 = some C116 := by kernel_rfl
theorem L117 : compFunc Try.prog Try.f117 = some C117 := by kernel_rfl
theorem L118 : compFunc Try.prog Try.f118 = some C118 := by kernel_rfl
theorem L119 : compFunc Try.prog Try.f119 = some C119 := by kernel_rfl
theorem L120 : compFunc Try.prog Try.f120 = some C120 := by kernel_rfl
theorem L121 : compFunc Try.prog Try.f121 = some C121 := by kernel_rfl
theorem L122 : compFunc Try.prog Try.f122 = some C122 := by kernel_rfl
theorem L123 : compFunc Try.prog Try.f123 = some C123 := by kernel_rfl
theorem L124 : compFunc Try.prog Try.f124 = some C124 := by kernel_rfl
theorem L125 : compFunc Try.prog Try.f125 = some C125 := by kernel_rfl
theorem L126 : compFunc Try.prog Try.f126 = some C126 := by kernel_rfl
theorem L127 : compFunc Try.prog Try.f127 = some C127 := by kernel_rfl
theorem L128 : compFunc Try.prog Try.f128 = some C128 := by kernel_rfl
theorem L129 : compFunc Try.prog Try.f129 = some C129 := by kernel_rfl
theorem L130 : compFunc Try.prog Try.f130 = some C130 := by kernel_rfl
theorem L131 : compFunc Try.prog Try.f131 = some C131 := by kernel_rfl
theorem L132 : compFunc Try.prog Try.f132 = some C132 := by kernel_rfl
theorem L133 : compFunc Try.prog Try.f133 = some C133 := by kernel_rfl
theorem L134 : compFunc Try.prog Try.f134 = some C134 := by kernel_rfl
theorem L135 : compFunc Try.prog Try.f135 = some C135 := by kernel_rfl
theorem L136 : compFunc Try.prog Try.f136 = some C136 := by kernel_rfl
theorem L137 : compFunc Try.prog Try.f137 = some C137 := by kernel_rfl
theorem L138 : compFunc Try.prog Try.f138 = some C138 := by kernel_rfl
theorem L139 : compFunc Try.prog Try.f139 = some C139 := by kernel_rfl
theorem L140 : compFunc Try.prog Try.f140 = some C140 := by kernel_rfl
theorem L141 : compFunc Try.prog Try.f141 = some C141 := by kernel_rfl
theorem L142 : compFunc Try.prog Try.f142 = some C142 := by kernel_rfl
theorem L143 : compFunc Try.prog Try.f143 = some C143 := by kernel_rfl
theorem L144 : compFunc Try.prog Try.f144 = some C144 := by kernel_rfl
theorem L145 : compFunc Try.prog Try.f145 = some C145 := by kernel_rfl
theorem L146 : compFunc Try.prog Try.f146 = some C146 := by kernel_rfl
theorem L147 : compFunc Try.prog Try.f147 = some C147 := by kernel_rfl
theorem L148 : compFunc Try.prog Try.f148 = some C148 := by kernel_rfl
theorem L149 : compFunc Try.prog Try.f149 = some C149 := by kernel_rfl
theorem L150 : compFunc Try.prog Try.f150 = some C150 := by kernel_rfl
theorem L151 : compFunc Try.prog Try.f151 = some C151 := by kernel_rfl
theorem L152 : compFunc Try.prog Try.f152 = some C152 := by kernel_rfl
theorem L153 : compFunc Try.prog Try.f153 = some C153 := by kernel_rfl
theorem all : AllT (fun f af => ∃ fn, Try.prog.funcs[f]? = some fn ∧ compFunc Try.prog fn = some af) [(8, C8), (28, C28), (29, C29), (30, C30), (31, C31), (32, C32), (33, C33), (34, C34), (42, C42), (50, C50), (51, C51), (52, C52), (53, C53), (54, C54), (76, C76), (77, C77), (78, C78), (80, C80), (97, C97), (98, C98), (99, C99), (100, C100), (105, C105), (106, C106), (107, C107), (108, C108), (109, C109), (110, C110), (112, C112), (113, C113), (114, C114), (115, C115), (116, C116), (117, C117), (118, C118), (119, C119), (120, C120), (121, C121), (122, C122), (123, C123), (124, C124), (125, C125), (126, C126), (127, C127), (128, C128), (129, C129), (130, C130), (131, C131), (132, C132), (133, C133), (134, C134), (135, C135), (136, C136), (137, C137), (138, C138), (139, C139), (140, C140), (141, C141), (142, C142), (143, C143), (144, C144), (145, C145), (146, C146), (147, C147), (148, C148), (149, C149), (150, C150), (151, C151), (152, C152), (153, C153)] :=
 ⟨⟨_, Try.func8, L8⟩, ⟨_, Try.func28, L28⟩, ⟨_, Try.func29, L29⟩, ⟨_, Try.func30, L30⟩, ⟨_, Try.func31, L31⟩, ⟨_, Try.func32, L32⟩, ⟨_, Try.func33, L33⟩, ⟨_, Try.func34, L34⟩, ⟨_, Try.func42, L42⟩, ⟨_, Try.func50, L50⟩, ⟨_, Try.func51, L51⟩, ⟨_, Try.func52, L52⟩, ⟨_, Try.func53, L53⟩, ⟨_, Try.func54, L54⟩, ⟨_, Try.func76, L76⟩, ⟨_, Try.func77, L77⟩, ⟨_, Try.func78, L78⟩, ⟨_, Try.func80, L80⟩, ⟨_, Try.func97, L97⟩, ⟨_, Try.func98, L98⟩, ⟨_, Try.func99, L99⟩, ⟨_, Try.func100, L100⟩, ⟨_, Try.func105, L105⟩, ⟨_, Try.func106, L106⟩, ⟨_, Try.func107, L107⟩, ⟨_, Try.func108, L108⟩, ⟨_, Try.func109, L109⟩, ⟨_, Try.func110, L110⟩, ⟨_, Try.func112, L112⟩, ⟨_, Try.func113, L113⟩, ⟨_, Try.func114, L114⟩, ⟨_, Try.func115, L115⟩, ⟨_, Try.func116, L116⟩, ⟨_, Try.func117, L117⟩, ⟨_, Try.func118, L118⟩, ⟨_, Try.func119, L119⟩, ⟨_, Try.func120, L120⟩, ⟨_, Try.func121, L121⟩, ⟨_, Try.func122, L122⟩, ⟨_, Try.func123, L123⟩, ⟨_, Try.func124, L124⟩, ⟨_, Try.func125, L125⟩, ⟨_, Try.func126, L126⟩, ⟨_, Try.func127, L127⟩, ⟨_, Try.func128, L128⟩, ⟨_, Try.func129, L129⟩, ⟨_, Try.func130, L130⟩, ⟨_, Try.func131, L131⟩, ⟨_, Try.func132, L132⟩, ⟨_, Try.func133, L133⟩, ⟨_, Try.func134, L134⟩, ⟨_, Try.func135, L135⟩, ⟨_, Try.func136, L136⟩, ⟨_, Try.func137, L137⟩, ⟨_, Try.func138, L138⟩, ⟨_, Try.func139, L139⟩, ⟨_, Try.func140, L140⟩, ⟨_, Try.func141, L141⟩, ⟨_, Try.func142, L142⟩, ⟨_, Try.func143, L143⟩, ⟨_, Try.func144, L144⟩, ⟨_, Try.func145, L145⟩, ⟨_, Try.func146, L146⟩, ⟨_, Try.func147, L147⟩, ⟨_, Try.func148, L148⟩, ⟨_, Try.func149, L149⟩, ⟨_, Try.func150, L150⟩, ⟨_, Try.func151, L151⟩, ⟨_, Try.func152, L152⟩, ⟨_, Try.func153, L153⟩, trivial⟩
theorem tie : T = ofL [(8, C8), (28, C28), (29, C29), (30, C30), (31, C31), (32, C32), (33, C33), (34, C34), (42, C42), (50, C50), (51, C51), (52, C52), (53, C53), (54, C54), (76, C76), (77, C77), (78, C78), (80, C80), (97, C97), (98, C98), (99, C99), (100, C100), (105, C105), (106, C106), (107, C107), (108, C108), (109, C109), (110, C110), (112, C112), (113, C113), (114, C114), (115, C115), (116, C116), (117, C117), (118, C118), (119, C119), (120, C120), (121, C121), (122, C122), (123, C123), (124, C124), (125, C125), (126, C126), (127, C127), (128, C128), (129, C129), (130, C130), (131, C131), (132, C132), (133, C133), (134, C134), (135, C135), (136, C136), (137, C137), (138, C138), (139, C139), (140, C140), (141, C141), (142, C142), (143, C143), (144, C144), (145, C145), (146, C146), (147, C147), (148, C148), (149, C149), (150, C150), (151, C151), (152, C152), (153, C153)] := by kernel_rfl
theorem allC : AllT (fun _ af => codeC af.body = true) [(8, C8), (28, C28), (29, C29), (30, C30), (31, C31), (32, C32), (33, C33), (34, C34), (42, C42), (50, C50), (51, C51), (52, C52), (53, C53), (54, C54), (76, C76), (77, C77), (78, C78), (80, C80), (97, C97), (98, C98), (99, C99), (100, C100), (105, C105), (106, C106), (107, C107), (108, C108), (109, C109), (110, C110), (112, C112), (113, C113), (114, C114), (115, C115), (116, C116), (117, C117), (118, C118), (119, C119), (120, C120), (121, C121), (122, C122), (123, C123), (124, C124), (125, C125), (126, C126), (127, C127), (128, C128), (129, C129), (130, C130), (131, C131), (132, C132), (133, C133), (134, C134), (135, C135), (136, C136), (137, C137), (138, C138), (139, C139), (140, C140), (141, C141), (142, C142), (143, C143), (144, C144), (145, C145), (146, C146), (147, C147), (148, C148), (149, C149), (150, C150), (151, C151), (152, C152), (153, C153)] :=
 ⟨rfl, rfl, rfl, rfl, rfl, rfl, rfl, rfl, rfl, rfl, rfl, rfl, rfl, rfl, rfl, rfl, rfl, rfl, rfl, rfl, rfl, rfl, rfl, rfl, rfl, rfl, rfl, rfl, rfl, rfl, rfl, rfl, rfl, rfl, rfl, rfl, rfl, rfl, rfl, rfl, rfl, rfl, rfl, rfl, rfl, rfl, rfl, rfl, rfl, rfl, rfl, rfl, rfl, rfl, rfl, rfl, rfl, rfl, rfl, rfl, rfl, rfl, rfl, rfl, rfl, rfl, rfl, rfl, rfl, rfl, trivial⟩
theorem codes (f : Nat) (af : AFunc) (h : fs f = some af) : codeC af.body = true := by unfold fs at h; rw [tie] at h; exact ofL_get allC h
end Ir
end Go.Proofs.Ytepdklcpagielaa
