/-
  The printed functions are what the loaded ones compile to.
-/
import Derived.Test.YtecdcefacdodgaaIrCode
import Derived.Test.YtecdcefacdodgaaVsWp
import Derived.Test.YtecdcefacdodgaaChecked
import Derived.KernelRfl
set_option linter.unusedVariables false
set_option maxRecDepth 100000
namespace Go.Proofs.Ytecdcefacdodgaa
open Go Ads
namespace Ir
theorem L4 : compFunc Try.prog Try.f4 = some C4 := by kernel_rfl
theorem L14 : compFunc Try.prog Try.f14 = some C14 := by kernel_rfl
theorem L15 : compFunc Try.prog Try.f15 = some C15 := by kernel_rfl
theorem L16 : compFunc Try.prog Try.f16 = some C16 := by kernel_rfl
theorem L17 : compFunc Try.prog Try.f17 = some C17 := by kernel_rfl
theorem L18 : compFunc Try.prog Try.f18 = some C18 := by kernel_rfl
theorem L19 : compFunc Try.prog Try.f19 = some C19 := by kernel_rfl
theorem L20 : compFunc Try.prog Try.f20 = some C20 := by kernel_rfl
theorem L21 : compFunc Try.prog Try.f21 = some C21 := by kernel_rfl
theorem L22 : compFunc Try.prog Try.f22 = some C22 := by kernel_rfl
theorem L23 : compFunc Try.prog Try.f23 = some C23 := by kernel_rfl
theorem L24 : compFunc Try.prog Try.f24 = some C24 := by kernel_rfl
theorem L53 : compFunc Try.prog Try.f53 = some C53 := by kernel_rfl
theorem L54 : compFunc Try.prog Try.f54 = some C54 := by kernel_rfl
theorem L55 : compFunc Try.prog Try.f55 = some C55 := by kernel_rfl
theorem L56 : compFunc Try.prog Try.f56 = some C56 := by kernel_rfl
theorem L57 : compFunc Try.prog Try.f57 = some C57 := by kernel_rfl
theorem L81 : compFunc Try.prog Try.f81 = some C81 := by kernel_rfl
theorem L82 : compFunc Try.prog Try.f82 = some C82 := by kernel_rfl
theorem L83 : compFunc Try.prog Try.f83 = some C83 := by kernel_rfl
theorem L84 : compFunc Try.prog Try.f84 = some C84 := by kernel_rfl
theorem L85 : compFunc Try.prog Try.f85 = some C85 := by kernel_rfl
theorem L86 : compFunc Try.prog Try.f86 = some C86 := by kernel_rfl
theorem L87 : compFunc Try.prog Try.f87 = some C87 := by kernel_rfl
theorem L88 : compFunc Try.prog Try.f88 = some C88 := by kernel_rfl
theorem L89 : compFunc Try.prog Try.f89 = some C89 := by kernel_rfl
theorem L90 : compFunc Try.prog Try.f90 = some C90 := by kernel_rfl
theorem L91 : compFunc Try.prog Try.f91 = some C91 := by kernel_rfl
theorem L92 : compFunc Try.prog Try.f92 = some C92 := by kernel_rfl
theorem L93 : compFunc Try.prog Try.f93 = some C93 := by kernel_rfl
theorem L94 : compFunc Try.prog Try.f94 = some C94 := by kernel_rfl
theorem L95 : compFunc Try.prog Try.f95 = some C95 := by kernel_rfl
theorem L96 : compFunc Try.prog Try.f96 = some C96 := by kernel_rfl
theorem L97 : compFunc Try.prog Try.f97 = some C97 := by kernel_rfl
theorem L106 : compFunc Try.prog Try.f106 = some C106 := by kernel_rfl
theorem L107 : compFunc Try.prog Try.f107 = some C107 := by kernel_rfl
theorem L108 : compFunc Try.prog Try.f108 = some C108 := by kernel_rfl
theorem L109 : compFunc Try.prog Try.f109 = some C109 := by kernel_rfl
theorem L110 : compFunc Try.prog Try.f110 = some C110 := by kernel_rfl
theorem L111 : compFunc Try.prog Try.f111 = some C111 := by kernel_rfl
theorem L112 : compFunc Try.prog Try.f112 = some C112 := by kernel_rfl
theorem L113 : compFunc Try.prog Try.f113 = some C113 := by kernel_rfl
theorem L114 : compFunc Try.prog Try.f114 = some C114 := by kernel_rfl
theorem L115 : compFunc Try.prog Try.f115 = some C115 := by kernel_rfl
theorem L116 : compFunc Try.prog Try.f116 = some C116 := by kernel_rfl
theorem L117 : compFunc Try.prog Try.f117 = some C117 := by kernel_rfl
theorem L118 : compFunc Try.prog Try.f118 = some C118 := by kernel_rfl
theorem L119 : compFunc Try.prog Try.f119 = some C119 := by kernel_rfl
theorem L120 : compFunc Try.prog Try.f120 = some C120 := by kernel_rfl
theorem L121 : compFunc Try.prog Try.f121 = some C121 := by kernel_rfl
theorem L122 : compFunc Try.prog Try.f122 = some C122 := by kernel_rfl
theorem L133 : compFunc Try.prog Try.f133 = some C133 := by kernel_rfl
theorem L134 : compFunc Try.prog Try.f134 = some C134 := by kernel_rfl
theorem L135 : compFunc Try.prog Try.f135 = some C135 := by kernel_rfl
theorem L136 : compFunc Try.prog Try.f136 = some C136 := by kernel_rfl
theorem L137 : compFunc Try.prog Try.f137 = some C137 := by kernel_rfl
theorem L138 : compFunc Try.prog Try.f138 = some C138 := by kernel_rfl
theorem L139 : compFunc Try.prog Try.f139 = some C139 := by kernel_rfl
theorem L140 : compFunc Try.prog Try.f140 = some C140 := by kernel_rfl
theorem L141 : compFunc Try.prog Try.f141 = some C141 := by kernel_rfl
theorem L142 : compFunc Try.prog Try.f142 = some C142 := by kernel_rfl
theorem L143 : compFunc Try.prog Try.f143 = some C143 := by kernel_rfl
theorem L144 : compFunc Try.prog Try.f144 = some C144 := by kernel_rfl
theorem L145 : compFunc Try.prog Try.f145 = some C145 := by kernel_rfl
theorem L146 : compFunc Try.prog Try.f146 = some C146 := by kernel_rfl
theorem L147 : compFunc Try.prog Try.f147 = some C147 := by kernel_rfl
theorem L148 : compFunc Try.prog Try.f148 = some C148 := by kernel_rfl
theorem L154 : compFunc Try.prog Try.f154 = some C154 := by kernel_rfl
theorem L155 : compFunc Try.prog Try.f155 = some C155 := by kernel_rfl
theorem L156 : compFunc Try.prog Try.f156 = some C156 := by kernel_rfl
theorem L157 : compFunc Try.prog Try.f157 = some C157 := by kernel_rfl
theorem L158 : compFunc Try.prog Try.f158 = some C158 := by kernel_rfl
theorem L159 : compFunc Try.prog Try.f159 = some C159 := by kernel_rfl
theorem L160 : compFunc Try.prog Try.f160 = some C160 := by kernel_rfl
theorem L161 : compFunc Try.prog Try.f161 = some C161 := by kernel_rfl
theorem L162 : compFunc Try.prog Try.f162 = some C162 := by kernel_rfl
theorem L164 : compFunc Try.prog Try.f164 = some C164 := by kernel_rfl
theorem L165 : compFunc Try.prog Try.f165 = some C165 := by kernel_rfl
theorem L166 : compFunc Try.prog Try.f166 = some C166 := by kernel_rfl
theorem L167 : compFunc Try.prog Try.f167 = some C167 := by kernel_rfl
theorem L168 : compFunc Try.prog Try.f168 = some C168 := by kernel_rfl
theorem L169 : compFunc Try.prog Try.f169 = some C169 := by kernel_rfl
theorem L170 : compFunc Try.prog Try.f170 = some C170 := by kernel_rfl
theorem L171 : compFunc Try.prog Try.f171 = some C171 := by kernel_rfl
theorem all : AllT (fun f af => ∃ fn, Try.prog.funcs[f]? = some fn ∧ compFunc Try.prog fn = some af) [(4, C4), (14, C14), (15, C15), (16, C16), (17, C17), (18, C18), (19, C19), (20, C20), (21, C21), (22, C22), (23, C23), (24, C24), (53, C53), (54, C54), (55, C55), (56, C56), (57, C57), (81, C81), (82, C82), (83, C83), (84, C84), (85, C85), (86, C86), (87, C87), (88, C88), (89, C89), (90, C90), (91, C91), (92, C92), (93, C93), (94, C94), (95, C95), (96, C96), (97, C97), (106, C106), (107, C107), (108, C108), (109, C109), (110, C110), (111, C111), (112, C112), (113, C113), (114, C114), (115, C115), (116, C116), (117, C117), (118, C118), (119, C119), (120, C120), (121, C121), (122, C122), (133, C133), (134, C134), (135, C135), (136, C136), (137, C137), (138, C138), (139, C139), (140, C140), (141, C141), (142, C142), (143, C143), (144, C144), (145, C145), (146, C146), (147, C147), (148, C148), (154, C154), (155, C155), (156, C156), (157, C157), (158, C158), (159, C159), (160, C160), (161, C161), (162, C162), (164, C164), (165, C165), (166, C166), (167, C167), (168, C168), (169, C169), (170, C170), (171, C171)] :=
 ⟨⟨_, Try.func4, L4⟩, ⟨_, Try.func14, L14⟩, ⟨_, Try.func15, L15⟩, ⟨_, Try.func16, L16⟩, ⟨_, Try.func17, L17⟩, ⟨_, Try.func18, L18⟩, ⟨_, Try.func19, L19⟩, ⟨_, Try.func20, L20⟩, ⟨_, Try.func21, L21⟩, ⟨_, Try.func22, L22⟩, ⟨_, Try.func23, L23⟩, ⟨_, Try.func24, L24⟩, ⟨_, Try.func53, L53⟩, ⟨_, Try.func54, L54⟩, ⟨_, Try.func55, L55⟩, ⟨_, Try.func56, L56⟩, ⟨_, Try.func57, L57⟩, ⟨_, Try.func81, L81⟩, ⟨_, Try.func82, L82⟩, ⟨_, Try.func83, L83⟩, ⟨_, Try.func84, L84⟩, ⟨_, Try.func85, L85⟩, ⟨_, Try.func86, L86⟩, ⟨_, Try.func87, L87⟩, ⟨_, Try.func88, L88⟩, ⟨_, Try.func89, L89⟩, ⟨_, Try.func90, L90⟩, ⟨_, Try.func91, L91⟩, ⟨_, Try.func92, L92⟩, ⟨_, Try.func93, L93⟩, ⟨_, Try.func94, L94⟩, ⟨_, Try.func95, L95⟩, ⟨_, Try.func96, L96⟩, ⟨_, Try.func97, L97⟩, ⟨_, Try.func106, L106⟩, ⟨_, Try.func107, L107⟩, ⟨_, Try.func108, L108⟩, ⟨_, Try.func109, L109⟩, ⟨_, Try.func110, L110⟩, ⟨_, Try.func111, L111⟩, ⟨_, Try.func112, L112⟩, ⟨_, Try.func113, L113⟩, ⟨_, Try.func114, L114⟩, ⟨_, Try.func115, L115⟩, ⟨_, Try.func116, L116⟩, ⟨_, Try.func117, L117⟩, ⟨_, Try.func118, L118⟩, ⟨_, Try.func119, L119⟩, ⟨_, Try.func120, L120⟩, ⟨_, Try.func121, L121⟩, ⟨_, Try.func122, L122⟩, ⟨_, Try.func133, L133⟩, ⟨_, Try.func134, L134⟩, ⟨_, Try.func135, L135⟩, ⟨_, Try.func136, L136⟩, ⟨_, Try.func137, L137⟩, ⟨_, Try.func138, L138⟩, ⟨_, Try.func139, L139⟩, ⟨_, Try.func140, L140⟩, ⟨_, Try.func141, L141⟩, ⟨_, Try.func142, L142⟩, ⟨_, Try.func143, L143⟩, ⟨_, Try.func144, L144⟩, ⟨_, Try.func145, L145⟩, ⟨_, Try.func146, L146⟩, ⟨_, Try.func147, L147⟩, ⟨_, Try.func148, L148⟩, ⟨_, Try.func154, L154⟩, ⟨_, Try.func155, L155⟩, ⟨_, Try.func156, L156⟩, ⟨_, Try.func157, L157⟩, ⟨_, Try.func158, L158⟩, ⟨_, Try.func159, L159⟩, ⟨_, Try.func160, L160⟩, ⟨_, Try.func161, L161⟩, ⟨_, Try.func162, L162⟩, ⟨_, Try.func164, L164⟩, ⟨_, Try.func165, L165⟩, ⟨_, Try.func166, L166⟩, ⟨_, Try.func167, L167⟩, ⟨_, Try.func168, L168⟩, ⟨_, Try.func169, L169⟩, ⟨_, Try.func170, L170⟩, ⟨_, Try.func171, L171⟩, trivial⟩
theorem tie : T = ofL [(4, C4), (14, C14), (15, C15), (16, C16), (17, C17), (18, C18), (19, C19), (20, C20), (21, C21), (22, C22), (23, C23), (24, C24), (53, C53), (54, C54), (55, C55), (56, C56), (57, C57), (81, C81), (82, C82), (83, C83), (84, C84), (85, C85), (86, C86), (87, C87), (88, C88), (89, C89), (90, C90), (91, C91), (92, C92), (93, C93), (94, C94), (95, C95), (96, C96), (97, C97), (106, C106), (107, C107), (108, C108), (109, C109), (110, C110), (111, C111), (112, C112), (113, C113), (114, C114), (115, C115), (116, C116), (117, C117), (118, C118), (119, C119), (120, C120), (121, C121), (122, C122), (133, C133), (134, C134), (135, C135), (136, C136), (137, C137), (138, C138), (139, C139), (140, C140), (141, C141), (142, C142), (143, C143), (144, C144), (145, C145), (146, C146), (147, C147), (148, C148), (154, C154), (155, C155), (156, C156), (157, C157), (158, C158), (159, C159), (160, C160), (161, C161), (162, C162), (164, C164), (165, C165), (166, C166), (167, C167), (168, C168), (169, C169), (170, C170), (171, C171)] := by kernel_rfl
theorem allC : AllT (fun _ af => codeC af.body = true) [(4, C4), (14, C14), (15, C15), (16, C16), (17, C17), (18, C18), (19, C19), (20, C20), (21, C21), (22, C22), (23, C23), (24, C24), (53, C53), (54, C54), (55, C55), (56, C56), (57, C57), (81, C81), (82, C82), (83, C83), (84, C84), (85, C85), (86, C86), (87, C87), (88, C88), (89, C89), (90, C90), (91, C91), (92, C92), (93, C93), (94, C94), (95, C95), (96, C96), (97, C97), (106, C106), (107, C107), (108, C108), (109, C109), (110, C110), (111, C111), (112, C112), (113, C113), (114, C114), (115, C115), (116, C116), (117, C117), (118, C118), (119, C119), (120, C120), (121, C121), (122, C122), (133, C133), (134, C134), (135, C135), (136, C136), (137, C137), (138, C138), (139, C139), (140, C140), (141, C141), (142, C142), (143, C143), (144, C144), (145, C145), (146, C146), (147, C147), (148, C148), (154, C154), (155, C155), (156, C156), (157, C157), (158, C158), (159, C159), (160, C160), (161, C161), (162, C162), (164, C164), (165, C165), (166, C166), (167, C167), (168, C168), (169, C169), (170, C170), (171, C171)] :=
 ⟨rfl, rfl, rfl, rfl, rfl, rfl, rfl, rfl, rfl, rfl, rfl, rfl, rfl, rfl, rfl, rfl, rfl, rfl, rfl, rfl, rfl, rfl, rfl, rfl, rfl, rfl, rfl, rfl, rfl, rfl, rfl, rfl, rfl, rfl, rfl, rfl, rfl, rfl, rfl, rfl, rfl, rfl, rfl, rfl, rfl, rfl, rfl, rfl, rfl, rfl, rfl, rfl, rfl, rfl, rfl, rfl, rfl, rfl, rfl, rfl, rfl, rfl, rfl, rfl, rfl, rfl, rfl, rfl, rfl, rfl, rfl, rfl, rfl, rfl, rfl, rfl, rfl, rfl, rfl, rfl, rfl, rfl, rfl, rfl, trivial⟩
theorem codes (f : Nat) (af : AFunc) (h : fs f = some af) : codeC af.body = true := by unfold fs at h; rw [tie] at h; exact ofL_get allC h
end Ir
end Go.Proofs.Ytecdcefacdodgaa
