/-
  The printed functions are what the loaded ones compile to.
-/
import Derived.Test.YtlndlbngfgaoeaaIrCode
import Derived.Test.YtlndlbngfgaoeaaVsWp
import Derived.Test.YtlndlbngfgaoeaaChecked
import Derived.KernelRfl
set_option linter.unusedVariables false
set_option maxRecDepth 100000
namespace Go.Proofs.Ytlndlbngfgaoeaa
open Go Ads
namespace Ir
abbrev lsC : List (Nat × AFunc) := [(3, C3), (4, C4), (5, C5), (6, C6), (8, C8), (9, C9), (10, C10), (11, C11), (12, C12), (13, C13), (14, C14), (15, C15), (16, C16), (17, C17), (18, C18), (19, C19), (20, C20), (21, C21), (23, C23), (26, C26), (27, C27), (28, C28), (29, C29), (30, C30), (31, C31), (32, C32), (33, C33), (34, C34), (35, C35), (36, C36), (37, C37), (38, C38), (39, C39), (40, C40), (41, C41), (42, C42), (44, C44), (45, C45), (46, C46), (47, C47), (48, C48), (49, C49), (50, C50), (51, C51), (52, C52), (53, C53), (54, C54), (55, C55), (56, C56), (57, C57), (58, C58), (59, C59), (60, C60), (61, C61), (62, C62), (63, C63), (64, C64), (65, C65), (66, C66), (67, C67), (68, C68), (69, C69), (70, C70), (71, C71), (72, C72), (73, C73), (74, C74), (75, C75), (76, C76), (77, C77), (78, C78), (79, C79), (80, C80), (81, C81), (82, C82), (83, C83), (84, C84), (85, C85), (86, C86), (87, C87), (88, C88), (89, C89), (90, C90), (91, C91), (92, C92), (93, C93), (94, C94), (95, C95), (96, C96), (97, C97), (98, C98), (99, C99), (100, C100), (101, C101), (102, C102), (103, C103), (104, C104), (105, C105), (106, C106), (107, C107), (108, C108)]
theorem L3 : compFunc Try.prog Try.f3 = some C3 := by kernel_rfl
theorem L4 : compFunc Try.prog Try.f4 = some C4 := by kernel_rfl
theorem L5 : compFunc Try.prog Try.f5 = some C5 := by kernel_rfl
theorem L6 : compFunc Try.prog Try.f6 = some C6 := by kernel_rfl
theorem L8 : compFunc Try.prog Try.f8 = some C8 := by kernel_rfl
theorem L9 : compFunc Try.prog Try.f9 = some C9 := by kernel_rfl
theorem L10 : compFunc Try.prog Try.f10 = some C10 := by kernel_rfl
theorem L11 : compFunc Try.prog Try.f11 = some C11 := by kernel_rfl
theorem L12 : compFunc Try.prog Try.f12 = some C12 := by kernel_rfl
theorem L13 : compFunc Try.prog Try.f13 = some C13 := by kernel_rfl
theorem L14 : compFunc Try.prog Try.f14 = some C14 := by kernel_rfl
theorem L15 : compFunc Try.prog Try.f15 = some C15 := by kernel_rfl
theorem L16 : compFunc Try.prog Try.f16 = some C16 := by kernel_rfl
theorem L17 : compFunc Try.prog Try.f17 = some C17 := by kernel_rfl
theorem L18 : compFunc Try.prog Try.f18 = some C18 := by kernel_rfl
theorem L19 : compFunc Try.prog Try.f19 = some C19 := by kernel_rfl
theorem L20 : compFunc Try.prog Try.f20 = some C20 := by kernel_rfl
theorem L21 : compFunc Try.prog Try.f21 = some C21 := by kernel_rfl
theorem L23 : compFunc Try.prog Try.f23 = some C23 := by kernel_rfl
theorem L26 : compFunc Try.prog Try.f26 = some C26 := by kernel_rfl
theorem L27 : compFunc Try.prog Try.f27 = some C27 := by kernel_rfl
theorem L28 : compFunc Try.prog Try.f28 = some C28 := by kernel_rfl
theorem L29 : compFunc Try.prog Try.f29 = some C29 := by kernel_rfl
theorem L30 : compFunc Try.prog Try.f30 = some C30 := by kernel_rfl
theorem L31 : compFunc Try.prog Try.f31 = some C31 := by kernel_rfl
theorem L32 : compFunc Try.prog Try.f32 = some C32 := by kernel_rfl
theorem L33 : compFunc Try.prog Try.f33 = some C33 := by kernel_rfl
theorem L34 : compFunc Try.prog Try.f34 = some C34 := by kernel_rfl
theorem L35 : compFunc Try.prog Try.f35 = some C35 := by kernel_rfl
theorem L36 : compFunc Try.prog Try.f36 = some C36 := by kernel_rfl
theorem L37 : compFunc Try.prog Try.f37 = some C37 := by kernel_rfl
theorem L38 : compFunc Try.prog Try.f38 = some C38 := by kernel_rfl
theorem L39 : compFunc Try.prog Try.f39 = some C39 := by kernel_rfl
theorem L40 : compFunc Try.prog Try.f40 = some C40 := by kernel_rfl
theorem L41 : compFunc Try.prog Try.f41 = some C41 := by kernel_rfl
theorem L42 : compFunc Try.prog Try.f42 = some C42 := by kernel_rfl
theorem L44 : compFunc Try.prog Try.f44 = some C44 := by kernel_rfl
theorem L45 : compFunc Try.prog Try.f45 = some C45 := by kernel_rfl
theorem L46 : compFunc Try.prog Try.f46 = some C46 := by kernel_rfl
theorem L47 : compFunc Try.prog Try.f47 = some C47 := by kernel_rfl
theorem L48 : compFunc Try.prog Try.f48 = some C48 := by kernel_rfl
theorem L49 : compFunc Try.prog Try.f49 = some C49 := by kernel_rfl
theorem L50 : compFunc Try.prog Try.f50 = some C50 := by kernel_rfl
theorem L51 : compFunc Try.prog Try.f51 = some C51 := by kernel_rfl
theorem L52 : compFunc Try.prog Try.f52 = some C52 := by kernel_rfl
theorem L53 : compFunc Try.prog Try.f53 = some C53 := by kernel_rfl
theorem L54 : compFunc Try.prog Try.f54 = some C54 := by kernel_rfl
theorem L55 : compFunc Try.prog Try.f55 = some C55 := by kernel_rfl
theorem L56 : compFunc Try.prog Try.f56 = some C56 := by kernel_rfl
theorem L57 : compFunc Try.prog Try.f57 = some C57 := by kernel_rfl
theorem L58 : compFunc Try.prog Try.f58 = some C58 := by kernel_rfl
theorem L59 : compFunc Try.prog Try.f59 = some C59 := by kernel_rfl
theorem L60 : compFunc Try.prog Try.f60 = some C60 := by kernel_rfl
theorem L61 : compFunc Try.prog Try.f61 = some C61 := by kernel_rfl
theorem L62 : compFunc Try.prog Try.f62 = some C62 := by kernel_rfl
theorem L63 : compFunc Try.prog Try.f63 = some C63 := by kernel_rfl
theorem L64 : compFunc Try.prog Try.f64 = some C64 := by kernel_rfl
theorem L65 : compFunc Try.prog Try.f65 = some C65 := by kernel_rfl
theorem L66 : compFunc Try.prog Try.f66 = some C66 := by kernel_rfl
theorem L67 : compFunc Try.prog Try.f67 = some C67 := by kernel_rfl
theorem L68 : compFunc Try.prog Try.f68 = some C68 := by kernel_rfl
theorem L69 : compFunc Try.prog Try.f69 = some C69 := by kernel_rfl
theorem L70 : compFunc Try.prog Try.f70 = some C70 := by kernel_rfl
theorem L71 : compFunc Try.prog Try.f71 = some C71 := by kernel_rfl
theorem L72 : compFunc Try.prog Try.f72 = some C72 := by kernel_rfl
theorem L73 : compFunc Try.prog Try.f73 = some C73 := by kernel_rfl
theorem L74 : compFunc Try.prog Try.f74 = some C74 := by kernel_rfl
theorem L75 : compFunc Try.prog Try.f75 = some C75 := by kernel_rfl
theorem L76 : compFunc Try.prog Try.f76 = some C76 := by kernel_rfl
theorem L77 : compFunc Try.prog Try.f77 = some C77 := by kernel_rfl
theorem L78 : compFunc Try.prog Try.f78 = some C78 := by kernel_rfl
theorem L79 : compFunc Try.prog Try.f79 = some C79 := by kernel_rfl
theorem L80 : compFunc Try.prog Try.f80 = some C80 := by kernel_rfl
theorem L81 : compFunc Try.prog Try.f81 = some C81 := by kernel_rfl
theorem L82 : compFunc Try.prog Try.f82 = some C82 := by kernel_rfl
theorem L83 : compFunc Try.prog Try.f83 = some C83 := by kernel_rfl
theorem L84 : compFunc Try.prog Try.f84 = some C84 := by kernel_rfl
theorem L85 : compFunc Try.prog Try.f85 = some C85 := by kernel_rfl
theorem L86 : compFunc Try.prog Try.f86 = some C86 := by kernel_rfl
theorem L87 : compFunc Try.prog Try.f87 = some C87 := by kernel_rfl
theorem L88 : compFunc Try.prog Try.f88 = some C88 := by kernel_rfl
theorem L89 : compFunc Try.prog Try.f89 = some C89 := by kernel_rfl
theorem L90 : compFunc Try.prog Try.f90 = some C90 := by kernel_rfl
theorem L91 : compFunc Try.prog Try.f91 = some C91 := by kernel_rfl
theorem L92 : compFunc Try.prog Try.f92 = some C92 := by kernel_rfl
theorem L93 : compFunc Try.prog Try.f93 = some C93 := by kernel_rfl
theorem L94 : compFunc Try.prog Try.f94 = some C94 := by kernel_rfl
theorem L95 : compFunc Try.prog Try.f95 = some C95 := by kernel_rfl
theorem L96 : compFunc Try.prog Try.f96 = some C96 := by kernel_rfl
theorem L97 : compFunc Try.prog Try.f97 = some C97 := by kernel_rfl
theorem L98 : compFunc Try.prog Try.f98 = some C98 := by kernel_rfl
theorem L99 : compFunc Try.prog Try.f99 = some C99 := by kernel_rfl
theorem L100 : compFunc Try.prog Try.f100 = some C100 := by kernel_rfl
theorem L101 : compFunc Try.prog Try.f101 = some C101 := by kernel_rfl
theorem L102 : compFunc Try.prog Try.f102 = some C102 := by kernel_rfl
theorem L103 : compFunc Try.prog Try.f103 = some C103 := by kernel_rfl
theorem L104 : compFunc Try.prog Try.f104 = some C104 := by kernel_rfl
theorem L105 : compFunc Try.prog Try.f105 = some C105 := by kernel_rfl
theorem L106 : compFunc Try.prog Try.f106 = some C106 := by kernel_rfl
theorem L107 : compFunc Try.prog Try.f107 = some C107 := by kernel_rfl
theorem L108 : compFunc Try.prog Try.f108 = some C108 := by kernel_rfl
theorem all : AllT (fun f af => ∃ fn, Try.prog.funcs[f]? = some fn ∧ compFunc Try.prog fn = some af) lsC :=
 ⟨⟨_, Try.func3, L3⟩, ⟨_, Try.func4, L4⟩, ⟨_, Try.func5, L5⟩, ⟨_, Try.func6, L6⟩, ⟨_, Try.func8, L8⟩, ⟨_, Try.func9, L9⟩, ⟨_, Try.func10, L10⟩, ⟨_, Try.func11, L11⟩, ⟨_, Try.func12, L12⟩, ⟨_, Try.func13, L13⟩, ⟨_, Try.func14, L14⟩, ⟨_, Try.func15, L15⟩, ⟨_, Try.func16, L16⟩, ⟨_, Try.func17, L17⟩, ⟨_, Try.func18, L18⟩, ⟨_, Try.func19, L19⟩, ⟨_, Try.func20, L20⟩, ⟨_, Try.func21, L21⟩, ⟨_, Try.func23, L23⟩, ⟨_, Try.func26, L26⟩, ⟨_, Try.func27, L27⟩, ⟨_, Try.func28, L28⟩, ⟨_, Try.func29, L29⟩, ⟨_, Try.func30, L30⟩, ⟨_, Try.func31, L31⟩, ⟨_, Try.func32, L32⟩, ⟨_, Try.func33, L33⟩, ⟨_, Try.func34, L34⟩, ⟨_, Try.func35, L35⟩, ⟨_, Try.func36, L36⟩, ⟨_, Try.func37, L37⟩, ⟨_, Try.func38, L38⟩, ⟨_, Try.func39, L39⟩, ⟨_, Try.func40, L40⟩, ⟨_, Try.func41, L41⟩, ⟨_, Try.func42, L42⟩, ⟨_, Try.func44, L44⟩, ⟨_, Try.func45, L45⟩, ⟨_, Try.func46, L46⟩, ⟨_, Try.func47, L47⟩, ⟨_, Try.func48, L48⟩, ⟨_, Try.func49, L49⟩, ⟨_, Try.func50, L50⟩, ⟨_, Try.func51, L51⟩, ⟨_, Try.func52, L52⟩, ⟨_, Try.func53, L53⟩, ⟨_, Try.func54, L54⟩, ⟨_, Try.func55, L55⟩, ⟨_, Try.func56, L56⟩, ⟨_, Try.func57, L57⟩, ⟨_, Try.func58, L58⟩, ⟨_, Try.func59, L59⟩, ⟨_, Try.func60, L60⟩, ⟨_, Try.func61, L61⟩, ⟨_, Try.func62, L62⟩, ⟨_, Try.func63, L63⟩, ⟨_, Try.func64, L64⟩, ⟨_, Try.func65, L65⟩, ⟨_, Try.func66, L66⟩, ⟨_, Try.func67, L67⟩, ⟨_, Try.func68, L68⟩, ⟨_, Try.func69, L69⟩, ⟨_, Try.func70, L70⟩, ⟨_, Try.func71, L71⟩, ⟨_, Try.func72, L72⟩, ⟨_, Try.func73, L73⟩, ⟨_, Try.func74, L74⟩, ⟨_, Try.func75, L75⟩, ⟨_, Try.func76, L76⟩, ⟨_, Try.func77, L77⟩, ⟨_, Try.func78, L78⟩, ⟨_, Try.func79, L79⟩, ⟨_, Try.func80, L80⟩, ⟨_, Try.func81, L81⟩, ⟨_, Try.func82, L82⟩, ⟨_, Try.func83, L83⟩, ⟨_, Try.func84, L84⟩, ⟨_, Try.func85, L85⟩, ⟨_, Try.func86, L86⟩, ⟨_, Try.func87, L87⟩, ⟨_, Try.func88, L88⟩, ⟨_, Try.func89, L89⟩, ⟨_, Try.func90, L90⟩, ⟨_, Try.func91, L91⟩, ⟨_, Try.func92, L92⟩, ⟨_, Try.func93, L93⟩, ⟨_, Try.func94, L94⟩, ⟨_, Try.func95, L95⟩, ⟨_, Try.func96, L96⟩, ⟨_, Try.func97, L97⟩, ⟨_, Try.func98, L98⟩, ⟨_, Try.func99, L99⟩, ⟨_, Try.func100, L100⟩, ⟨_, Try.func101, L101⟩, ⟨_, Try.func102, L102⟩, ⟨_, Try.func103, L103⟩, ⟨_, Try.func104, L104⟩, ⟨_, Try.func105, L105⟩, ⟨_, Try.func106, L106⟩, ⟨_, Try.func107, L107⟩, ⟨_, Try.func108, L108⟩, trivial⟩
theorem tie : T = ofL lsC := by kernel_rfl
theorem allC : AllT (fun _ af => codeC af.body = true) lsC :=
 ⟨rfl, rfl, rfl, rfl, rfl, rfl, rfl, rfl, rfl, rfl, rfl, rfl, rfl, rfl, rfl, rfl, rfl, rfl, rfl, rfl, rfl, rfl, rfl, rfl, rfl, rfl, rfl, rfl, rfl, rfl, rfl, rfl, rfl, rfl, rfl, rfl, rfl, rfl, rfl, rfl, rfl, rfl, rfl, rfl, rfl, rfl, rfl, rfl, rfl, rfl, rfl, rfl, rfl, rfl, rfl, rfl, rfl, rfl, rfl, rfl, rfl, rfl, rfl, rfl, rfl, rfl, rfl, rfl, rfl, rfl, rfl, rfl, rfl, rfl, rfl, rfl, rfl, rfl, rfl, rfl, rfl, rfl, rfl, rfl, rfl, rfl, rfl, rfl, rfl, rfl, rfl, rfl, rfl, rfl, rfl, rfl, rfl, rfl, rfl, rfl, rfl, trivial⟩
theorem codes (f : Nat) (af : AFunc) (h : fs f = some af) : codeC af.body = true := by unfold fs at h; rw [tie] at h; exact ofL_get allC h
end Ir
end Go.Proofs.Ytlndlbngfgaoeaa
