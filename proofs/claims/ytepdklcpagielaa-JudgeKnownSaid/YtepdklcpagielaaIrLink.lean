/-
  The printed functions are what the loaded ones compile to.
-/
import Derived.Test.YtepdklcpagielaaIrCode
import Derived.Test.YtepdklcpagielaaVsWp
import Derived.Test.YtepdklcpagielaaChecked
import Derived.KernelRfl
set_option linter.unusedVariables false
set_option maxRecDepth 100000
namespace Go.Proofs.Ytepdklcpagielaa
open Go Ads
namespace Ir
theorem L4 : compFunc Try.prog Try.f4 = some C4 := by kernel_rfl
theorem L6 : compFunc Try.prog Try.f6 = some C6 := by kernel_rfl
theorem L7 : compFunc Try.prog Try.f7 = some C7 := by kernel_rfl
theorem L17 : compFunc Try.prog Try.f17 = some C17 := by kernel_rfl
theorem L18 : compFunc Try.prog Try.f18 = some C18 := by kernel_rfl
theorem L19 : compFunc Try.prog Try.f19 = some C19 := by kernel_rfl
theorem L20 : compFunc Try.prog Try.f20 = some C20 := by kernel_rfl
theorem L21 : compFunc Try.prog Try.f21 = some C21 := by kernel_rfl
theorem L23 : compFunc Try.prog Try.f23 = some C23 := by kernel_rfl
theorem L24 : compFunc Try.prog Try.f24 = some C24 := by kernel_rfl
theorem L25 : compFunc Try.prog Try.f25 = some C25 := by kernel_rfl
theorem L26 : compFunc Try.prog Try.f26 = some C26 := by kernel_rfl
theorem L27 : compFunc Try.prog Try.f27 = some C27 := by kernel_rfl
theorem L41 : compFunc Try.prog Try.f41 = some C41 := by kernel_rfl
theorem L42 : compFunc Try.prog Try.f42 = some C42 := by kernel_rfl
theorem L43 : compFunc Try.prog Try.f43 = some C43 := by kernel_rfl
theorem L44 : compFunc Try.prog Try.f44 = some C44 := by kernel_rfl
theorem L45 : compFunc Try.prog Try.f45 = some C45 := by kernel_rfl
theorem L46 : compFunc Try.prog Try.f46 = some C46 := by kernel_rfl
theorem L47 : compFunc Try.prog Try.f47 = some C47 := by kernel_rfl
theorem L48 : compFunc Try.prog Try.f48 = some C48 := by kernel_rfl
theorem L49 : compFunc Try.prog Try.f49 = some C49 := by kernel_rfl
theorem L56 : compFunc Try.prog Try.f56 = some C56 := by kernel_rfl
theorem L57 : compFunc Try.prog Try.f57 = some C57 := by kernel_rfl
theorem L58 : compFunc Try.prog Try.f58 = some C58 := by kernel_rfl
theorem L59 : compFunc Try.prog Try.f59 = some C59 := by kernel_rfl
theorem L60 : compFunc Try.prog Try.f60 = some C60 := by kernel_rfl
theorem L61 : compFunc Try.prog Try.f61 = some C61 := by kernel_rfl
theorem L62 : compFunc Try.prog Try.f62 = some C62 := by kernel_rfl
theorem L63 : compFunc Try.prog Try.f63 = some C63 := by kernel_rfl
theorem L64 : compFunc Try.prog Try.f64 = some C64 := by kernel_rfl
theorem L65 : compFunc Try.prog Try.f65 = some C65 := by kernel_rfl
theorem L66 : compFunc Try.prog Try.f66 = some C66 := by kernel_rfl
theorem L67 : compFunc Try.prog Try.f67 = some C67 := by kernel_rfl
theorem L68 : compFunc Try.prog Try.f68 = some C68 := by kernel_rfl
theorem L69 : compFunc Try.prog Try.f69 = some C69 := by kernel_rfl
theorem L70 : compFunc Try.prog Try.f70 = some C70 := by kernel_rfl
theorem L71 : compFunc Try.prog Try.f71 = some C71 := by kernel_rfl
theorem L72 : compFunc Try.prog Try.f72 = some C72 := by kernel_rfl
theorem L73 : compFunc Try.prog Try.f73 = some C73 := by kernel_rfl
theorem L74 : compFunc Try.prog Try.f74 = some C74 := by kernel_rfl
theorem L75 : compFunc Try.prog Try.f75 = some C75 := by kernel_rfl
theorem L79 : compFunc Try.prog Try.f79 = some C79 := by kernel_rfl
theorem L80 : compFunc Try.prog Try.f80 = some C80 := by kernel_rfl
theorem L81 : compFunc Try.prog Try.f81 = some C81 := by kernel_rfl
theorem L82 : compFunc Try.prog Try.f82 = some C82 := by kernel_rfl
theorem L83 : compFunc Try.prog Try.f83 = some C83 := by kernel_rfl
theorem L84 : compFunc Try.prog Try.f84 = some C84 := by kernel_rfl
theorem L85 : compFunc Try.prog Try.f85 = some C85 := by kernel_rfl
theorem L86 : compFunc Try.prog Try.f86 = some C86 := by kernel_rfl
theorem L87 : compFunc Try.prog Try.f87 = some C87 := by kernel_rfl
theorem L88 : compFunc Try.prog Try.f88 = some C88 := by kernel_rfl
theorem L89 : compFunc Try.prog Try.f89 = some C89 := by kernel_rfl
theorem L90 : compFunc Try.prog Try.f90 = some C90 := by kernel_rfl
theorem L91 : compFunc Try.prog Try.f91 = some C91 := by kernel_rfl
theorem L92 : compFunc Try.prog Try.f92 = some C92 := by kernel_rfl
theorem L93 : compFunc Try.prog Try.f93 = some C93 := by kernel_rfl
theorem L94 : compFunc Try.prog Try.f94 = some C94 := by kernel_rfl
theorem L95 : compFunc Try.prog Try.f95 = some C95 := by kernel_rfl
theorem L96 : compFunc Try.prog Try.f96 = some C96 := by kernel_rfl
theorem L100 : compFunc Try.prog Try.f100 = some C100 := by kernel_rfl
theorem L101 : compFunc Try.prog Try.f101 = some C101 := by kernel_rfl
theorem L102 : compFunc Try.prog Try.f102 = some C102 := by kernel_rfl
theorem L103 : compFunc Try.prog Try.f103 = some C103 := by kernel_rfl
theorem L104 : compFunc Try.prog Try.f104 = some C104 := by kernel_rfl
theorem L111 : compFunc Try.prog Try.f111 = some C111 := by kernel_rfl
theorem all : AllT (fun f af => ∃ fn, Try.prog.funcs[f]? = some fn ∧ compFunc Try.prog fn = some af) [(4, C4), (6, C6), (7, C7), (17, C17), (18, C18), (19, C19), (20, C20), (21, C21), (23, C23), (24, C24), (25, C25), (26, C26), (27, C27), (41, C41), (42, C42), (43, C43), (44, C44), (45, C45), (46, C46), (47, C47), (48, C48), (49, C49), (56, C56), (57, C57), (58, C58), (59, C59), (60, C60), (61, C61), (62, C62), (63, C63), (64, C64), (65, C65), (66, C66), (67, C67), (68, C68), (69, C69), (70, C70), (71, C71), (72, C72), (73, C73), (74, C74), (75, C75), (79, C79), (80, C80), (81, C81), (82, C82), (83, C83), (84, C84), (85, C85), (86, C86), (87, C87), (88, C88), (89, C89), (90, C90), (91, C91), (92, C92), (93, C93), (94, C94), (95, C95), (96, C96), (100, C100), (101, C101), (102, C102), (103, C103), (104, C104), (111, C111)] :=
 ⟨⟨_, Try.func4, L4⟩, ⟨_, Try.func6, L6⟩, ⟨_, Try.func7, L7⟩, ⟨_, Try.func17, L17⟩, ⟨_, Try.func18, L18⟩, ⟨_, Try.func19, L19⟩, ⟨_, Try.func20, L20⟩, ⟨_, Try.func21, L21⟩, ⟨_, Try.func23, L23⟩, ⟨_, Try.func24, L24⟩, ⟨_, Try.func25, L25⟩, ⟨_, Try.func26, L26⟩, ⟨_, Try.func27, L27⟩, ⟨_, Try.func41, L41⟩, ⟨_, Try.func42, L42⟩, ⟨_, Try.func43, L43⟩, ⟨_, Try.func44, L44⟩, ⟨_, Try.func45, L45⟩, ⟨_, Try.func46, L46⟩, ⟨_, Try.func47, L47⟩, ⟨_, Try.func48, L48⟩, ⟨_, Try.func49, L49⟩, ⟨_, Try.func56, L56⟩, ⟨_, Try.func57, L57⟩, ⟨_, Try.func58, L58⟩, ⟨_, Try.func59, L59⟩, ⟨_, Try.func60, L60⟩, ⟨_, Try.func61, L61⟩, ⟨_, Try.func62, L62⟩, ⟨_, Try.func63, L63⟩, ⟨_, Try.func64, L64⟩, ⟨_, Try.func65, L65⟩, ⟨_, Try.func66, L66⟩, ⟨_, Try.func67, L67⟩, ⟨_, Try.func68, L68⟩, ⟨_, Try.func69, L69⟩, ⟨_, Try.func70, L70⟩, ⟨_, Try.func71, L71⟩, ⟨_, Try.func72, L72⟩, ⟨_, Try.func73, L73⟩, ⟨_, Try.func74, L74⟩, ⟨_, Try.func75, L75⟩, ⟨_, Try.func79, L79⟩, ⟨_, Try.func80, L80⟩, ⟨_, Try.func81, L81⟩, ⟨_, Try.func82, L82⟩, ⟨_, Try.func83, L83⟩, ⟨_, Try.func84, L84⟩, ⟨_, Try.func85, L85⟩, ⟨_, Try.func86, L86⟩, ⟨_, Try.func87, L87⟩, ⟨_, Try.func88, L88⟩, ⟨_, Try.func89, L89⟩, ⟨_, Try.func90, L90⟩, ⟨_, Try.func91, L91⟩, ⟨_, Try.func92, L92⟩, ⟨_, Try.func93, L93⟩, ⟨_, Try.func94, L94⟩, ⟨_, Try.func95, L95⟩, ⟨_, Try.func96, L96⟩, ⟨_, Try.func100, L100⟩, ⟨_, Try.func101, L101⟩, ⟨_, Try.func102, L102⟩, ⟨_, Try.func103, L103⟩, ⟨_, Try.func104, L104⟩, ⟨_, Try.func111, L111⟩, trivial⟩
theorem tie : T = ofL [(4, C4), (6, C6), (7, C7), (17, C17), (18, C18), (19, C19), (20, C20), (21, C21), (23, C23), (24, C24), (25, C25), (26, C26), (27, C27), (41, C41), (42, C42), (43, C43), (44, C44), (45, C45), (46, C46), (47, C47), (48, C48), (49, C49), (56, C56), (57, C57), (58, C58), (59, C59), (60, C60), (61, C61), (62, C62), (63, C63), (64, C64), (65, C65), (66, C66), (67, C67), (68, C68), (69, C69), (70, C70), (71, C71), (72, C72), (73, C73), (74, C74), (75, C75), (79, C79), (80, C80), (81, C81), (82, C82), (83, C83), (84, C84), (85, C85), (86, C86), (87, C87), (88, C88), (89, C89), (90, C90), (91, C91), (92, C92), (93, C93), (94, C94), (95, C95), (96, C96), (100, C100), (101, C101), (102, C102), (103, C103), (104, C104), (111, C111)] := by kernel_rfl
theorem allC : AllT (fun _ af => codeC af.body = true) [(4, C4), (6, C6), (7, C7), (17, C17), (18, C18), (19, C19), (20, C20), (21, C21), (23, C23), (24, C24), (25, C25), (26, C26), (27, C27), (41, C41), (42, C42), (43, C43), (44, C44), (45, C45), (46, C46), (47, C47), (48, C48), (49, C49), (56, C56), (57, C57), (58, C58), (59, C59), (60, C60), (61, C61), (62, C62), (63, C63), (64, C64), (65, C65), (66, C66), (67, C67), (68, C68), (69, C69), (70, C70), (71, C71), (72, C72), (73, C73), (74, C74), (75, C75), (79, C79), (80, C80), (81, C81), (82, C82), (83, C83), (84, C84), (85, C85), (86, C86), (87, C87), (88, C88), (89, C89), (90, C90), (91, C91), (92, C92), (93, C93), (94, C94), (95, C95), (96, C96), (100, C100), (101, C101), (102, C102), (103, C103), (104, C104), (111, C111)] :=
 ⟨rfl, rfl, rfl, rfl, rfl, rfl, rfl, rfl, rfl, rfl, rfl, rfl, rfl, rfl, rfl, rfl, rfl, rfl, rfl, rfl, rfl, rfl, rfl, rfl, rfl, rfl, rfl, rfl, rfl, rfl, rfl, rfl, rfl, rfl, rfl, rfl, rfl, rfl, rfl, rfl, rfl, rfl, rfl, rfl, rfl, rfl, rfl, rfl, rfl, rfl, rfl, rfl, rfl, rfl, rfl, rfl, rfl, rfl, rfl, rfl, rfl, rfl, rfl, rfl, rfl, rfl, trivial⟩
theorem codes (f : Nat) (af : AFunc) (h : fs f = some af) : codeC af.body = true := by unfold fs at h; rw [tie] at h; exact ofL_get allC h
end Ir
end Go.Proofs.Ytepdklcpagielaa
