/-
  The printed functions are what the loaded ones compile to.
-/
import Derived.Test.YtnlcabhfkpafmaaGreatIrCode
import Derived.Test.YtnlcabhfkpafmaaGreatVsWp
import Derived.Test.YtnlcabhfkpafmaaGreatChecked
import Derived.KernelRfl
set_option linter.unusedVariables false
set_option maxRecDepth 100000
namespace Go.Proofs.YtnlcabhfkpafmaaGreat
open Go Ads
namespace Ir
theorem L4 : compFunc Tryz.prog Tryz.f4 = some C4 := by kernel_rfl
theorem L7 : compFunc Tryz.prog Tryz.f7 = some C7 := by kernel_rfl
theorem L8 : compFunc Tryz.prog Tryz.f8 = some C8 := by kernel_rfl
theorem L9 : compFunc Tryz.prog Tryz.f9 = some C9 := by kernel_rfl
theorem L10 : compFunc Tryz.prog Tryz.f10 = some C10 := by kernel_rfl
theorem L11 : compFunc Tryz.prog Tryz.f11 = some C11 := by kernel_rfl
theorem L12 : compFunc Tryz.prog Tryz.f12 = some C12 := by kernel_rfl
theorem L13 : compFunc Tryz.prog Tryz.f13 = some C13 := by kernel_rfl
theorem L14 : compFunc Tryz.prog Tryz.f14 = some C14 := by kernel_rfl
theorem L15 : compFunc Tryz.prog Tryz.f15 = some C15 := by kernel_rfl
theorem L20 : compFunc Tryz.prog Tryz.f20 = some C20 := by kernel_rfl
theorem L21 : compFunc Tryz.prog Tryz.f21 = some C21 := by kernel_rfl
theorem L22 : compFunc Tryz.prog Tryz.f22 = some C22 := by kernel_rfl
theorem L23 : compFunc Tryz.prog Tryz.f23 = some C23 := by kernel_rfl
theorem L27 : compFunc Tryz.prog Tryz.f27 = some C27 := by kernel_rfl
theorem L28 : compFunc Tryz.prog Tryz.f28 = some C28 := by kernel_rfl
theorem L30 : compFunc Tryz.prog Tryz.f30 = some C30 := by kernel_rfl
theorem L31 : compFunc Tryz.prog Tryz.f31 = some C31 := by kernel_rfl
theorem L32 : compFunc Tryz.prog Tryz.f32 = some C32 := by kernel_rfl
theorem L34 : compFunc Tryz.prog Tryz.f34 = some C34 := by kernel_rfl
theorem L35 : compFunc Tryz.prog Tryz.f35 = some C35 := by kernel_rfl
theorem L36 : compFunc Tryz.prog Tryz.f36 = some C36 := by kernel_rfl
theorem L37 : compFunc Tryz.prog Tryz.f37 = some C37 := by kernel_rfl
theorem L38 : compFunc Tryz.prog Tryz.f38 = some C38 := by kernel_rfl
theorem L39 : compFunc Tryz.prog Tryz.f39 = some C39 := by kernel_rfl
theorem L40 : compFunc Tryz.prog Tryz.f40 = some C40 := by kernel_rfl
theorem L41 : compFunc Tryz.prog Tryz.f41 = some C41 := by kernel_rfl
theorem L42 : compFunc Tryz.prog Tryz.f42 = some C42 := by kernel_rfl
theorem L43 : compFunc Tryz.prog Tryz.f43 = some C43 := by kernel_rfl
theorem L44 : compFunc Tryz.prog Tryz.f44 = some C44 := by kernel_rfl
theorem L45 : compFunc Tryz.prog Tryz.f45 = some C45 := by kernel_rfl
theorem L46 : compFunc Tryz.prog Tryz.f46 = some C46 := by kernel_rfl
theorem L47 : compFunc Tryz.prog Tryz.f47 = some C47 := by kernel_rfl
theorem L48 : compFunc Tryz.prog Tryz.f48 = some C48 := by kernel_rfl
theorem L49 : compFunc Tryz.prog Tryz.f49 = some C49 := by kernel_rfl
theorem L50 : compFunc Tryz.prog Tryz.f50 = some C50 := by kernel_rfl
theorem L51 : compFunc Tryz.prog Tryz.f51 = some C51 := by kernel_rfl
theorem L52 : compFunc Tryz.prog Tryz.f52 = some C52 := by kernel_rfl
theorem L53 : compFunc Tryz.prog Tryz.f53 = some C53 := by kernel_rfl
theorem L54 : compFunc Tryz.prog Tryz.f54 = some C54 := by kernel_rfl
theorem L79 : compFunc Tryz.prog Tryz.f79 = some C79 := by kernel_rfl
theorem L80 : compFunc Tryz.prog Tryz.f80 = some C80 := by kernel_rfl
theorem L81 : compFunc Tryz.prog Tryz.f81 = some C81 := by kernel_rfl
theorem L82 : compFunc Tryz.prog Tryz.f82 = some C82 := by kernel_rfl
theorem L83 : compFunc Tryz.prog Tryz.f83 = some C83 := by kernel_rfl
theorem L84 : compFunc Tryz.prog Tryz.f84 = some C84 := by kernel_rfl
theorem L85 : compFunc Tryz.prog Tryz.f85 = some C85 := by kernel_rfl
theorem L86 : compFunc Tryz.prog Tryz.f86 = some C86 := by kernel_rfl
theorem L87 : compFunc Tryz.prog Tryz.f87 = some C87 := by kernel_rfl
theorem L88 : compFunc Tryz.prog Tryz.f88 = some C88 := by kernel_rfl
theorem L92 : compFunc Tryz.prog Tryz.f92 = some C92 := by kernel_rfl
theorem L93 : compFunc Tryz.prog Tryz.f93 = some C93 := by kernel_rfl
theorem L94 : compFunc Tryz.prog Tryz.f94 = some C94 := by kernel_rfl
theorem L95 : compFunc Tryz.prog Tryz.f95 = some C95 := by kernel_rfl
theorem L96 : compFunc Tryz.prog Tryz.f96 = some C96 := by kernel_rfl
theorem L97 : compFunc Tryz.prog Tryz.f97 = some C97 := by kernel_rfl
theorem L99 : compFunc Tryz.prog Tryz.f99 = some C99 := by kernel_rfl
theorem L100 : compFunc Tryz.prog Tryz.f100 = some C100 := by kernel_rfl
theorem L101 : compFunc Tryz.prog Tryz.f101 = some C101 := by kernel_rfl
theorem L102 : compFunc Tryz.prog Tryz.f102 = some C102 := by kernel_rfl
theorem L103 : compFunc Tryz.prog Tryz.f103 = some C103 := by kernel_rfl
theorem L104 : compFunc Tryz.prog Tryz.f104 = some C104 := by kernel_rfl
theorem L105 : compFunc Tryz.prog Tryz.f105 = some C105 := by kernel_rfl
theorem L106 : compFunc Tryz.prog Tryz.f106 = some C106 := by kernel_rfl
theorem L107 : compFunc Tryz.prog Tryz.f107 = some C107 := by kernel_rfl
theorem L108 : compFunc Tryz.prog Tryz.f108 = some C108 := by kernel_rfl
theorem L109 : compFunc Tryz.prog Tryz.f109 = some C109 := by kernel_rfl
theorem L110 : compFunc Tryz.prog Tryz.f110 = some C110 := by kernel_rfl
theorem L111 : compFunc Tryz.prog Tryz.f111 = some C111 := by kernel_rfl
theorem L112 : compFunc Tryz.prog Tryz.f112 = some C112 := by kernel_rfl
theorem L132 : compFunc Tryz.prog Tryz.f132 = some C132 := by kernel_rfl
theorem L133 : compFunc Tryz.prog Tryz.f133 = some C133 := by kernel_rfl
theorem L134 : compFunc Tryz.prog Tryz.f134 = some C134 := by kernel_rfl
theorem L135 : compFunc Tryz.prog Tryz.f135 = some C135 := by kernel_rfl
theorem L136 : compFunc Tryz.prog Tryz.f136 = some C136 := by kernel_rfl
theorem L137 : compFunc Tryz.prog Tryz.f137 = some C137 := by kernel_rfl
theorem L138 : compFunc Tryz.prog Tryz.f138 = some C138 := by kernel_rfl
theorem L139 : compFunc Tryz.prog Tryz.f139 = some C139 := by kernel_rfl
theorem L140 : compFunc Tryz.prog Tryz.f140 = some C140 := by kernel_rfl
theorem L141 : compFunc Tryz.prog Tryz.f141 = some C141 := by kernel_rfl
theorem L142 : compFunc Tryz.prog Tryz.f142 = some C142 := by kernel_rfl
theorem L143 : compFunc Tryz.prog Tryz.f143 = some C143 := by kernel_rfl
theorem L144 : compFunc Tryz.prog Tryz.f144 = some C144 := by kernel_rfl
theorem L145 : compFunc Tryz.prog Tryz.f145 = some C145 := by kernel_rfl
theorem L146 : compFunc Tryz.prog Tryz.f146 = some C146 := by kernel_rfl
theorem L147 : compFunc Tryz.prog Tryz.f147 = some C147 := by kernel_rfl
theorem L148 : compFunc Tryz.prog Tryz.f148 = some C148 := by kernel_rfl
theorem L149 : compFunc Tryz.prog Tryz.f149 = some C149 := by kernel_rfl
theorem L150 : compFunc Tryz.prog Tryz.f150 = some C150 := by kernel_rfl
theorem L151 : compFunc Tryz.prog Tryz.f151 = some C151 := by kernel_rfl
theorem L152 : compFunc Tryz.prog Tryz.f152 = some C152 := by kernel_rfl
theorem L153 : compFunc Tryz.prog Tryz.f153 = some C153 := by kernel_rfl
theorem L161 : compFunc Tryz.prog Tryz.f161 = some C161 := by kernel_rfl
theorem L162 : compFunc Tryz.prog Tryz.f162 = some C162 := by kernel_rfl
theorem L163 : compFunc Tryz.prog Tryz.f163 = some C163 := by kernel_rfl
theorem L164 : compFunc Tryz.prog Tryz.f164 = some C164 := by kernel_rfl
theorem L165 : compFunc Tryz.prog Tryz.f165 = some C165 := by kernel_rfl
theorem L166 : compFunc Tryz.prog Tryz.f166 = some C166 := by kernel_rfl
theorem L167 : compFunc Tryz.prog Tryz.f167 = some C167 := by kernel_rfl
theorem L168 : compFunc Tryz.prog Tryz.f168 = some C168 := by kernel_rfl
theorem L169 : compFunc Tryz.prog Tryz.f169 = some C169 := by kernel_rfl
theorem L170 : compFunc Tryz.prog Tryz.f170 = some C170 := by kernel_rfl
theorem L171 : compFunc Tryz.prog Tryz.f171 = some C171 := by kernel_rfl
theorem L172 : compFunc Tryz.prog Tryz.f172 = some C172 := by kernel_rfl
theorem L173 : compFunc Tryz.prog Tryz.f173 = some C173 := by kernel_rfl
theorem L174 : compFunc Tryz.prog Tryz.f174 = some C174 := by kernel_rfl
theorem L175 : compFunc Tryz.prog Tryz.f175 = some C175 := by kernel_rfl
theorem L176 : compFunc Tryz.prog Tryz.f176 = some C176 := by kernel_rfl
theorem L177 : compFunc Tryz.prog Tryz.f177 = some C177 := by kernel_rfl
theorem L178 : compFunc Tryz.prog Tryz.f178 = some C178 := by kernel_rfl
theorem L180 : compFunc Tryz.prog Tryz.f180 = some C180 := by kernel_rfl
theorem L181 : compFunc Tryz.prog Tryz.f181 = some C181 := by kernel_rfl
theorem L182 : compFunc Tryz.prog Tryz.f182 = some C182 := by kernel_rfl
theorem L183 : compFunc Tryz.prog Tryz.f183 = some C183 := by kernel_rfl
theorem L184 : compFunc Tryz.prog Tryz.f184 = some C184 := by kernel_rfl
theorem L185 : compFunc Tryz.prog Tryz.f185 = some C185 := by kernel_rfl
theorem L186 : compFunc Tryz.prog Tryz.f186 = some C186 := by kernel_rfl
theorem L187 : compFunc Tryz.prog Tryz.f187 = some C187 := by kernel_rfl
theorem L188 : compFunc Tryz.prog Tryz.f188 = some C188 := by kernel_rfl
theorem L189 : compFunc Tryz.prog Tryz.f189 = some C189 := by kernel_rfl
theorem L198 : compFunc Tryz.prog Tryz.f198 = some C198 := by kernel_rfl
theorem all : AllT (fun f af => ∃ fn, Tryz.prog.funcs[f]? = some fn ∧ compFunc Tryz.prog fn = some af) [(4, C4), (7, C7), (8, C8), (9, C9), (10, C10), (11, C11), (12, C12), (13, C13), (14, C14), (15, C15), (20, C20), (21, C21), (22, C22), (23, C23), (27, C27), (28, C28), (30, C30), (31, C31), (32, C32), (34, C34), (35, C35), (36, C36), (37, C37), (38, C38), (39, C39), (40, C40), (41, C41), (42, C42), (43, C43), (44, C44), (45, C45), (46, C46), (47, C47), (48, C48), (49, C49), (50, C50), (51, C51), (52, C52), (53, C53), (54, C54), (79, C79), (80, C80), (81, C81), (82, C82), (83, C83), (84, C84), (85, C85), (86, C86), (87, C87), (88, C88), (92, C92), (93, C93), (94, C94), (95, C95), (96, C96), (97, C97), (99, C99), (100, C100), (101, C101), (102, C102), (103, C103), (104, C104), (105, C105), (106, C106), (107, C107), (108, C108), (109, C109), (110, C110), (111, C111), (112, C112), (132, C132), (133, C133), (134, C134), (135, C135), (136, C136), (137, C137), (138, C138), (139, C139), (140, C140), (141, C141), (142, C142), (143, C143), (144, C144), (145, C145), (146, C146), (147, C147), (148, C148), (149, C149), (150, C150), (151, C151), (152, C152), (153, C153), (161, C161), (162, C162), (163, C163), (164, C164), (165, C165), (166, C166), (167, C167), (168, C168), (169, C169), (170, C170), (171, C171), (172, C172), (173, C173), (174, C174), (175, C175), (176, C176), (177, C177), (178, C178), (180, C180), (181, C181), (182, C182), (183, C183), (184, C184), (185, C185), (186, C186), (187, C187), (188, C188), (189, C189), (198, C198)] :=
 ⟨⟨_, Tryz.func4, L4⟩, ⟨_, Tryz.func7, L7⟩, ⟨_, Tryz.func8, L8⟩, ⟨_, Tryz.func9, L9⟩, ⟨_, Tryz.func10, L10⟩, ⟨_, Tryz.func11, L11⟩, ⟨_, Tryz.func12, L12⟩, ⟨_, Tryz.func13, L13⟩, ⟨_, Tryz.func14, L14⟩, ⟨_, Tryz.func15, L15⟩, ⟨_, Tryz.func20, L20⟩, ⟨_, Tryz.func21, L21⟩, ⟨_, Tryz.func22, L22⟩, ⟨_, Tryz.func23, L23⟩, ⟨_, Tryz.func27, L27⟩, ⟨_, Tryz.func28, L28⟩, ⟨_, Tryz.func30, L30⟩, ⟨_, Tryz.func31, L31⟩, ⟨_, Tryz.func32, L32⟩, ⟨_, Tryz.func34, L34⟩, ⟨_, Tryz.func35, L35⟩, ⟨_, Tryz.func36, L36⟩, ⟨_, Tryz.func37, L37⟩, ⟨_, Tryz.func38, L38⟩, ⟨_, Tryz.func39, L39⟩, ⟨_, Tryz.func40, L40⟩, ⟨_, Tryz.func41, L41⟩, ⟨_, Tryz.func42, L42⟩, ⟨_, Tryz.func43, L43⟩, ⟨_, Tryz.func44, L44⟩, ⟨_, Tryz.func45, L45⟩, ⟨_, Tryz.func46, L46⟩, ⟨_, Tryz.func47, L47⟩, ⟨_, Tryz.func48, L48⟩, ⟨_, Tryz.func49, L49⟩, ⟨_, Tryz.func50, L50⟩, ⟨_, Tryz.func51, L51⟩, ⟨_, Tryz.func52, L52⟩, ⟨_, Tryz.func53, L53⟩, ⟨_, Tryz.func54, L54⟩, ⟨_, Tryz.func79, L79⟩, ⟨_, Tryz.func80, L80⟩, ⟨_, Tryz.func81, L81⟩, ⟨_, Tryz.func82, L82⟩, ⟨_, Tryz.func83, L83⟩, ⟨_, Tryz.func84, L84⟩, ⟨_, Tryz.func85, L85⟩, ⟨_, Tryz.func86, L86⟩, ⟨_, Tryz.func87, L87⟩, ⟨_, Tryz.func88, L88⟩, ⟨_, Tryz.func92, L92⟩, ⟨_, Tryz.func93, L93⟩, ⟨_, Tryz.func94, L94⟩, ⟨_, Tryz.func95, L95⟩, ⟨_, Tryz.func96, L96⟩, ⟨_, Tryz.func97, L97⟩, ⟨_, Tryz.func99, L99⟩, ⟨_, Tryz.func100, L100⟩, ⟨_, Tryz.func101, L101⟩, ⟨_, Tryz.func102, L102⟩, ⟨_, Tryz.func103, L103⟩, ⟨_, Tryz.func104, L104⟩, ⟨_, Tryz.func105, L105⟩, ⟨_, Tryz.func106, L106⟩, ⟨_, Tryz.func107, L107⟩, ⟨_, Tryz.func108, L108⟩, ⟨_, Tryz.func109, L109⟩, ⟨_, Tryz.func110, L110⟩, ⟨_, Tryz.func111, L111⟩, ⟨_, Tryz.func112, L112⟩, ⟨_, Tryz.func132, L132⟩, ⟨_, Tryz.func133, L133⟩, ⟨_, Tryz.func134, L134⟩, ⟨_, Tryz.func135, L135⟩, ⟨_, Tryz.func136, L136⟩, ⟨_, Tryz.func137, L137⟩, ⟨_, Tryz.func138, L138⟩, ⟨_, Tryz.func139, L139⟩, ⟨_, Tryz.func140, L140⟩, ⟨_, Tryz.func141, L141⟩, ⟨_, Tryz.func142, L142⟩, ⟨_, Tryz.func143, L143⟩, ⟨_, Tryz.func144, L144⟩, ⟨_, Tryz.func145, L145⟩, ⟨_, Tryz.func146, L146⟩, ⟨_, Tryz.func147, L147⟩, ⟨_, Tryz.func148, L148⟩, ⟨_, Tryz.func149, L149⟩, ⟨_, Tryz.func150, L150⟩, ⟨_, Tryz.func151, L151⟩, ⟨_, Tryz.func152, L152⟩, ⟨_, Tryz.func153, L153⟩, ⟨_, Tryz.func161, L161⟩, ⟨_, Tryz.func162, L162⟩, ⟨_, Tryz.func163, L163⟩, ⟨_, Tryz.func164, L164⟩, ⟨_, Tryz.func165, L165⟩, ⟨_, Tryz.func166, L166⟩, ⟨_, Tryz.func167, L167⟩, ⟨_, Tryz.func168, L168⟩, ⟨_, Tryz.func169, L169⟩, ⟨_, Tryz.func170, L170⟩, ⟨_, Tryz.func171, L171⟩, ⟨_, Tryz.func172, L172⟩, ⟨_, Tryz.func173, L173⟩, ⟨_, Tryz.func174, L174⟩, ⟨_, Tryz.func175, L175⟩, ⟨_, Tryz.func176, L176⟩, ⟨_, Tryz.func177, L177⟩, ⟨_, Tryz.func178, L178⟩, ⟨_, Tryz.func180, L180⟩, ⟨_, Tryz.func181, L181⟩, ⟨_, Tryz.func182, L182⟩, ⟨_, Tryz.func183, L183⟩, ⟨_, Tryz.func184, L184⟩, ⟨_, Tryz.func185, L185⟩, ⟨_, Tryz.func186, L186⟩, ⟨_, Tryz.func187, L187⟩, ⟨_, Tryz.func188, L188⟩, ⟨_, Tryz.func189, L189⟩, ⟨_, Tryz.func198, L198⟩, trivial⟩
theorem tie : T = ofL [(4, C4), (7, C7), (8, C8), (9, C9), (10, C10), (11, C11), (12, C12), (13, C13), (14, C14), (15, C15), (20, C20), (21, C21), (22, C22), (23, C23), (27, C27), (28, C28), (30, C30), (31, C31), (32, C32), (34, C34), (35, C35), (36, C36), (37, C37), (38, C38), (39, C39), (40, C40), (41, C41), (42, C42), (43, C43), (44, C44), (45, C45), (46, C46), (47, C47), (48, C48), (49, C49), (50, C50), (51, C51), (52, C52), (53, C53), (54, C54), (79, C79), (80, C80), (81, C81), (82, C82), (83, C83), (84, C84), (85, C85), (86, C86), (87, C87), (88, C88), (92, C92), (93, C93), (94, C94), (95, C95), (96, C96), (97, C97), (99, C99), (100, C100), (101, C101), (102, C102), (103, C103), (104, C104), (105, C105), (106, C106), (107, C107), (108, C108), (109, C109), (110, C110), (111, C111), (112, C112), (132, C132), (133, C133), (134, C134), (135, C135), (136, C136), (137, C137), (138, C138), (139, C139), (140, C140), (141, C141), (142, C142), (143, C143), (144, C144), (145, C145), (146, C146), (147, C147), (148, C148), (149, C149), (150, C150), (151, C151), (152, C152), (153, C153), (161, C161), (162, C162), (163, C163), (164, C164), (165, C165), (166, C166), (167, C167), (168, C168), (169, C169), (170, C170), (171, C171), (172, C172), (173, C173), (174, C174), (175, C175), (176, C176), (177, C177), (178, C178), (180, C180), (181, C181), (182, C182), (183, C183), (184, C184), (185, C185), (186, C186), (187, C187), (188, C188), (189, C189), (198, C198)] := by kernel_rfl
theorem allC : AllT (fun _ af => codeC af.body = true) [(4, C4), (7, C7), (8, C8), (9, C9), (10, C10), (11, C11), (12, C12), (13, C13), (14, C14), (15, C15), (20, C20), (21, C21), (22, C22), (23, C23), (27, C27), (28, C28), (30, C30), (31, C31), (32, C32), (34, C34), (35, C35), (36, C36), (37, C37), (38, C38), (39, C39), (40, C40), (41, C41), (42, C42), (43, C43), (44, C44), (45, C45), (46, C46), (47, C47), (48, C48), (49, C49), (50, C50), (51, C51), (52, C52), (53, C53), (54, C54), (79, C79), (80, C80), (81, C81), (82, C82), (83, C83), (84, C84), (85, C85), (86, C86), (87, C87), (88, C88), (92, C92), (93, C93), (94, C94), (95, C95), (96, C96), (97, C97), (99, C99), (100, C100), (101, C101), (102, C102), (103, C103), (104, C104), (105, C105), (106, C106), (107, C107), (108, C108), (109, C109), (110, C110), (111, C111), (112, C112), (132, C132), (133, C133), (134, C134), (135, C135), (136, C136), (137, C137), (138, C138), (139, C139), (140, C140), (141, C141), (142, C142), (143, C143), (144, C144), (145, C145), (146, C146), (147, C147), (148, C148), (149, C149), (150, C150), (151, C151), (152, C152), (153, C153), (161, C161), (162, C162), (163, C163), (164, C164), (165, C165), (166, C166), (167, C167), (168, C168), (169, C169), (170, C170), (171, C171), (172, C172), (173, C173), (174, C174), (175, C175), (176, C176), (177, C177), (178, C178), (180, C180), (181, C181), (182, C182), (183, C183), (184, C184), (185, C185), (186, C186), (187, C187), (188, C188), (189, C189), (198, C198)] :=
 ⟨rfl, rfl, rfl, rfl, rfl, rfl, rfl, rfl, rfl, rfl, rfl, rfl, rfl, rfl, rfl, rfl, rfl, rfl, rfl, rfl, rfl, rfl, rfl, rfl, rfl, rfl, rfl, rfl, rfl, rfl, rfl, rfl, rfl, rfl, rfl, rfl, rfl, rfl, rfl, rfl, rfl, rfl, rfl, rfl, rfl, rfl, rfl, rfl, rfl, rfl, rfl, rfl, rfl, rfl, rfl, rfl, rfl, rfl, rfl, rfl, rfl, rfl, rfl, rfl, rfl, rfl, rfl, rfl, rfl, rfl, rfl, rfl, rfl, rfl, rfl, rfl, rfl, rfl, rfl, rfl, rfl, rfl, rfl, rfl, rfl, rfl, rfl, rfl, rfl, rfl, rfl, rfl, rfl, rfl, rfl, rfl, rfl, rfl, rfl, rfl, rfl, rfl, rfl, rfl, rfl, rfl, rfl, rfl, rfl, rfl, rfl, rfl, rfl, rfl, rfl, rfl, rfl, rfl, rfl, rfl, rfl, trivial⟩
theorem codes (f : Nat) (af : AFunc) (h : fs f = some af) : codeC af.body = true := by unfold fs at h; rw [tie] at h; exact ofL_get allC h
end Ir
end Go.Proofs.YtnlcabhfkpafmaaGreat
