/-
  The printed functions are what the loaded ones compile to.
-/
import Derived.Test.YtmnolnoeibhjgaaGreatIrCode
import Derived.Test.YtmnolnoeibhjgaaGreatVsWp
import Derived.Test.YtmnolnoeibhjgaaGreatChecked
import Derived.KernelRfl
set_option linter.unusedVariables false
set_option maxRecDepth 100000
namespace Go.Proofs.YtmnolnoeibhjgaaGreat
open Go Ads
namespace Ir
theorem L4 : compFunc Tryz.prog Tryz.f4 = some C4 := by kernel_rfl
theorem L7 : compFunc Tryz.prog Tryz.f7 = some C7 := by kernel_rfl
theorem L9 : compFunc Tryz.prog Tryz.f9 = some C9 := by kernel_rfl
theorem L11 : compFunc Tryz.prog Tryz.f11 = some C11 := by kernel_rfl
theorem L12 : compFunc Tryz.prog Tryz.f12 = some C12 := by kernel_rfl
theorem L13 : compFunc Tryz.prog Tryz.f13 = some C13 := by kernel_rfl
theorem L14 : compFunc Tryz.prog Tryz.f14 = some C14 := by kernel_rfl
theorem L15 : compFunc Tryz.prog Tryz.f15 = some C15 := by kernel_rfl
theorem L16 : compFunc Tryz.prog Tryz.f16 = some C16 := by kernel_rfl
theorem L17 : compFunc Tryz.prog Tryz.f17 = some C17 := by kernel_rfl
theorem L18 : compFunc Tryz.prog Tryz.f18 = some C18 := by kernel_rfl
theorem L19 : compFunc Tryz.prog Tryz.f19 = some C19 := by kernel_rfl
theorem L22 : compFunc Tryz.prog Tryz.f22 = some C22 := by kernel_rfl
theorem L23 : compFunc Tryz.prog Tryz.f23 = some C23 := by kernel_rfl
theorem L25 : compFunc Tryz.prog Tryz.f25 = some C25 := by kernel_rfl
theorem L26 : compFunc Tryz.prog Tryz.f26 = some C26 := by kernel_rfl
theorem L29 : compFunc Tryz.prog Tryz.f29 = some C29 := by kernel_rfl
theorem L30 : compFunc Tryz.prog Tryz.f30 = some C30 := by kernel_rfl
theorem L31 : compFunc Tryz.prog Tryz.f31 = some C31 := by kernel_rfl
theorem L32 : compFunc Tryz.prog Tryz.f32 = some C32 := by kernel_rfl
theorem L33 : compFunc Tryz.prog Tryz.f33 = some C33 := by kernel_rfl
theorem L34 : compFunc Tryz.prog Tryz.f34 = some C34 := by kernel_rfl
theorem L35 : compFunc Tryz.prog Tryz.f35 = some C35 := by kernel_rfl
theorem L36 : compFunc Tryz.prog Tryz.f36 = some C36 := by kernel_rfl
theorem L37 : compFunc Tryz.prog Tryz.f37 = some C37 := by kernel_rfl
theorem L38 : compFunc Tryz.prog Tryz.f38 = some C38 := by kernel_rfl
theorem L40 : compFunc Tryz.prog Tryz.f40 = some C40 := by kernel_rfl
theorem L41 : compFunc Tryz.prog Tryz.f41 = some C41 := by kernel_rfl
theorem L42 : compFunc Tryz.prog Tryz.f42 = some C42 := by kernel_rfl
theorem L43 : compFunc Tryz.prog Tryz.f43 = some C43 := by kernel_rfl
theorem L44 : compFunc Tryz.prog Tryz.f44 = some C44 := by kernel_rfl
theorem L45 : compFunc Tryz.prog Tryz.f45 = some C45 := by kernel_rfl
theorem L46 : compFunc Tryz.prog Tryz.f46 = some C46 := by kernel_rfl
theorem L47 : compFunc Tryz.prog Tryz.f47 = some C47 := by kernel_rfl
theorem L49 : compFunc Tryz.prog Tryz.f49 = some C49 := by kernel_rfl
theorem L50 : compFunc Tryz.prog Tryz.f50 = some C50 := by kernel_rfl
theorem L51 : compFunc Tryz.prog Tryz.f51 = some C51 := by kernel_rfl
theorem L52 : compFunc Tryz.prog Tryz.f52 = some C52 := by kernel_rfl
theorem L53 : compFunc Tryz.prog Tryz.f53 = some C53 := by kernel_rfl
theorem L54 : compFunc Tryz.prog Tryz.f54 = some C54 := by kernel_rfl
theorem L55 : compFunc Tryz.prog Tryz.f55 = some C55 := by kernel_rfl
theorem L56 : compFunc Tryz.prog Tryz.f56 = some C56 := by kernel_rfl
theorem L57 : compFunc Tryz.prog Tryz.f57 = some C57 := by kernel_rfl
theorem L58 : compFunc Tryz.prog Tryz.f58 = some C58 := by kernel_rfl
theorem L59 : compFunc Tryz.prog Tryz.f59 = some C59 := by kernel_rfl
theorem L60 : compFunc Tryz.prog Tryz.f60 = some C60 := by kernel_rfl
theorem L61 : compFunc Tryz.prog Tryz.f61 = some C61 := by kernel_rfl
theorem L62 : compFunc Tryz.prog Tryz.f62 = some C62 := by kernel_rfl
theorem L63 : compFunc Tryz.prog Tryz.f63 = some C63 := by kernel_rfl
theorem L64 : compFunc Tryz.prog Tryz.f64 = some C64 := by kernel_rfl
theorem L65 : compFunc Tryz.prog Tryz.f65 = some C65 := by kernel_rfl
theorem L66 : compFunc Tryz.prog Tryz.f66 = some C66 := by kernel_rfl
theorem L67 : compFunc Tryz.prog Tryz.f67 = some C67 := by kernel_rfl
theorem L68 : compFunc Tryz.prog Tryz.f68 = some C68 := by kernel_rfl
theorem L69 : compFunc Tryz.prog Tryz.f69 = some C69 := by kernel_rfl
theorem L70 : compFunc Tryz.prog Tryz.f70 = some C70 := by kernel_rfl
theorem L71 : compFunc Tryz.prog Tryz.f71 = some C71 := by kernel_rfl
theorem L72 : compFunc Tryz.prog Tryz.f72 = some C72 := by kernel_rfl
theorem L73 : compFunc Tryz.prog Tryz.f73 = some C73 := by kernel_rfl
theorem L74 : compFunc Tryz.prog Tryz.f74 = some C74 := by kernel_rfl
theorem L75 : compFunc Tryz.prog Tryz.f75 = some C75 := by kernel_rfl
theorem L76 : compFunc Tryz.prog Tryz.f76 = some C76 := by kernel_rfl
theorem L77 : compFunc Tryz.prog Tryz.f77 = some C77 := by kernel_rfl
theorem L78 : compFunc Tryz.prog Tryz.f78 = some C78 := by kernel_rfl
theorem L81 : compFunc Tryz.prog Tryz.f81 = some C81 := by kernel_rfl
theorem L83 : compFunc Tryz.prog Tryz.f83 = some C83 := by kernel_rfl
theorem L84 : compFunc Tryz.prog Tryz.f84 = some C84 := by kernel_rfl
theorem L85 : compFunc Tryz.prog Tryz.f85 = some C85 := by kernel_rfl
theorem L86 : compFunc Tryz.prog Tryz.f86 = some C86 := by kernel_rfl
theorem L87 : compFunc Tryz.prog Tryz.f87 = some C87 := by kernel_rfl
theorem L89 : compFunc Tryz.prog Tryz.f89 = some C89 := by kernel_rfl
theorem L95 : compFunc Tryz.prog Tryz.f95 = some C95 := by kernel_rfl
theorem L96 : compFunc Tryz.prog Tryz.f96 = some C96 := by kernel_rfl
theorem L97 : compFunc Tryz.prog Tryz.f97 = some C97 := by kernel_rfl
theorem L98 : compFunc Tryz.prog Tryz.f98 = some C98 := by kernel_rfl
theorem L99 : compFunc Tryz.prog Tryz.f99 = some C99 := by kernel_rfl
theorem L100 : compFunc Tryz.prog Tryz.f100 = some C100 := by kernel_rfl
theorem L102 : compFunc Tryz.prog Tryz.f102 = some C102 := by kernel_rfl
theorem L103 : compFunc Tryz.prog Tryz.f103 = some C103 := by kernel_rfl
theorem L105 : compFunc Tryz.prog Tryz.f105 = some C105 := by kernel_rfl
theorem L107 : compFunc Tryz.prog Tryz.f107 = some C107 := by kernel_rfl
theorem L108 : compFunc Tryz.prog Tryz.f108 = some C108 := by kernel_rfl
theorem L109 : compFunc Tryz.prog Tryz.f109 = some C109 := by kernel_rfl
theorem L110 : compFunc Tryz.prog Tryz.f110 = some C110 := by kernel_rfl
theorem L111 : compFunc Tryz.prog Tryz.f111 = some C111 := by kernel_rfl
theorem L119 : compFunc Tryz.prog Tryz.f119 = some C119 := by kernel_rfl
theorem L121 : compFunc Tryz.prog Tryz.f121 = some C121 := by kernel_rfl
theorem L122 : compFunc Tryz.prog Tryz.f122 = some C122 := by kernel_rfl
theorem L123 : compFunc Tryz.prog Tryz.f123 = some C123 := by kernel_rfl
theorem L124 : compFunc Tryz.prog Tryz.f124 = some C124 := by kernel_rfl
theorem L125 : compFunc Tryz.prog Tryz.f125 = some C125 := by kernel_rfl
theorem L126 : compFunc Tryz.prog Tryz.f126 = some C126 := by kernel_rfl
theorem L127 : compFunc Tryz.prog Tryz.f127 = some C127 := by kernel_rfl
theorem L128 : compFunc Tryz.prog Tryz.f128 = some C128 := by kernel_rfl
theorem L136 : compFunc Tryz.prog Tryz.f136 = some C136 := by kernel_rfl
theorem L137 : compFunc Tryz.prog Tryz.f137 = some C137 := by kernel_rfl
theorem L138 : compFunc Tryz.prog Tryz.f138 = some C138 := by kernel_rfl
theorem L140 : compFunc Tryz.prog Tryz.f140 = some C140 := by kernel_rfl
theorem L141 : compFunc Tryz.prog Tryz.f141 = some C141 := by kernel_rfl
theorem L142 : compFunc Tryz.prog Tryz.f142 = some C142 := by kernel_rfl
theorem L143 : compFunc Tryz.prog Tryz.f143 = some C143 := by kernel_rfl
theorem L144 : compFunc Tryz.prog Tryz.f144 = some C144 := by kernel_rfl
theorem L149 : compFunc Tryz.prog Tryz.f149 = some C149 := by kernel_rfl
theorem L151 : compFunc Tryz.prog Tryz.f151 = some C151 := by kernel_rfl
theorem L152 : compFunc Tryz.prog Tryz.f152 = some C152 := by kernel_rfl
theorem L153 : compFunc Tryz.prog Tryz.f153 = some C153 := by kernel_rfl
theorem L156 : compFunc Tryz.prog Tryz.f156 = some C156 := by kernel_rfl
theorem L157 : compFunc Tryz.prog Tryz.f157 = some C157 := by kernel_rfl
theorem L158 : compFunc Tryz.prog Tryz.f158 = some C158 := by kernel_rfl
theorem L159 : compFunc Tryz.prog Tryz.f159 = some C159 := by kernel_rfl
theorem L160 : compFunc Tryz.prog Tryz.f160 = some C160 := by kernel_rfl
theorem L164 : compFunc Tryz.prog Tryz.f164 = some C164 := by kernel_rfl
theorem L167 : compFunc Tryz.prog Tryz.f167 = some C167 := by kernel_rfl
theorem L168 : compFunc Tryz.prog Tryz.f168 = some C168 := by kernel_rfl
theorem L171 : compFunc Tryz.prog Tryz.f171 = some C171 := by kernel_rfl
theorem L174 : compFunc Tryz.prog Tryz.f174 = some C174 := by kernel_rfl
theorem L175 : compFunc Tryz.prog Tryz.f175 = some C175 := by kernel_rfl
theorem L176 : compFunc Tryz.prog Tryz.f176 = some C176 := by kernel_rfl
theorem L177 : compFunc Tryz.prog Tryz.f177 = some C177 := by kernel_rfl
theorem L178 : compFunc Tryz.prog Tryz.f178 = some C178 := by kernel_rfl
theorem L179 : compFunc Tryz.prog Tryz.f179 = some C179 := by kernel_rfl
theorem L180 : compFunc Tryz.prog Tryz.f180 = some C180 := by kernel_rfl
theorem L183 : compFunc Tryz.prog Tryz.f183 = some C183 := by kernel_rfl
theorem L185 : compFunc Tryz.prog Tryz.f185 = some C185 := by kernel_rfl
theorem L186 : compFunc Tryz.prog Tryz.f186 = some C186 := by kernel_rfl
theorem L187 : compFunc Tryz.prog Tryz.f187 = some C187 := by kernel_rfl
theorem L188 : compFunc Tryz.prog Tryz.f188 = some C188 := by kernel_rfl
theorem L189 : compFunc Tryz.prog Tryz.f189 = some C189 := by kernel_rfl
theorem L214 : compFunc Tryz.prog Tryz.f214 = some C214 := by kernel_rfl
theorem L222 : compFunc Tryz.prog Tryz.f222 = some C222 := by kernel_rfl
theorem L223 : compFunc Tryz.prog Tryz.f223 = some C223 := by kernel_rfl
theorem L224 : compFunc Tryz.prog Tryz.f224 = some C224 := by kernel_rfl
theorem L225 : compFunc Tryz.prog Tryz.f225 = some C225 := by kernel_rfl
theorem L226 : compFunc Tryz.prog Tryz.f226 = some C226 := by kernel_rfl
theorem L227 : compFunc Tryz.prog Tryz.f227 = some C227 := by kernel_rfl
theorem L228 : compFunc Tryz.prog Tryz.f228 = some C228 := by kernel_rfl
theorem L229 : compFunc Tryz.prog Tryz.f229 = some C229 := by kernel_rfl
theorem L230 : compFunc Tryz.prog Tryz.f230 = some C230 := by kernel_rfl
theorem L231 : compFunc Tryz.prog Tryz.f231 = some C231 := by kernel_rfl
theorem L234 : compFunc Tryz.prog Tryz.f234 = some C234 := by kernel_rfl
theorem L237 : compFunc Tryz.prog Tryz.f237 = some C237 := by kernel_rfl
theorem L264 : compFunc Tryz.prog Tryz.f264 = some C264 := by kernel_rfl
theorem L266 : compFunc Tryz.prog Tryz.f266 = some C266 := by kernel_rfl
theorem L267 : compFunc Tryz.prog Tryz.f267 = some C267 := by kernel_rfl
theorem L268 : compFunc Tryz.prog Tryz.f268 = some C268 := by kernel_rfl
theorem L269 : compFunc Tryz.prog Tryz.f269 = some C269 := by kernel_rfl
theorem L270 : compFunc Tryz.prog Tryz.f270 = some C270 := by kernel_rfl
theorem L271 : compFunc Tryz.prog Tryz.f271 = some C271 := by kernel_rfl
theorem L272 : compFunc Tryz.prog Tryz.f272 = some C272 := by kernel_rfl
theorem L273 : compFunc Tryz.prog Tryz.f273 = some C273 := by kernel_rfl
theorem L274 : compFunc Tryz.prog Tryz.f274 = some C274 := by kernel_rfl
theorem L275 : compFunc Tryz.prog Tryz.f275 = some C275 := by kernel_rfl
theorem L276 : compFunc Tryz.prog Tryz.f276 = some C276 := by kernel_rfl
theorem L277 : compFunc Tryz.prog Tryz.f277 = some C277 := by kernel_rfl
theorem L278 : compFunc Tryz.prog Tryz.f278 = some C278 := by kernel_rfl
theorem L295 : compFunc Tryz.prog Tryz.f295 = some C295 := by kernel_rfl
theorem L296 : compFunc Tryz.prog Tryz.f296 = some C296 := by kernel_rfl
theorem L297 : compFunc Tryz.prog Tryz.f297 = some C297 := by kernel_rfl
theorem L298 : compFunc Tryz.prog Tryz.f298 = some C298 := by kernel_rfl
theorem L299 : compFunc Tryz.prog Tryz.f299 = some C299 := by kernel_rfl
theorem L300 : compFunc Tryz.prog Tryz.f300 = some C300 := by kernel_rfl
theorem L301 : compFunc Tryz.prog Tryz.f301 = some C301 := by kernel_rfl
theorem L302 : compFunc Tryz.prog Tryz.f302 = some C302 := by kernel_rfl
theorem L303 : compFunc Tryz.prog Tryz.f303 = some C303 := by kernel_rfl
theorem L304 : compFunc Tryz.prog Tryz.f304 = some C304 := by kernel_rfl
theorem L305 : compFunc Tryz.prog Tryz.f305 = some C305 := by kernel_rfl
theorem L306 : compFunc Tryz.prog Tryz.f306 = some C306 := by kernel_rfl
theorem L307 : compFunc Tryz.prog Tryz.f307 = some C307 := by kernel_rfl
theorem L315 : compFunc Tryz.prog Tryz.f315 = some C315 := by kernel_rfl
theorem L317 : compFunc Tryz.prog Tryz.f317 = some C317 := by kernel_rfl
theorem L318 : compFunc Tryz.prog Tryz.f318 = some C318 := by kernel_rfl
theorem L319 : compFunc Tryz.prog Tryz.f319 = some C319 := by kernel_rfl
theorem L320 : compFunc Tryz.prog Tryz.f320 = some C320 := by kernel_rfl
theorem L322 : compFunc Tryz.prog Tryz.f322 = some C322 := by kernel_rfl
theorem L331 : compFunc Tryz.prog Tryz.f331 = some C331 := by kernel_rfl
theorem L333 : compFunc Tryz.prog Tryz.f333 = some C333 := by kernel_rfl
theorem L334 : compFunc Tryz.prog Tryz.f334 = some C334 := by kernel_rfl
theorem L337 : compFunc Tryz.prog Tryz.f337 = some C337 := by kernel_rfl
theorem L338 : compFunc Tryz.prog Tryz.f338 = some C338 := by kernel_rfl
theorem L339 : compFunc Tryz.prog Tryz.f339 = some C339 := by kernel_rfl
theorem L345 : compFunc Tryz.prog Tryz.f345 = some C345 := by kernel_rfl
theorem all : AllT (fun f af => ∃ fn, Tryz.prog.funcs[f]? = some fn ∧ compFunc Tryz.prog fn = some af) [(4, C4), (7, C7), (9, C9), (11, C11), (12, C12), (13, C13), (14, C14), (15, C15), (16, C16), (17, C17), (18, C18), (19, C19), (22, C22), (23, C23), (25, C25), (26, C26), (29, C29), (30, C30), (31, C31), (32, C32), (33, C33), (34, C34), (35, C35), (36, C36), (37, C37), (38, C38), (40, C40), (41, C41), (42, C42), (43, C43), (44, C44), (45, C45), (46, C46), (47, C47), (49, C49), (50, C50), (51, C51), (52, C52), (53, C53), (54, C54), (55, C55), (56, C56), (57, C57), (58, C58), (59, C59), (60, C60), (61, C61), (62, C62), (63, C63), (64, C64), (65, C65), (66, C66), (67, C67), (68, C68), (69, C69), (70, C70), (71, C71), (72, C72), (73, C73), (74, C74), (75, C75), (76, C76), (77, C77), (78, C78), (81, C81), (83, C83), (84, C84), (85, C85), (86, C86), (87, C87), (89, C89), (95, C95), (96, C96), (97, C97), (98, C98), (99, C99), (100, C100), (102, C102), (103, C103), (105, C105), (107, C107), (108, C108), (109, C109), (110, C110), (111, C111), (119, C119), (121, C121), (122, C122), (123, C123), (124, C124), (125, C125), (126, C126), (127, C127), (128, C128), (136, C136), (137, C137), (138, C138), (140, C140), (141, C141), (142, C142), (143, C143), (144, C144), (149, C149), (151, C151), (152, C152), (153, C153), (156, C156), (157, C157), (158, C158), (159, C159), (160, C160), (164, C164), (167, C167), (168, C168), (171, C171), (174, C174), (175, C175), (176, C176), (177, C177), (178, C178), (179, C179), (180, C180), (183, C183), (185, C185), (186, C186), (187, C187), (188, C188), (189, C189), (214, C214), (222, C222), (223, C223), (224, C224), (225, C225), (226, C226), (227, C227), (228, C228), (229, C229), (230, C230), (231, C231), (234, C234), (237, C237), (264, C264), (266, C266), (267, C267), (268, C268), (269, C269), (270, C270), (271, C271), (272, C272), (273, C273), (274, C274), (275, C275), (276, C276), (277, C277), (278, C278), (295, C295), (296, C296), (297, C297), (298, C298), (299, C299), (300, C300), (301, C301), (302, C302), (303, C303), (304, C304), (305, C305), (306, C306), (307, C307), (315, C315), (317, C317), (318, C318), (319, C319), (320, C320), (322, C322), (331, C331), (333, C333), (334, C334), (337, C337), (338, C338), (339, C339), (345, C345)] :=
 ⟨⟨_, Tryz.func4, L4⟩, ⟨_, Tryz.func7, L7⟩, ⟨_, Tryz.func9, L9⟩, ⟨_, Tryz.func11, L11⟩, ⟨_, Tryz.func12, L12⟩, ⟨_, Tryz.func13, L13⟩, ⟨_, Tryz.func14, L14⟩, ⟨_, Tryz.func15, L15⟩, ⟨_, Tryz.func16, L16⟩, ⟨_, Tryz.func17, L17⟩, ⟨_, Tryz.func18, L18⟩, ⟨_, Tryz.func19, L19⟩, ⟨_, Tryz.func22, L22⟩, ⟨_, Tryz.func23, L23⟩, ⟨_, Tryz.func25, L25⟩, ⟨_, Tryz.func26, L26⟩, ⟨_, Tryz.func29, L29⟩, ⟨_, Tryz.func30, L30⟩, ⟨_, Tryz.func31, L31⟩, ⟨_, Tryz.func32, L32⟩, ⟨_, Tryz.func33, L33⟩, ⟨_, Tryz.func34, L34⟩, ⟨_, Tryz.func35, L35⟩, ⟨_, Tryz.func36, L36⟩, ⟨_, Tryz.func37, L37⟩, ⟨_, Tryz.func38, L38⟩, ⟨_, Tryz.func40, L40⟩, ⟨_, Tryz.func41, L41⟩, ⟨_, Tryz.func42, L42⟩, ⟨_, Tryz.func43, L43⟩, ⟨_, Tryz.func44, L44⟩, ⟨_, Tryz.func45, L45⟩, ⟨_, Tryz.func46, L46⟩, ⟨_, Tryz.func47, L47⟩, ⟨_, Tryz.func49, L49⟩, ⟨_, Tryz.func50, L50⟩, ⟨_, Tryz.func51, L51⟩, ⟨_, Tryz.func52, L52⟩, ⟨_, Tryz.func53, L53⟩, ⟨_, Tryz.func54, L54⟩, ⟨_, Tryz.func55, L55⟩, ⟨_, Tryz.func56, L56⟩, ⟨_, Tryz.func57, L57⟩, ⟨_, Tryz.func58, L58⟩, ⟨_, Tryz.func59, L59⟩, ⟨_, Tryz.func60, L60⟩, ⟨_, Tryz.func61, L61⟩, ⟨_, Tryz.func62, L62⟩, ⟨_, Tryz.func63, L63⟩, ⟨_, Tryz.func64, L64⟩, ⟨_, Tryz.func65, L65⟩, ⟨_, Tryz.func66, L66⟩, ⟨_, Tryz.func67, L67⟩, ⟨_, Tryz.func68, L68⟩, ⟨_, Tryz.func69, L69⟩, ⟨_, Tryz.func70, L70⟩, ⟨_, Tryz.func71, L71⟩, ⟨_, Tryz.func72, L72⟩, ⟨_, Tryz.func73, L73⟩, ⟨_, Tryz.func74, L74⟩, ⟨_, Tryz.func75, L75⟩, ⟨_, Tryz.func76, L76⟩, ⟨_, Tryz.func77, L77⟩, ⟨_, Tryz.func78, L78⟩, ⟨_, Tryz.func81, L81⟩, ⟨_, Tryz.func83, L83⟩, ⟨_, Tryz.func84, L84⟩, ⟨_, Tryz.func85, L85⟩, ⟨_, Tryz.func86, L86⟩, ⟨_, Tryz.func87, L87⟩, ⟨_, Tryz.func89, L89⟩, ⟨_, Tryz.func95, L95⟩, ⟨_, Tryz.func96, L96⟩, ⟨_, Tryz.func97, L97⟩, ⟨_, Tryz.func98, L98⟩, ⟨_, Tryz.func99, L99⟩, ⟨_, Tryz.func100, L100⟩, ⟨_, Tryz.func102, L102⟩, ⟨_, Tryz.func103, L103⟩, ⟨_, Tryz.func105, L105⟩, ⟨_, Tryz.func107, L107⟩, ⟨_, Tryz.func108, L108⟩, ⟨_, Tryz.func109, L109⟩, ⟨_, Tryz.func110, L110⟩, ⟨_, Tryz.func111, L111⟩, ⟨_, Tryz.func119, L119⟩, ⟨_, Tryz.func121, L121⟩, ⟨_, Tryz.func122, L122⟩, ⟨_, Tryz.func123, L123⟩, ⟨_, Tryz.func124, L124⟩, ⟨_, Tryz.func125, L125⟩, ⟨_, Tryz.func126, L126⟩, ⟨_, Tryz.func127, L127⟩, ⟨_, Tryz.func128, L128⟩, ⟨_, Tryz.func136, L136⟩, ⟨_, Tryz.func137, L137⟩, ⟨_, Tryz.func138, L138⟩, ⟨_, Tryz.func140, L140⟩, ⟨_, Tryz.func141, L141⟩, ⟨_, Tryz.func142, L142⟩, ⟨_, Tryz.func143, L143⟩, ⟨_, Tryz.func144, L144⟩, ⟨_, Tryz.func149, L149⟩, ⟨_, Tryz.func151, L151⟩, ⟨_, Tryz.func152, L152⟩, ⟨_, Tryz.func153, L153⟩, ⟨_, Tryz.func156, L156⟩, ⟨_, Tryz.func157, L157⟩, ⟨_, Tryz.func158, L158⟩, ⟨_, Tryz.func159, L159⟩, ⟨_, Tryz.func160, L160⟩, ⟨_, Tryz.func164, L164⟩, ⟨_, Tryz.func167, L167⟩, ⟨_, Tryz.func168, L168⟩, ⟨_, Tryz.func171, L171⟩, ⟨_, Tryz.func174, L174⟩, ⟨_, Tryz.func175, L175⟩, ⟨_, Tryz.func176, L176⟩, ⟨_, Tryz.func177, L177⟩, ⟨_, Tryz.func178, L178⟩, ⟨_, Tryz.func179, L179⟩, ⟨_, Tryz.func180, L180⟩, ⟨_, Tryz.func183, L183⟩, ⟨_, Tryz.func185, L185⟩, ⟨_, Tryz.func186, L186⟩, ⟨_, Tryz.func187, L187⟩, ⟨_, Tryz.func188, L188⟩, ⟨_, Tryz.func189, L189⟩, ⟨_, Tryz.func214, L214⟩, ⟨_, Tryz.func222, L222⟩, ⟨_, Tryz.func223, L223⟩, ⟨_, Tryz.func224, L224⟩, ⟨_, Tryz.func225, L225⟩, ⟨_, Tryz.func226, L226⟩, ⟨_, Tryz.func227, L227⟩, ⟨_, Tryz.func228, L228⟩, ⟨_, Tryz.func229, L229⟩, ⟨_, Tryz.func230, L230⟩, ⟨_, Tryz.func231, L231⟩, ⟨_, Tryz.func234, L234⟩, ⟨_, Tryz.func237, L237⟩, ⟨_, Tryz.func264, L264⟩, ⟨_, Tryz.func266, L266⟩, ⟨_, Tryz.func267, L267⟩, ⟨_, Tryz.func268, L268⟩, ⟨_, Tryz.func269, L269⟩, ⟨_, Tryz.func270, L270⟩, ⟨_, Tryz.func271, L271⟩, ⟨_, Tryz.func272, L272⟩, ⟨_, Tryz.func273, L273⟩, ⟨_, Tryz.func274, L274⟩, ⟨_, Tryz.func275, L275⟩, ⟨_, Tryz.func276, L276⟩, ⟨_, Tryz.func277, L277⟩, ⟨_, Tryz.func278, L278⟩, ⟨_, Tryz.func295, L295⟩, ⟨_, Tryz.func296, L296⟩, ⟨_, Tryz.func297, L297⟩, ⟨_, Tryz.func298, L298⟩, ⟨_, Tryz.func299, L299⟩, ⟨_, Tryz.func300, L300⟩, ⟨_, Tryz.func301, L301⟩, ⟨_, Tryz.func302, L302⟩, ⟨_, Tryz.func303, L303⟩, ⟨_, Tryz.func304, L304⟩, ⟨_, Tryz.func305, L305⟩, ⟨_, Tryz.func306, L306⟩, ⟨_, Tryz.func307, L307⟩, ⟨_, Tryz.func315, L315⟩, ⟨_, Tryz.func317, L317⟩, ⟨_, Tryz.func318, L318⟩, ⟨_, Tryz.func319, L319⟩, ⟨_, Tryz.func320, L320⟩, ⟨_, Tryz.func322, L322⟩, ⟨_, Tryz.func331, L331⟩, ⟨_, Tryz.func333, L333⟩, ⟨_, Tryz.func334, L334⟩, ⟨_, Tryz.func337, L337⟩, ⟨_, Tryz.func338, L338⟩, ⟨_, Tryz.func339, L339⟩, ⟨_, Tryz.func345, L345⟩, trivial⟩
theorem tie : T = ofL [(4, C4), (7, C7), (9, C9), (11, C11), (12, C12), (13, C13), (14, C14), (15, C15), (16, C16), (17, C17), (18, C18), (19, C19), (22, C22), (23, C23), (25, C25), (26, C26), (29, C29), (30, C30), (31, C31), (32, C32), (33, C33), (34, C34), (35, C35), (36, C36), (37, C37), (38, C38), (40, C40), (41, C41), (42, C42), (43, C43), (44, C44), (45, C45), (46, C46), (47, C47), (49, C49), (50, C50), (51, C51), (52, C52), (53, C53), (54, C54), (55, C55), (56, C56), (57, C57), (58, C58), (59, C59), (60, C60), (61, C61), (62, C62), (63, C63), (64, C64), (65, C65), (66, C66), (67, C67), (68, C68), (69, C69), (70, C70), (71, C71), (72, C72), (73, C73), (74, C74), (75, C75), (76, C76), (77, C77), (78, C78), (81, C81), (83, C83), (84, C84), (85, C85), (86, C86), (87, C87), (89, C89), (95, C95), (96, C96), (97, C97), (98, C98), (99, C99), (100, C100), (102, C102), (103, C103), (105, C105), (107, C107), (108, C108), (109, C109), (110, C110), (111, C111), (119, C119), (121, C121), (122, C122), (123, C123), (124, C124), (125, C125), (126, C126), (127, C127), (128, C128), (136, C136), (137, C137), (138, C138), (140, C140), (141, C141), (142, C142), (143, C143), (144, C144), (149, C149), (151, C151), (152, C152), (153, C153), (156, C156), (157, C157), (158, C158), (159, C159), (160, C160), (164, C164), (167, C167), (168, C168), (171, C171), (174, C174), (175, C175), (176, C176), (177, C177), (178, C178), (179, C179), (180, C180), (183, C183), (185, C185), (186, C186), (187, C187), (188, C188), (189, C189), (214, C214), (222, C222), (223, C223), (224, C224), (225, C225), (226, C226), (227, C227), (228, C228), (229, C229), (230, C230), (231, C231), (234, C234), (237, C237), (264, C264), (266, C266), (267, C267), (268, C268), (269, C269), (270, C270), (271, C271), (272, C272), (273, C273), (274, C274), (275, C275), (276, C276), (277, C277), (278, C278), (295, C295), (296, C296), (297, C297), (298, C298), (299, C299), (300, C300), (301, C301), (302, C302), (303, C303), (304, C304), (305, C305), (306, C306), (307, C307), (315, C315), (317, C317), (318, C318), (319, C319), (320, C320), (322, C322), (331, C331), (333, C333), (334, C334), (337, C337), (338, C338), (339, C339), (345, C345)] := by kernel_rfl
theorem allC : AllT (fun _ af => codeC af.body = true) [(4, C4), (7, C7), (9, C9), (11, C11), (12, C12), (13, C13), (14, C14), (15, C15), (16, C16), (17, C17), (18, C18), (19, C19), (22, C22), (23, C23), (25, C25), (26, C26), (29, C29), (30, C30), (31, C31), (32, C32), (33, C33), (34, C34), (35, C35), (36, C36), (37, C37), (38, C38), (40, C40), (41, C41), (42, C42), (43, C43), (44, C44), (45, C45), (46, C46), (47, C47), (49, C49), (50, C50), (51, C51), (52, C52), (53, C53), (54, C54), (55, C55), (56, C56), (57, C57), (58, C58), (59, C59), (60, C60), (61, C61), (62, C62), (63, C63), (64, C64), (65, C65), (66, C66), (67, C67), (68, C68), (69, C69), (70, C70), (71, C71), (72, C72), (73, C73), (74, C74), (75, C75), (76, C76), (77, C77), (78, C78), (81, C81), (83, C83), (84, C84), (85, C85), (86, C86), (87, C87), (89, C89), (95, C95), (96, C96), (97, C97), (98, C98), (99, C99), (100, C100), (102, C102), (103, C103), (105, C105), (107, C107), (108, C108), (109, C109), (110, C110), (111, C111), (119, C119), (121, C121), (122, C122), (123, C123), (124, C124), (125, C125), (126, C126), (127, C127), (128, C128), (136, C136), (137, C137), (138, C138), (140, C140), (141, C141), (142, C142), (143, C143), (144, C144), (149, C149), (151, C151), (152, C152), (153, C153), (156, C156), (157, C157), (158, C158), (159, C159), (160, C160), (164, C164), (167, C167), (168, C168), (171, C171), (174, C174), (175, C175), (176, C176), (177, C177), (178, C178), (179, C179), (180, C180), (183, C183), (185, C185), (186, C186), (187, C187), (188, C188), (189, C189), (214, C214), (222, C222), (223, C223), (224, C224), (225, C225), (226, C226), (227, C227), (228, C228), (229, C229), (230, C230), (231, C231), (234, C234), (237, C237), (264, C264), (266, C266), (267, C267), (268, C268), (269, C269), (270, C270), (271, C271), (272, C272), (273, C273), (274, C274), (275, C275), (276, C276), (277, C277), (278, C278), (295, C295), (296, C296), (297, C297), (298, C298), (299, C299), (300, C300), (301, C301), (302, C302), (303, C303), (304, C304), (305, C305), (306, C306), (307, C307), (315, C315), (317, C317), (318, C318), (319, C319), (320, C320), (322, C322), (331, C331), (333, C333), (334, C334), (337, C337), (338, C338), (339, C339), (345, C345)] :=
 ⟨rfl, rfl, rfl, rfl, rfl, rfl, rfl, rfl, rfl, rfl, rfl, rfl, rfl, rfl, rfl, rfl, rfl, rfl, rfl, rfl, rfl, rfl, rfl, rfl, rfl, rfl, rfl, rfl, rfl, rfl, rfl, rfl, rfl, rfl, rfl, rfl, rfl, rfl, rfl, rfl, rfl, rfl, rfl, rfl, rfl, rfl, rfl, rfl, rfl, rfl, rfl, rfl, rfl, rfl, rfl, rfl, rfl, rfl, rfl, rfl, rfl, rfl, rfl, rfl, rfl, rfl, rfl, rfl, rfl, rfl, rfl, rfl, rfl, rfl, rfl, rfl, rfl, rfl, rfl, rfl, rfl, rfl, rfl, rfl, rfl, rfl, rfl, rfl, rfl, rfl, rfl, rfl, rfl, rfl, rfl, rfl, rfl, rfl, rfl, rfl, rfl, rfl, rfl, rfl, rfl, rfl, rfl, rfl, rfl, rfl, rfl, rfl, rfl, rfl, rfl, rfl, rfl, rfl, rfl, rfl, rfl, rfl, rfl, rfl, rfl, rfl, rfl, rfl, rfl, rfl, rfl, rfl, rfl, rfl, rfl, rfl, rfl, rfl, rfl, rfl, rfl, rfl, rfl, rfl, rfl, rfl, rfl, rfl, rfl, rfl, rfl, rfl, rfl, rfl, rfl, rfl, rfl, rfl, rfl, rfl, rfl, rfl, rfl, rfl, rfl, rfl, rfl, rfl, rfl, rfl, rfl, rfl, rfl, rfl, rfl, rfl, rfl, rfl, rfl, rfl, rfl, trivial⟩
theorem codes (f : Nat) (af : AFunc) (h : fs f = some af) : codeC af.body = true := by unfold fs at h; rw [tie] at h; exact ofL_get allC h
end Ir
end Go.Proofs.YtmnolnoeibhjgaaGreat
