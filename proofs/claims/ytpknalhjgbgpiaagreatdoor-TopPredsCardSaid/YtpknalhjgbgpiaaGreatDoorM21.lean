/- Parts of the proof: EvE. -/
import Derived.Test.YtpknalhjgbgpiaaGreatDoorM20
noncomputable section
namespace Go.Proofs.YtpknalhjgbgpiaaGreatDoor
open Go Go.RowKit
theorem e4 : F4 = boxT 4 := by kernel_rfl
theorem e7 : F7 = boxT 7 := by kernel_rfl
theorem e8 : F8 = boxT 8 := by kernel_rfl
theorem e9 : F9 = boxT 9 := by kernel_rfl
theorem e10 : F10 = boxT 10 := by kernel_rfl
theorem e11 : F11 = boxT 11 := by kernel_rfl
theorem e13 : F13 = boxT 13 := by kernel_rfl
theorem e14 : F14 = boxT 14 := by kernel_rfl
theorem e15 : F15 = boxT 15 := by kernel_rfl
theorem e16 : F16 = boxT 16 := by kernel_rfl
theorem e17 : F17 = boxT 17 := by kernel_rfl
theorem e18 : F18 = boxT 18 := by kernel_rfl
theorem e19 : F19 = boxT 19 := by kernel_rfl
theorem e20 : F20 = boxT 20 := by kernel_rfl
theorem e21 : F21 = boxT 21 := by kernel_rfl
theorem e23 : F23 = boxT 23 := by kernel_rfl
theorem e24 : F24 = boxT 24 := by kernel_rfl
theorem e25 : F25 = boxT 25 := by kernel_rfl
theorem e26 : F26 = boxT 26 := by kernel_rfl
theorem e27 : F27 = boxT 27 := by kernel_rfl
theorem e28 : F28 = boxT 28 := by kernel_rfl
theorem e29 : F29 = boxT 29 := by kernel_rfl
theorem e30 : F30 = boxT 30 := by kernel_rfl
theorem e31 : F31 = boxT 31 := by kernel_rfl
theorem e32 : F32 = boxT 32 := by kernel_rfl
theorem e33 : F33 = boxT 33 := by kernel_rfl
theorem e34 : F34 = boxT 34 := by kernel_rfl
theorem e35 : F35 = boxT 35 := by kernel_rfl
theorem e36 : F36 = boxT 36 := by kernel_rfl
theorem e37 : F37 = boxT 37 := by kernel_rfl
theorem e38 : F38 = boxT 38 := by kernel_rfl
theorem e39 : F39 = boxT 39 := by kernel_rfl
theorem e40 : F40 = boxT 40 := by kernel_rfl
theorem e41 : F41 = boxT 41 := by kernel_rfl
theorem e42 : F42 = boxT 42 := by kernel_rfl
theorem e43 : F43 = boxT 43 := by kernel_rfl
theorem e44 : F44 = boxT 44 := by kernel_rfl
theorem e45 : F45 = boxT 45 := by kernel_rfl
theorem e46 : F46 = boxT 46 := by kernel_rfl
theorem e47 : F47 = boxT 47 := by kernel_rfl
theorem e48 : F48 = boxT 48 := by kernel_rfl
theorem e49 : F49 = boxT 49 := by kernel_rfl
theorem e50 : F50 = boxT 50 := by kernel_rfl
theorem e51 : F51 = boxT 51 := by kernel_rfl
theorem e52 : F52 = boxT 52 := by kernel_rfl
theorem e53 : F53 = boxT 53 := by kernel_rfl
theorem e54 : F54 = boxT 54 := by kernel_rfl
theorem e55 : F55 = boxT 55 := by kernel_rfl
theorem e56 : F56 = boxT 56 := by kernel_rfl
theorem e57 : F57 = boxT 57 := by kernel_rfl
theorem e58 : F58 = boxT 58 := by kernel_rfl
theorem e59 : F59 = boxT 59 := by kernel_rfl
theorem e60 : F60 = boxT 60 := by kernel_rfl
theorem e61 : F61 = boxT 61 := by kernel_rfl
theorem e62 : F62 = boxT 62 := by kernel_rfl
theorem e63 : F63 = boxT 63 := by kernel_rfl
theorem e64 : F64 = boxT 64 := by kernel_rfl
theorem e65 : F65 = boxT 65 := by kernel_rfl
theorem e66 : F66 = boxT 66 := by kernel_rfl
theorem e67 : F67 = boxT 67 := by kernel_rfl
theorem e68 : F68 = boxT 68 := by kernel_rfl
theorem e69 : F69 = boxT 69 := by kernel_rfl
theorem e71 : F71 = boxT 71 := by kernel_rfl
theorem e72 : F72 = boxT 72 := by kernel_rfl
theorem e73 : F73 = boxT 73 := by kernel_rfl
theorem e74 : F74 = boxT 74 := by kernel_rfl
theorem e75 : F75 = boxT 75 := by kernel_rfl
theorem e76 : F76 = boxT 76 := by kernel_rfl
theorem e77 : F77 = boxT 77 := by kernel_rfl
theorem e78 : F78 = boxT 78 := by kernel_rfl
theorem e79 : F79 = boxT 79 := by kernel_rfl
theorem e80 : F80 = boxT 80 := by kernel_rfl
theorem e81 : F81 = boxT 81 := by kernel_rfl
theorem e82 : F82 = boxT 82 := by kernel_rfl
theorem e83 : F83 = boxT 83 := by kernel_rfl
theorem e84 : F84 = boxT 84 := by kernel_rfl
theorem e85 : F85 = boxT 85 := by kernel_rfl
theorem e86 : F86 = boxT 86 := by kernel_rfl
theorem e87 : F87 = boxT 87 := by kernel_rfl
theorem e88 : F88 = boxT 88 := by kernel_rfl
theorem e89 : F89 = boxT 89 := by kernel_rfl
theorem e91 : F91 = boxT 91 := by kernel_rfl
theorem e92 : F92 = boxT 92 := by kernel_rfl
theorem e93 : F93 = boxT 93 := by kernel_rfl
theorem e94 : F94 = boxT 94 := by kernel_rfl
theorem e95 : F95 = boxT 95 := by kernel_rfl
theorem e96 : F96 = boxT 96 := by kernel_rfl
theorem e98 : F98 = boxT 98 := by kernel_rfl
theorem e99 : F99 = boxT 99 := by kernel_rfl
theorem e100 : F100 = boxT 100 := by kernel_rfl
theorem e101 : F101 = boxT 101 := by kernel_rfl
theorem e102 : F102 = boxT 102 := by kernel_rfl
theorem e103 : F103 = boxT 103 := by kernel_rfl
theorem e104 : F104 = boxT 104 := by kernel_rfl
theorem e105 : F105 = boxT 105 := by kernel_rfl
theorem e106 : F106 = boxT 106 := by kernel_rfl
theorem e107 : F107 = boxT 107 := by kernel_rfl
theorem e108 : F108 = boxT 108 := by kernel_rfl
theorem e109 : F109 = boxT 109 := by kernel_rfl
theorem e110 : F110 = boxT 110 := by kernel_rfl
theorem e111 : F111 = boxT 111 := by kernel_rfl
theorem e112 : F112 = boxT 112 := by kernel_rfl
theorem e113 : F113 = boxT 113 := by kernel_rfl
theorem e114 : F114 = boxT 114 := by kernel_rfl
theorem e115 : F115 = boxT 115 := by kernel_rfl
theorem e116 : F116 = boxT 116 := by kernel_rfl
theorem e117 : F117 = boxT 117 := by kernel_rfl
theorem e118 : F118 = boxT 118 := by kernel_rfl
theorem e119 : F119 = boxT 119 := by kernel_rfl
theorem e120 : F120 = boxT 120 := by kernel_rfl
theorem e121 : F121 = boxT 121 := by kernel_rfl
theorem e122 : F122 = boxT 122 := by kernel_rfl
theorem e123 : F123 = boxT 123 := by kernel_rfl
theorem e124 : F124 = boxT 124 := by kernel_rfl
theorem e125 : F125 = boxT 125 := by kernel_rfl
theorem e126 : F126 = boxT 126 := by kernel_rfl
theorem e127 : F127 = boxT 127 := by kernel_rfl
theorem e128 : F128 = boxT 128 := by kernel_rfl
theorem e129 : F129 = boxT 129 := by kernel_rfl
theorem e130 : F130 = boxT 130 := by kernel_rfl
theorem e131 : F131 = boxT 131 := by kernel_rfl
theorem e132 : F132 = boxT 132 := by kernel_rfl
theorem e134 : F134 = boxT 134 := by kernel_rfl
theorem e135 : F135 = boxT 135 := by kernel_rfl
theorem e136 : F136 = boxT 136 := by kernel_rfl
theorem e137 : F137 = boxT 137 := by kernel_rfl
theorem e138 : F138 = boxT 138 := by kernel_rfl
theorem e139 : F139 = boxT 139 := by kernel_rfl
theorem e140 : F140 = boxT 140 := by kernel_rfl
theorem e141 : F141 = boxT 141 := by kernel_rfl
theorem e142 : F142 = boxT 142 := by kernel_rfl
theorem e143 : F143 = boxT 143 := by kernel_rfl
theorem e144 : F144 = boxT 144 := by kernel_rfl
theorem e145 : F145 = boxT 145 := by kernel_rfl
theorem e146 : F146 = boxT 146 := by kernel_rfl
theorem e147 : F147 = boxT 147 := by kernel_rfl
theorem e148 : F148 = boxT 148 := by kernel_rfl
theorem e149 : F149 = boxT 149 := by kernel_rfl
theorem e150 : F150 = boxT 150 := by kernel_rfl
theorem e151 : F151 = boxT 151 := by kernel_rfl
theorem e152 : F152 = boxT 152 := by kernel_rfl
theorem e153 : F153 = boxT 153 := by kernel_rfl
theorem e158 : F158 = boxT 158 := by kernel_rfl
theorem e159 : F159 = boxT 159 := by kernel_rfl
theorem e161 : F161 = boxT 161 := by kernel_rfl
theorem e162 : F162 = boxT 162 := by kernel_rfl
theorem e164 : F164 = boxT 164 := by kernel_rfl
theorem e167 : F167 = boxT 167 := by kernel_rfl
theorem e169 : F169 = boxT 169 := by kernel_rfl
theorem e170 : F170 = boxT 170 := by kernel_rfl
theorem e171 : F171 = boxT 171 := by kernel_rfl
theorem e172 : F172 = boxT 172 := by kernel_rfl
theorem e173 : F173 = boxT 173 := by kernel_rfl
theorem e174 : F174 = boxT 174 := by kernel_rfl
theorem e175 : F175 = boxT 175 := by kernel_rfl
theorem e176 : F176 = boxT 176 := by kernel_rfl
theorem e177 : F177 = boxT 177 := by kernel_rfl
theorem e178 : F178 = boxT 178 := by kernel_rfl
theorem e179 : F179 = boxT 179 := by kernel_rfl
theorem e180 : F180 = boxT 180 := by kernel_rfl
theorem e181 : F181 = boxT 181 := by kernel_rfl
theorem e182 : F182 = boxT 182 := by kernel_rfl
theorem e183 : F183 = boxT 183 := by kernel_rfl
theorem e184 : F184 = boxT 184 := by kernel_rfl
theorem e185 : F185 = boxT 185 := by kernel_rfl
theorem e186 : F186 = boxT 186 := by kernel_rfl
theorem e187 : F187 = boxT 187 := by kernel_rfl
theorem e188 : F188 = boxT 188 := by kernel_rfl
theorem e189 : F189 = boxT 189 := by kernel_rfl
theorem e190 : F190 = boxT 190 := by kernel_rfl
theorem e191 : F191 = boxT 191 := by kernel_rfl
theorem e192 : F192 = boxT 192 := by kernel_rfl
theorem e193 : F193 = boxT 193 := by kernel_rfl
theorem e194 : F194 = boxT 194 := by kernel_rfl
theorem e195 : F195 = boxT 195 := by kernel_rfl
theorem e196 : F196 = boxT 196 := by kernel_rfl
theorem e197 : F197 = boxT 197 := by kernel_rfl
theorem e198 : F198 = boxT 198 := by kernel_rfl
theorem e199 : F199 = boxT 199 := by kernel_rfl
theorem e200 : F200 = boxT 200 := by kernel_rfl
theorem e201 : F201 = boxT 201 := by kernel_rfl
theorem e202 : F202 = boxT 202 := by kernel_rfl
theorem e207 : F207 = boxT 207 := by kernel_rfl
theorem e208 : F208 = boxT 208 := by kernel_rfl
theorem e209 : F209 = boxT 209 := by kernel_rfl
theorem e210 : F210 = boxT 210 := by kernel_rfl
theorem e211 : F211 = boxT 211 := by kernel_rfl
theorem e212 : F212 = boxT 212 := by kernel_rfl
theorem e213 : F213 = boxT 213 := by kernel_rfl
theorem e214 : F214 = boxT 214 := by kernel_rfl
theorem e215 : F215 = boxT 215 := by kernel_rfl
theorem e216 : F216 = boxT 216 := by kernel_rfl
theorem e217 : F217 = boxT 217 := by kernel_rfl
theorem e218 : F218 = boxT 218 := by kernel_rfl
theorem e219 : F219 = boxT 219 := by kernel_rfl
theorem e220 : F220 = boxT 220 := by kernel_rfl
theorem e221 : F221 = boxT 221 := by kernel_rfl
theorem e222 : F222 = boxT 222 := by kernel_rfl
theorem e223 : F223 = boxT 223 := by kernel_rfl
theorem e224 : F224 = boxT 224 := by kernel_rfl
theorem e225 : F225 = boxT 225 := by kernel_rfl
theorem e226 : F226 = boxT 226 := by kernel_rfl
theorem e227 : F227 = boxT 227 := by kernel_rfl
theorem e228 : F228 = boxT 228 := by kernel_rfl
theorem e229 : F229 = boxT 229 := by kernel_rfl
theorem e230 : F230 = boxT 230 := by kernel_rfl
theorem e231 : F231 = boxT 231 := by kernel_rfl
theorem e232 : F232 = boxT 232 := by kernel_rfl
theorem e233 : F233 = boxT 233 := by kernel_rfl
theorem e234 : F234 = boxT 234 := by kernel_rfl
theorem e235 : F235 = boxT 235 := by kernel_rfl
theorem e236 : F236 = boxT 236 := by kernel_rfl
theorem e237 : F237 = boxT 237 := by kernel_rfl
theorem e238 : F238 = boxT 238 := by kernel_rfl
theorem e239 : F239 = boxT 239 := by kernel_rfl
theorem e245 : F245 = boxT 245 := by kernel_rfl
theorem e249 : F249 = boxT 249 := by kernel_rfl
theorem e250 : F250 = boxT 250 := by kernel_rfl
theorem e251 : F251 = boxT 251 := by kernel_rfl
theorem e252 : F252 = boxT 252 := by kernel_rfl
theorem e253 : F253 = boxT 253 := by kernel_rfl
theorem e254 : F254 = boxT 254 := by kernel_rfl
theorem e255 : F255 = boxT 255 := by kernel_rfl
theorem e256 : F256 = boxT 256 := by kernel_rfl
theorem e257 : F257 = boxT 257 := by kernel_rfl
theorem e258 : F258 = boxT 258 := by kernel_rfl
theorem e259 : F259 = boxT 259 := by kernel_rfl
theorem e265 : F265 = boxT 265 := by kernel_rfl
theorem e267 : F267 = boxT 267 := by kernel_rfl
theorem e268 : F268 = boxT 268 := by kernel_rfl
theorem e269 : F269 = boxT 269 := by kernel_rfl
theorem e270 : F270 = boxT 270 := by kernel_rfl
theorem e271 : F271 = boxT 271 := by kernel_rfl
theorem e272 : F272 = boxT 272 := by kernel_rfl
theorem e273 : F273 = boxT 273 := by kernel_rfl
theorem e274 : F274 = boxT 274 := by kernel_rfl
theorem e277 : F277 = boxT 277 := by kernel_rfl
theorem e278 : F278 = boxT 278 := by kernel_rfl
theorem e279 : F279 = boxT 279 := by kernel_rfl
theorem e285 : F285 = boxT 285 := by kernel_rfl
theorem e288 : F288 = boxT 288 := by kernel_rfl
theorem e295 : F295 = boxT 295 := by kernel_rfl
theorem e320 : F320 = boxT 320 := by kernel_rfl
theorem e321 : F321 = boxT 321 := by kernel_rfl
def boxTab : List (Nat × Box) := [(4, F4), (7, F7), (8, F8), (9, F9), (10, F10), (11, F11), (13, F13), (14, F14), (15, F15), (16, F16), (17, F17), (18, F18), (19, F19), (20, F20), (21, F21), (23, F23), (24, F24), (25, F25), (26, F26), (27, F27), (28, F28), (29, F29), (30, F30), (31, F31), (32, F32), (33, F33), (34, F34), (35, F35), (36, F36), (37, F37), (38, F38), (39, F39), (40, F40), (41, F41), (42, F42), (43, F43), (44, F44), (45, F45), (46, F46), (47, F47), (48, F48), (49, F49), (50, F50), (51, F51), (52, F52), (53, F53), (54, F54), (55, F55), (56, F56), (57, F57), (58, F58), (59, F59), (60, F60), (61, F61), (62, F62), (63, F63), (64, F64), (65, F65), (66, F66), (67, F67), (68, F68), (69, F69), (71, F71), (72, F72), (73, F73), (74, F74), (75, F75), (76, F76), (77, F77), (78, F78), (79, F79), (80, F80), (81, F81), (82, F82), (83, F83), (84, F84), (85, F85), (86, F86), (87, F87), (88, F88), (89, F89), (91, F91), (92, F92), (93, F93), (94, F94), (95, F95), (96, F96), (98, F98), (99, F99), (100, F100), (101, F101), (102, F102), (103, F103), (104, F104), (105, F105), (106, F106), (107, F107), (108, F108), (109, F109), (110, F110), (111, F111), (112, F112), (113, F113), (114, F114), (115, F115), (116, F116), (117, F117), (118, F118), (119, F119), (120, F120), (121, F121), (122, F122), (123, F123), (124, F124), (125, F125), (126, F126), (127, F127), (128, F128), (129, F129), (130, F130), (131, F131), (132, F132), (134, F134), (135, F135), (136, F136), (137, F137), (138, F138), (139, F139), (140, F140), (141, F141), (142, F142), (143, F143), (144, F144), (145, F145), (146, F146), (147, F147), (148, F148), (149, F149), (150, F150), (151, F151), (152, F152), (153, F153), (158, F158), (159, F159), (161, F161), (162, F162), (164, F164), (167, F167), (169, F169), (170, F170), (171, F171), (172, F172), (173, F173), (174, F174), (175, F175), (176, F176), (177, F177), (178, F178), (179, F179), (180, F180), (181, F181), (182, F182), (183, F183), (184, F184), (185, F185), (186, F186), (187, F187), (188, F188), (189, F189), (190, F190), (191, F191), (192, F192), (193, F193), (194, F194), (195, F195), (196, F196), (197, F197), (198, F198), (199, F199), (200, F200), (201, F201), (202, F202), (207, F207), (208, F208), (209, F209), (210, F210), (211, F211), (212, F212), (213, F213), (214, F214), (215, F215), (216, F216), (217, F217), (218, F218), (219, F219), (220, F220), (221, F221), (222, F222), (223, F223), (224, F224), (225, F225), (226, F226), (227, F227), (228, F228), (229, F229), (230, F230), (231, F231), (232, F232), (233, F233), (234, F234), (235, F235), (236, F236), (237, F237), (238, F238), (239, F239), (245, F245), (249, F249), (250, F250), (251, F251), (252, F252), (253, F253), (254, F254), (255, F255), (256, F256), (257, F257), (258, F258), (259, F259), (265, F265), (267, F267), (268, F268), (269, F269), (270, F270), (271, F271), (272, F272), (273, F273), (274, F274), (277, F277), (278, F278), (279, F279), (285, F285), (288, F288), (295, F295), (320, F320), (321, F321)]
def AllE : List (Nat × Box) → Prop
  | [] => True
  | p :: l => p.2 = boxT p.1 ∧ AllE l
set_option maxRecDepth 100000 in
theorem boxTab_ok : AllE boxTab := ⟨e4, e7, e8, e9, e10, e11, e13, e14, e15, e16, e17, e18, e19, e20, e21, e23, e24, e25, e26, e27, e28, e29, e30, e31, e32, e33, e34, e35, e36, e37, e38, e39, e40, e41, e42, e43, e44, e45, e46, e47, e48, e49, e50, e51, e52, e53, e54, e55, e56, e57, e58, e59, e60, e61, e62, e63, e64, e65, e66, e67, e68, e69, e71, e72, e73, e74, e75, e76, e77, e78, e79, e80, e81, e82, e83, e84, e85, e86, e87, e88, e89, e91, e92, e93, e94, e95, e96, e98, e99, e100, e101, e102, e103, e104, e105, e106, e107, e108, e109, e110, e111, e112, e113, e114, e115, e116, e117, e118, e119, e120, e121, e122, e123, e124, e125, e126, e127, e128, e129, e130, e131, e132, e134, e135, e136, e137, e138, e139, e140, e141, e142, e143, e144, e145, e146, e147, e148, e149, e150, e151, e152, e153, e158, e159, e161, e162, e164, e167, e169, e170, e171, e172, e173, e174, e175, e176, e177, e178, e179, e180, e181, e182, e183, e184, e185, e186, e187, e188, e189, e190, e191, e192, e193, e194, e195, e196, e197, e198, e199, e200, e201, e202, e207, e208, e209, e210, e211, e212, e213, e214, e215, e216, e217, e218, e219, e220, e221, e222, e223, e224, e225, e226, e227, e228, e229, e230, e231, e232, e233, e234, e235, e236, e237, e238, e239, e245, e249, e250, e251, e252, e253, e254, e255, e256, e257, e258, e259, e265, e267, e268, e269, e270, e271, e272, e273, e274, e277, e278, e279, e285, e288, e295, e320, e321, trivial⟩
def findB (l : List (Nat × Box)) (f : Nat) : Option Box := match l with
  | [] => none
  | (g, b) :: l => match Nat.beq f g with
    | true => some b
    | false => findB l f
def boxF (f : FuncId) : Box := match findB boxTab f with
  | none => stkB "no box"
  | some b => b
theorem findB_ok {l : List (Nat × Box)} (h : AllE l) {f : Nat} {b : Box} (hb : findB l f = some b) : b = boxT f := by
  induction l with
  | nil => cases hb
  | cons p l ih =>
    obtain ⟨g, c⟩ := p
    have hb' : (match Nat.beq f g with
      | true => some c
      | false => findB l f) = some b := hb
    cases e : Nat.beq f g with
    | true =>
      rw [e] at hb'
      rw [Nat.eq_of_beq_eq_true e, ← Option.some.inj hb']
      exact h.1
    | false =>
      rw [e] at hb'
      exact ih h.2 hb'
theorem boxF_eq (f : FuncId) : boxF f = boxT f ∨ boxF f = stkB "no box" := by
  unfold boxF
  cases h : findB boxTab f with
  | none => exact .inr rfl
  | some b => exact .inl (findB_ok boxTab_ok h)
end Go.Proofs.YtpknalhjgbgpiaaGreatDoor
