import Derived.Test.YtajnhkkiddeegaaGreatZp35
set_option linter.unusedVariables false
set_option linter.unusedSimpArgs false
namespace Go.Proofs.YtajnhkkiddeegaaGreat
open Go.RowKit Go.Sort
set_option maxRecDepth 100000 in
set_option maxHeartbeats 8000000 in
theorem law_fp3 (A : Option Addr) (l c : Nat) (w w5 : World) (hB0 : Bys0 w A l) (hl : l ≤ 4096) (BW : Below w.heap.size w w5) {u1 u2 u3 u4 u5 u6 u7 u8 u9 u10 u11 u12 u13 u14 u15 u16 u17 u18 u19 u20 u21 u22 u23 u24 u25 u26 u27 u28 u29 u30 u31 u32 u33 u34 u35 u36 u37 u38 u39 u40 u41 u42 u43 u44 u45 u46 u47 u48 u49 u50 u51 u52 u53 u54 u55 u56 u57 u58 u59 u60 u61 u62 u63 u64 u65 u66 u67 u68 u69 u70 u71 u72 u73 u74 u75 u76 u77 u78 u79 u80 u81 u82 u83 u84 u85 u86 u87 u88 u89 u90 u91 u92 u93 u94 u95 u96 u97 u98 u99 u100 u101 u102 u103 u104 u105 u106 u107 u108 u109 u110 u111 u112 u113 u114 u115 u116 u117 u118 u119 u120 u121 u122 u123 u124 u125 u126 u127 u128 u129 u130 u131 u132 u133 u134 u135 u136 u137 u138 u139 u140 u141 u142 u143 u144 u145 u146 u147 u148 u149 u150 u151 u152 u153 u154 u155 u156 u157 u158 u159 u160 u161 u162 u163 u164 u165 u166 u167 u168 u169 u170 u171 u172 u173 u174 u175 u176 u177 u178 u179 u180 u181 u182 u183 u184 u185 u186 u187 u188 u189 u190 u191 u192 u193 u194 u195 u196 u197 u198 u199 u200 u201 u202 u203 u204 u205 u206 u207 u208 u209 u210 u211 u212 u213 u214 u215 u216 u217 u218 u219 u220 u221 u222 u223 u224 u225 u226 u227 u228 u229 u230 u231 u232 u233 u234 u235 u236 u237 u238 u239 u240 u241 u242 u243 u244 u245 u246 u247 u248 u249 u250 u251 u252 u253 u254 u255 u256 u257 u258 u259 u260 u261 u262 u263 u264 u265 u266 u267 u268 u269 u270 u271 u272 u273 u274 u275 u276 u277 u278 u279 u280 u281 u282 u283 u284 u285 u286 u287 u288 u289 u290 u291 u292 u293 u294 u295 u296 u297 u298 u299 u300 u301 u302 u303 u304 u305 u306 u307 u308 u309 u310 u311 u312 u313 u314 u315 u316 u317 u318 u319 u320 u321 u322 u323 u324 u325 u326 u327 u328 u329 u330 u331 u332 u333 u334 u335 u336 u337 u338 u339 u340 u341 u342 u343 u344 u345 u346 u347 u348 u349 u350 u351 u352 u353 u354 u355 u356 u357 u358 u359 u360 u361 u362 u363 u364 u365 u366 u367 u368 u369 u370 u371 u372 u373 u374 u375 u376 u377 u378 u379 : Value} :
    Code.wp Tryz.prog (fpTail 12) (bodyPost Tryz.prog Tryz.f4 (Ret (.bool true) w)) ⟨#[.slice A l c, u1, u2, u3, u4, u5, u6, u7, u8, u9, u10, u11, u12, u13, u14, u15, u16, u17, u18, u19, u20, u21, u22, u23, u24, u25, u26, u27, u28, u29, u30, u31, u32, u33, u34, u35, u36, u37, u38, u39, u40, u41, u42, u43, u44, u45, u46, u47, u48, u49, u50, u51, u52, u53, u54, u55, u56, u57, u58, u59, u60, u61, u62, u63, u64, u65, u66, u67, u68, u69, u70, u71, u72, u73, u74, u75, u76, u77, u78, u79, u80, u81, u82, u83, u84, u85, u86, u87, u88, u89, u90, u91, u92, u93, u94, u95, u96, u97, u98, u99, u100, u101, u102, u103, u104, u105, u106, u107, u108, u109, u110, u111, u112, u113, u114, u115, u116, u117, u118, u119, u120, u121, u122, u123, u124, u125, u126, u127, u128, u129, u130, u131, u132, u133, u134, u135, u136, u137, u138, u139, u140, u141, u142, u143, u144, u145, u146, u147, u148, u149, u150, u151, u152, u153, u154, u155, u156, u157, u158, u159, u160, u161, u162, u163, u164, u165, u166, u167, u168, u169, u170, u171, u172, u173, u174, u175, u176, u177, u178, u179, u180, u181, u182, u183, u184, u185, u186, u187, u188, u189, u190, u191, u192, u193, u194, u195, u196, u197, u198, u199, u200, u201, u202, u203, u204, u205, u206, u207, u208, u209, u210, u211, u212, u213, u214, u215, u216, u217, u218, u219, u220, u221, u222, u223, u224, u225, u226, u227, u228, u229, u230, u231, u232, u233, u234, u235, u236, u237, u238, u239, u240, u241, u242, u243, u244, u245, u246, u247, u248, u249, u250, u251, u252, u253, u254, u255, u256, u257, u258, u259, u260, u261, u262, u263, u264, u265, u266, u267, u268, u269, u270, u271, u272, u273, u274, u275, u276, u277, u278, u279, u280, u281, u282, u283, u284, u285, u286, u287, u288, u289, u290, u291, u292, u293, u294, u295, u296, u297, u298, u299, u300, u301, u302, u303, u304, u305, u306, u307, u308, u309, u310, u311, u312, u313, u314, u315, u316, u317, u318, u319, u320, u321, u322, u323, u324, u325, u326, u327, u328, u329, u330, u331, u332, u333, u334, u335, u336, u337, u338, u339, u340, u341, u342, u343, u344, u345, u346, u347, u348, u349, u350, u351, u352, u353, u354, u355, u356, u357, u358, u359, u360, u361, u362, u363, u364, u365, u366, u367, u368, u369, u370, u371, u372, u373, u374, u375, u376, u377, u378, u379], []⟩ w5 := by
  have KC := cell_rg
  have HD3 := Lib.hid (fun W h => drawDistanceOf_any A l c W h hl)
  have HB0 := Lib.hid hB0
  clear hB0
  unfold fpTail
  conv => arg 2; whnf
  go_wp2_with fail
  refine (HD3.out _ (HB0.out.below BW)).mono ?_
  rintro e w11 ⟨n3, g3, o3, c3, es3, ax, bx, rfl, E3, hg3, hl3, hb3⟩
  replace BW := BW.andB hb3
  go_wp2_with fail
  have X3 := Box2.made w11 (.int .i64 n3) (.slice (some ⟨g3, o3, none⟩) es3.length c3) 26
  have ha3 : Below w11.heap.size w11 (w11.alloc (.cells #[.int .i64 n3, .slice (some ⟨g3, o3, none⟩) es3.length c3] 26)) := (Below.refl _ _).alloc (Nat.le_refl _) _
  obtain ⟨v3, hv3⟩ : ∃ v3, v3 = w11.alloc (.cells #[.int .i64 n3, .slice (some ⟨g3, o3, none⟩) es3.length c3] 26) := ⟨_, rfl⟩
  rw [← hv3] at X3 ha3 ⊢
  obtain ⟨x3, hx3⟩ : ∃ x3, x3 = w11.heap.size := ⟨_, rfl⟩
  rw [← hx3] at X3 ⊢
  clear hv3 hx3
  replace E3 := E3.below ha3
  replace BW := BW.andB ha3
  clear ha3 hb3 hg3
  refine (imDistanceOf_any n3 g3 o3 es3.length c3 es3 ax bx v3 E3 (by omega)).mono ?_
  rintro e w12 ⟨rfl, hb⟩
  replace X3 := X3.below hb
  replace E3 := E3.below hb
  replace BW := BW.andB hb
  clear hb
  have XC := X3
  obtain ⟨s_X3, p_X3, q_X3⟩ := XC
  go_wp2_with fail
  clear s_X3 p_X3 q_X3
  refine (spDistanceOf_any n3 g3 o3 es3.length c3 es3 ax bx w12 E3 (by omega)).mono ?_
  rintro e w13 ⟨rfl, hb⟩
  replace X3 := X3.below hb
  replace E3 := E3.below hb
  replace BW := BW.andB hb
  clear hb
  have HDI := Lib.hid (fun W (E : Eds W g3 o3 es3.length es3) (h : diC n3 es3 ax bx = 0) => show Calls Tryz.prog 38 #[.agg #[.int .i64 n3, .slice (some ⟨g3, o3, none⟩) es3.length c3], .int .i64 bx, .int .i64 ax] W (Ret (.tuple #[.int .i64 (diV n3 es3 ax bx), .int .i64 0]) W) from by
    have := imDistanceOf_any n3 g3 o3 es3.length c3 es3 bx ax W E (by omega)
    rwa [(di_symm h).1, (di_symm h).2] at this)
  obtain ⟨dv, hdv⟩ : ∃ dv, dv = diV n3 es3 ax bx := ⟨_, rfl⟩
  obtain ⟨dc, hdc⟩ : ∃ dc, dc = diC n3 es3 ax bx := ⟨_, rfl⟩
  rw [← hdv, ← hdc] at HDI ⊢
  clear hdv hdc
  go_upto_if 279 with fail
  go_cut [] from 64 (fun wx => Below w13.heap.size w13 wx)
  case first =>
    by_cases hk : dc = 0
    · have h1 : (dc == 0) = true := by simp [hk]
      have H := Lib.hid (HDI.out w13 E3 hk)
      clear hk HDI
      obtain ⟨s_, p_, q_⟩ := X3
      go_wp2_with fail
      refine H.out.mono ?_
      rintro e u1 ⟨rfl, hb⟩
      clear s_ p_ q_
      go_wp2_with fail
      go_meet
      case rel => exact hb
    · have h1 : (dc == 0) = false := by simp [hk]
      clear hk HDI
      go_wp2_with fail
      go_meet
      case rel => exact Below.refl _ _
  replace BW := BW.andB hcut
  go_step
  exact law_fp4 A l c w _ HB0.out hl BW
end Go.Proofs.YtajnhkkiddeegaaGreat
