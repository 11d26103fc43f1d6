import Derived.Deep.Cut
import Derived.Test.YtajnhkkiddeegaaGreatZp29
import Derived.Test.YtajnhkkiddeegaaGreatZp30
import Derived.Test.YtajnhkkiddeegaaGreatZp33
import Derived.Test.YtajnhkkiddeegaaGreatZp34
set_option linter.unusedVariables false
set_option linter.unusedSimpArgs false
namespace Go.Proofs.YtajnhkkiddeegaaGreat
open Go.RowKit Go.Sort
theorem poL_le (n : Int) (es : List (Int × Int)) : (poL n es).length ≤ 20 := by
  unfold poL
  by_cases hG : IsG n es
  · rw [B_true hG, if_pos rfl, sdTo_len]
    have h1 := ldCnt_le es noSk n.toNat
    have h2 := hG.wf.2.1
    omega
  · rw [B_false hG]; simp
theorem poL_rows (n : Int) (es : List (Int × Int)) : ∀ j, j < (poL n es).length → (ra (poL n es) j).length ≤ 1048576 := by
  intro j hj
  unfold poL at hj ⊢
  by_cases hG : IsG n es
  · rw [B_true hG, if_pos rfl] at hj ⊢
    have h1 := sdTo_rows es noSk n.toNat n.toNat j
    have h2 := hG.wf.2.1
    omega
  · rw [B_false hG] at hj; simp at hj
theorem isG_of_im {n : Int} {es : List (Int × Int)} (h : imC n es = 0) : IsG n es := by
  refine Classical.byContradiction fun hG => ?_
  simp [imC, B_false hG] at h
theorem someG_of {base : Nat} {w : World} {A : Option Addr} {m c : Nat} {es : List (Int × Int)} (h : OwnEA base w A m c es) (hm : 0 < m) : ∃ g, A = some ⟨g, 0, none⟩ ∧ Eds w g 0 m es := by
  rcases h.cases with ⟨_, h0, _⟩ | ⟨g, e, ho⟩
  · omega
  · exact ⟨g, e, ho.eds⟩
theorem isG_len {n : Int} {es : List (Int × Int)} (hG : IsG n es) : 0 < es.length ∧ es.length ≤ 60 := by
  have := hG.wf.1; have := hG.wf.2.1; have := hG.wf.2.2.2.1; omega
def fpDrop : Nat → Code → Code
  | 0, c => c
  | k + 1, .seq _ b => fpDrop k b
  | _ + 1, c => c
/-- What is left of the law behind its first parts. -/
noncomputable def fpTail (k : Nat) : Code := fpDrop k (Tryz.f4.body.getD .skip)
set_option maxRecDepth 100000 in
set_option maxHeartbeats 8000000 in
theorem law_fp4 (A : Option Addr) (l c : Nat) (w w5 : World) (hB0 : Bys0 w A l) (hl : l ≤ 4096) (BW : Below w.heap.size w w5) {u1 u2 u3 u4 u5 u6 u7 u8 u9 u10 u11 u12 u13 u14 u15 u16 u17 u18 u19 u20 u21 u22 u23 u24 u25 u26 u27 u28 u29 u30 u31 u32 u33 u34 u35 u36 u37 u38 u39 u40 u41 u42 u43 u44 u45 u46 u47 u48 u49 u50 u51 u52 u53 u54 u55 u56 u57 u58 u59 u60 u61 u62 u63 u64 u65 u66 u67 u68 u69 u70 u71 u72 u73 u74 u75 u76 u77 u78 u79 u80 u81 u82 u83 u84 u85 u86 u87 u88 u89 u90 u91 u92 u93 u94 u95 u96 u97 u98 u99 u100 u101 u102 u103 u104 u105 u106 u107 u108 u109 u110 u111 u112 u113 u114 u115 u116 u117 u118 u119 u120 u121 u122 u123 u124 u125 u126 u127 u128 u129 u130 u131 u132 u133 u134 u135 u136 u137 u138 u139 u140 u141 u142 u143 u144 u145 u146 u147 u148 u149 u150 u151 u152 u153 u154 u155 u156 u157 u158 u159 u160 u161 u162 u163 u164 u165 u166 u167 u168 u169 u170 u171 u172 u173 u174 u175 u176 u177 u178 u179 u180 u181 u182 u183 u184 u185 u186 u187 u188 u189 u190 u191 u192 u193 u194 u195 u196 u197 u198 u199 u200 u201 u202 u203 u204 u205 u206 u207 u208 u209 u210 u211 u212 u213 u214 u215 u216 u217 u218 u219 u220 u221 u222 u223 u224 u225 u226 u227 u228 u229 u230 u231 u232 u233 u234 u235 u236 u237 u238 u239 u240 u241 u242 u243 u244 u245 u246 u247 u248 u249 u250 u251 u252 u253 u254 u255 u256 u257 u258 u259 u260 u261 u262 u263 u264 u265 u266 u267 u268 u269 u270 u271 u272 u273 u274 u275 u276 u277 u278 u279 u280 u281 u282 u283 u284 u285 u286 u287 u288 u289 u290 u291 u292 u293 u294 u295 u296 u297 u298 u299 u300 u301 u302 u303 u304 u305 u306 u307 u308 u309 u310 u311 u312 u313 u314 u315 u316 u317 u318 u319 u320 u321 u322 u323 u324 u325 u326 u327 u328 u329 u330 u331 u332 u333 u334 u335 u336 u337 u338 u339 u340 u341 u342 u343 u344 u345 u346 u347 u348 u349 u350 u351 u352 u353 u354 u355 u356 u357 u358 u359 u360 u361 u362 u363 u364 u365 u366 u367 u368 u369 u370 u371 u372 u373 u374 u375 u376 u377 u378 u379 : Value} :
    Code.wp Tryz.prog (fpTail 17) (bodyPost Tryz.prog Tryz.f4 (Ret (.bool true) w)) ⟨#[.slice A l c, u1, u2, u3, u4, u5, u6, u7, u8, u9, u10, u11, u12, u13, u14, u15, u16, u17, u18, u19, u20, u21, u22, u23, u24, u25, u26, u27, u28, u29, u30, u31, u32, u33, u34, u35, u36, u37, u38, u39, u40, u41, u42, u43, u44, u45, u46, u47, u48, u49, u50, u51, u52, u53, u54, u55, u56, u57, u58, u59, u60, u61, u62, u63, u64, u65, u66, u67, u68, u69, u70, u71, u72, u73, u74, u75, u76, u77, u78, u79, u80, u81, u82, u83, u84, u85, u86, u87, u88, u89, u90, u91, u92, u93, u94, u95, u96, u97, u98, u99, u100, u101, u102, u103, u104, u105, u106, u107, u108, u109, u110, u111, u112, u113, u114, u115, u116, u117, u118, u119, u120, u121, u122, u123, u124, u125, u126, u127, u128, u129, u130, u131, u132, u133, u134, u135, u136, u137, u138, u139, u140, u141, u142, u143, u144, u145, u146, u147, u148, u149, u150, u151, u152, u153, u154, u155, u156, u157, u158, u159, u160, u161, u162, u163, u164, u165, u166, u167, u168, u169, u170, u171, u172, u173, u174, u175, u176, u177, u178, u179, u180, u181, u182, u183, u184, u185, u186, u187, u188, u189, u190, u191, u192, u193, u194, u195, u196, u197, u198, u199, u200, u201, u202, u203, u204, u205, u206, u207, u208, u209, u210, u211, u212, u213, u214, u215, u216, u217, u218, u219, u220, u221, u222, u223, u224, u225, u226, u227, u228, u229, u230, u231, u232, u233, u234, u235, u236, u237, u238, u239, u240, u241, u242, u243, u244, u245, u246, u247, u248, u249, u250, u251, u252, u253, u254, u255, u256, u257, u258, u259, u260, u261, u262, u263, u264, u265, u266, u267, u268, u269, u270, u271, u272, u273, u274, u275, u276, u277, u278, u279, u280, u281, u282, u283, u284, u285, u286, u287, u288, u289, u290, u291, u292, u293, u294, u295, u296, u297, u298, u299, u300, u301, u302, u303, u304, u305, u306, u307, u308, u309, u310, u311, u312, u313, u314, u315, u316, u317, u318, u319, u320, u321, u322, u323, u324, u325, u326, u327, u328, u329, u330, u331, u332, u333, u334, u335, u336, u337, u338, u339, u340, u341, u342, u343, u344, u345, u346, u347, u348, u349, u350, u351, u352, u353, u354, u355, u356, u357, u358, u359, u360, u361, u362, u363, u364, u365, u366, u367, u368, u369, u370, u371, u372, u373, u374, u375, u376, u377, u378, u379], []⟩ w5 := by
  have KC := cell_rg
  have HD4 := Lib.hid (fun W h => drawDiameterOf_any A l c W h hl)
  have HD5 := Lib.hid (fun W h => drawGirthOf_any A l c W h hl)
  have HD6 := Lib.hid (fun W h => drawIsBipartite_any A l c W h hl)
  have HD7 := Lib.hid (fun W h => drawPartsOf_any A l c W h hl)
  have HB0 := Lib.hid hB0
  clear hB0
  unfold fpTail
  conv => arg 2; whnf
  go_wp2_with fail
  refine (HD4.out _ (HB0.out.below BW)).mono ?_
  rintro e w15 ⟨n4, g4, o4, c4, es4, rfl, E4, hg4, hl4, hb4⟩
  replace BW := BW.andB hb4
  go_wp2_with fail
  have X4 := Box2.made w15 (.int .i64 n4) (.slice (some ⟨g4, o4, none⟩) es4.length c4) 26
  have ha4 : Below w15.heap.size w15 (w15.alloc (.cells #[.int .i64 n4, .slice (some ⟨g4, o4, none⟩) es4.length c4] 26)) := (Below.refl _ _).alloc (Nat.le_refl _) _
  obtain ⟨v4, hv4⟩ : ∃ v4, v4 = w15.alloc (.cells #[.int .i64 n4, .slice (some ⟨g4, o4, none⟩) es4.length c4] 26) := ⟨_, rfl⟩
  rw [← hv4] at X4 ha4 ⊢
  obtain ⟨x4, hx4⟩ : ∃ x4, x4 = w15.heap.size := ⟨_, rfl⟩
  rw [← hx4] at X4 ⊢
  clear hv4 hx4
  replace E4 := E4.below ha4
  replace BW := BW.andB ha4
  clear ha4 hb4 hg4
  refine (imDiameterOf_any n4 g4 o4 es4.length c4 es4 v4 E4 (by omega)).mono ?_
  rintro e w16 ⟨rfl, hb⟩
  replace X4 := X4.below hb
  replace E4 := E4.below hb
  replace BW := BW.andB hb
  clear hb
  have XC := X4
  obtain ⟨s_X4, p_X4, q_X4⟩ := XC
  go_wp2_with fail
  clear s_X4 p_X4 q_X4
  refine (spDiameterOf_any n4 g4 o4 es4.length c4 es4 w16 E4 (by omega)).mono ?_
  rintro e w17 ⟨rfl, hb⟩
  replace BW := BW.andB hb
  clear hb
  clear X4 E4 hl4
  go_wp2_with fail
  as_aux_lemma =>
    refine (HD5.out _ (HB0.out.below BW)).mono ?_
    rintro e w18 ⟨n5, g5, o5, c5, es5, rfl, E5, hg5, hl5, hb5⟩
    replace BW := BW.andB hb5
    go_wp2_with fail
    have X5 := Box2.made w18 (.int .i64 n5) (.slice (some ⟨g5, o5, none⟩) es5.length c5) 26
    have ha5 : Below w18.heap.size w18 (w18.alloc (.cells #[.int .i64 n5, .slice (some ⟨g5, o5, none⟩) es5.length c5] 26)) := (Below.refl _ _).alloc (Nat.le_refl _) _
    obtain ⟨v5, hv5⟩ : ∃ v5, v5 = w18.alloc (.cells #[.int .i64 n5, .slice (some ⟨g5, o5, none⟩) es5.length c5] 26) := ⟨_, rfl⟩
    rw [← hv5] at X5 ha5 ⊢
    obtain ⟨x5, hx5⟩ : ∃ x5, x5 = w18.heap.size := ⟨_, rfl⟩
    rw [← hx5] at X5 ⊢
    clear hv5 hx5
    replace E5 := E5.below ha5
    replace BW := BW.andB ha5
    clear ha5 hb5 hg5
    refine (imGirthOf_any n5 g5 o5 es5.length c5 es5 v5 E5 (by omega)).mono ?_
    rintro e w19 ⟨rfl, hb⟩
    replace X5 := X5.below hb
    replace E5 := E5.below hb
    replace BW := BW.andB hb
    clear hb
    have XC := X5
    obtain ⟨s_X5, p_X5, q_X5⟩ := XC
    go_wp2_with fail
    clear s_X5 p_X5 q_X5
    refine (spGirthOf_any n5 g5 o5 es5.length c5 es5 w19 E5 (by omega)).mono ?_
    rintro e w20 ⟨rfl, hb⟩
    replace BW := BW.andB hb
    clear hb
    clear X5 E5 hl5
    go_wp2_with fail
    refine (HD6.out _ (HB0.out.below BW)).mono ?_
    rintro e w21 ⟨n6, g6, o6, c6, es6, rfl, E6, hg6, hl6, hb6⟩
    replace BW := BW.andB hb6
    go_wp2_with fail
    have X6 := Box2.made w21 (.int .i64 n6) (.slice (some ⟨g6, o6, none⟩) es6.length c6) 26
    have ha6 : Below w21.heap.size w21 (w21.alloc (.cells #[.int .i64 n6, .slice (some ⟨g6, o6, none⟩) es6.length c6] 26)) := (Below.refl _ _).alloc (Nat.le_refl _) _
    obtain ⟨v6, hv6⟩ : ∃ v6, v6 = w21.alloc (.cells #[.int .i64 n6, .slice (some ⟨g6, o6, none⟩) es6.length c6] 26) := ⟨_, rfl⟩
    rw [← hv6] at X6 ha6 ⊢
    obtain ⟨x6, hx6⟩ : ∃ x6, x6 = w21.heap.size := ⟨_, rfl⟩
    rw [← hx6] at X6 ⊢
    clear hv6 hx6
    replace E6 := E6.below ha6
    replace BW := BW.andB ha6
    clear ha6 hb6 hg6
    refine (imIsBipartite_any n6 g6 o6 es6.length c6 es6 v6 E6 (by omega)).mono ?_
    rintro e w22 ⟨rfl, hb⟩
    replace X6 := X6.below hb
    replace E6 := E6.below hb
    replace BW := BW.andB hb
    clear hb
    have XC := X6
    obtain ⟨s_X6, p_X6, q_X6⟩ := XC
    go_wp2_with fail
    clear s_X6 p_X6 q_X6
    refine (spIsBipartite_any n6 g6 o6 es6.length c6 es6 w22 E6 (by omega)).mono ?_
    rintro e w23 ⟨rfl, hb⟩
    replace BW := BW.andB hb
    clear hb
    clear X6 E6 hl6
    go_wp2_with fail
    as_aux_lemma =>
      refine (HD7.out _ (HB0.out.below BW)).mono ?_
      rintro e w24 ⟨n7, g7, o7, c7, es7, rfl, E7, hg7, hl7, hb7⟩
      replace BW := BW.andB hb7
      go_wp2_with fail
      have X7 := Box2.made w24 (.int .i64 n7) (.slice (some ⟨g7, o7, none⟩) es7.length c7) 26
      have ha7 : Below w24.heap.size w24 (w24.alloc (.cells #[.int .i64 n7, .slice (some ⟨g7, o7, none⟩) es7.length c7] 26)) := (Below.refl _ _).alloc (Nat.le_refl _) _
      obtain ⟨v7, hv7⟩ : ∃ v7, v7 = w24.alloc (.cells #[.int .i64 n7, .slice (some ⟨g7, o7, none⟩) es7.length c7] 26) := ⟨_, rfl⟩
      rw [← hv7] at X7 ha7 ⊢
      obtain ⟨x7, hx7⟩ : ∃ x7, x7 = w24.heap.size := ⟨_, rfl⟩
      rw [← hx7] at X7 ⊢
      clear hv7 hx7
      replace E7 := E7.below ha7
      replace BW := BW.andB ha7
      clear ha7 hb7 hg7
      refine (imPartsOf_any n7 g7 o7 es7.length c7 es7 v7 E7 (by omega)).mono ?_
      rintro e w25 ⟨Aa, cca, rfl, OL1, hb⟩
      replace X7 := X7.below hb
      replace E7 := E7.below hb
      replace BW := BW.andB hb
      clear hb
      have XC := X7
      obtain ⟨s_X7, p_X7, q_X7⟩ := XC
      go_wp2_with fail
      clear s_X7 p_X7 q_X7
      refine (spPartsOf_any n7 g7 o7 es7.length c7 es7 w25 E7 (by omega)).mono ?_
      rintro e w26 ⟨Ab, ccb, rfl, OL2, hb⟩
      replace OL1 := OL1.below hb
      replace BW := BW.andB hb
      clear hb
      have L1 := OL1.src
      have L2 := OL2.src
      have HR1 := Lib.hid (poL_rows n7 es7)
      have HR2 := Lib.hid (poL_le n7 es7)
      obtain ⟨rows, hrows⟩ : ∃ rows, rows = poL n7 es7 := ⟨_, rfl⟩
      rw [← hrows] at L1 L2 HR1 HR2 ⊢
      obtain ⟨R, hR⟩ : ∃ R, R = rows.length := ⟨_, rfl⟩
      rw [← hR] at HR1 HR2 ⊢
      have HRL := Lib.hid hR.symm
      clear OL1 OL2 hrows hR X7 E7 hl7
      go_wp2_with fail
      refine (rows5_any Aa Ab R cca ccb rows w26 HRL.out L1 L2 (by have := HR2.out; omega) HR1.out).mono ?_
      rintro e w27 ⟨rfl, hb⟩
      replace BW := BW.andB hb
      clear hb L1 L2 HR1
      go_wp2_with fail
      go_ret
      exact ⟨rfl, BW⟩
    
end Go.Proofs.YtajnhkkiddeegaaGreat
