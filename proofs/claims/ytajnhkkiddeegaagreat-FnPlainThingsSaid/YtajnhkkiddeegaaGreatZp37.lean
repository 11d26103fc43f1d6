import Derived.Test.YtajnhkkiddeegaaGreatZp36
set_option linter.unusedVariables false
set_option linter.unusedSimpArgs false
namespace Go.Proofs.YtajnhkkiddeegaaGreat
open Go.RowKit Go.Sort
set_option maxRecDepth 100000 in
set_option maxHeartbeats 8000000 in
theorem law_fp2 (A : Option Addr) (l c : Nat) (w w5 : World) (hB0 : Bys0 w A l) (hl : l ≤ 4096) (BW : Below w.heap.size w w5) {u1 u2 u3 u4 u5 u6 u7 u8 u9 u10 u11 u12 u13 u14 u15 u16 u17 u18 u19 u20 u21 u22 u23 u24 u25 u26 u27 u28 u29 u30 u31 u32 u33 u34 u35 u36 u37 u38 u39 u40 u41 u42 u43 u44 u45 u46 u47 u48 u49 u50 u51 u52 u53 u54 u55 u56 u57 u58 u59 u60 u61 u62 u63 u64 u65 u66 u67 u68 u69 u70 u71 u72 u73 u74 u75 u76 u77 u78 u79 u80 u81 u82 u83 u84 u85 u86 u87 u88 u89 u90 u91 u92 u93 u94 u95 u96 u97 u98 u99 u100 u101 u102 u103 u104 u105 u106 u107 u108 u109 u110 u111 u112 u113 u114 u115 u116 u117 u118 u119 u120 u121 u122 u123 u124 u125 u126 u127 u128 u129 u130 u131 u132 u133 u134 u135 u136 u137 u138 u139 u140 u141 u142 u143 u144 u145 u146 u147 u148 u149 u150 u151 u152 u153 u154 u155 u156 u157 u158 u159 u160 u161 u162 u163 u164 u165 u166 u167 u168 u169 u170 u171 u172 u173 u174 u175 u176 u177 u178 u179 u180 u181 u182 u183 u184 u185 u186 u187 u188 u189 u190 u191 u192 u193 u194 u195 u196 u197 u198 u199 u200 u201 u202 u203 u204 u205 u206 u207 u208 u209 u210 u211 u212 u213 u214 u215 u216 u217 u218 u219 u220 u221 u222 u223 u224 u225 u226 u227 u228 u229 u230 u231 u232 u233 u234 u235 u236 u237 u238 u239 u240 u241 u242 u243 u244 u245 u246 u247 u248 u249 u250 u251 u252 u253 u254 u255 u256 u257 u258 u259 u260 u261 u262 u263 u264 u265 u266 u267 u268 u269 u270 u271 u272 u273 u274 u275 u276 u277 u278 u279 u280 u281 u282 u283 u284 u285 u286 u287 u288 u289 u290 u291 u292 u293 u294 u295 u296 u297 u298 u299 u300 u301 u302 u303 u304 u305 u306 u307 u308 u309 u310 u311 u312 u313 u314 u315 u316 u317 u318 u319 u320 u321 u322 u323 u324 u325 u326 u327 u328 u329 u330 u331 u332 u333 u334 u335 u336 u337 u338 u339 u340 u341 u342 u343 u344 u345 u346 u347 u348 u349 u350 u351 u352 u353 u354 u355 u356 u357 u358 u359 u360 u361 u362 u363 u364 u365 u366 u367 u368 u369 u370 u371 u372 u373 u374 u375 u376 u377 u378 u379 : Value} :
    Code.wp Tryz.prog (fpTail 7) (bodyPost Tryz.prog Tryz.f4 (Ret (.bool true) w)) ⟨#[.slice A l c, u1, u2, u3, u4, u5, u6, u7, u8, u9, u10, u11, u12, u13, u14, u15, u16, u17, u18, u19, u20, u21, u22, u23, u24, u25, u26, u27, u28, u29, u30, u31, u32, u33, u34, u35, u36, u37, u38, u39, u40, u41, u42, u43, u44, u45, u46, u47, u48, u49, u50, u51, u52, u53, u54, u55, u56, u57, u58, u59, u60, u61, u62, u63, u64, u65, u66, u67, u68, u69, u70, u71, u72, u73, u74, u75, u76, u77, u78, u79, u80, u81, u82, u83, u84, u85, u86, u87, u88, u89, u90, u91, u92, u93, u94, u95, u96, u97, u98, u99, u100, u101, u102, u103, u104, u105, u106, u107, u108, u109, u110, u111, u112, u113, u114, u115, u116, u117, u118, u119, u120, u121, u122, u123, u124, u125, u126, u127, u128, u129, u130, u131, u132, u133, u134, u135, u136, u137, u138, u139, u140, u141, u142, u143, u144, u145, u146, u147, u148, u149, u150, u151, u152, u153, u154, u155, u156, u157, u158, u159, u160, u161, u162, u163, u164, u165, u166, u167, u168, u169, u170, u171, u172, u173, u174, u175, u176, u177, u178, u179, u180, u181, u182, u183, u184, u185, u186, u187, u188, u189, u190, u191, u192, u193, u194, u195, u196, u197, u198, u199, u200, u201, u202, u203, u204, u205, u206, u207, u208, u209, u210, u211, u212, u213, u214, u215, u216, u217, u218, u219, u220, u221, u222, u223, u224, u225, u226, u227, u228, u229, u230, u231, u232, u233, u234, u235, u236, u237, u238, u239, u240, u241, u242, u243, u244, u245, u246, u247, u248, u249, u250, u251, u252, u253, u254, u255, u256, u257, u258, u259, u260, u261, u262, u263, u264, u265, u266, u267, u268, u269, u270, u271, u272, u273, u274, u275, u276, u277, u278, u279, u280, u281, u282, u283, u284, u285, u286, u287, u288, u289, u290, u291, u292, u293, u294, u295, u296, u297, u298, u299, u300, u301, u302, u303, u304, u305, u306, u307, u308, u309, u310, u311, u312, u313, u314, u315, u316, u317, u318, u319, u320, u321, u322, u323, u324, u325, u326, u327, u328, u329, u330, u331, u332, u333, u334, u335, u336, u337, u338, u339, u340, u341, u342, u343, u344, u345, u346, u347, u348, u349, u350, u351, u352, u353, u354, u355, u356, u357, u358, u359, u360, u361, u362, u363, u364, u365, u366, u367, u368, u369, u370, u371, u372, u373, u374, u375, u376, u377, u378, u379], []⟩ w5 := by
  have KC := cell_rg
  have HD2 := Lib.hid (fun W h => drawPutBeside_any A l c W h hl)
  have HB0 := Lib.hid hB0
  clear hB0
  unfold fpTail
  conv => arg 2; whnf
  go_wp2_with fail
  refine (HD2.out _ (HB0.out.below BW)).mono ?_
  rintro e w6 ⟨n1, g1, o1, c1, es1, n2, g2, o2, c2, es2, rfl, E1, hg1, hl1, E2, hg2, hl2, hb1⟩
  replace BW := BW.andB hb1
  clear hb1 hg1 hg2
  go_wp2_with fail
  have X1 := Box2.made w6 (.int .i64 n1) (.slice (some ⟨g1, o1, none⟩) es1.length c1) 26
  have ha1 : Below w6.heap.size w6 (w6.alloc (.cells #[.int .i64 n1, .slice (some ⟨g1, o1, none⟩) es1.length c1] 26)) := (Below.refl _ _).alloc (Nat.le_refl _) _
  obtain ⟨v1, hv1⟩ : ∃ v1, v1 = w6.alloc (.cells #[.int .i64 n1, .slice (some ⟨g1, o1, none⟩) es1.length c1] 26) := ⟨_, rfl⟩
  rw [← hv1] at X1 ha1 ⊢
  have hs1 : v1.heap.size = w6.heap.size + 1 := by rw [hv1]; simp
  have X2 := Box2.made v1 (.int .i64 n2) (.slice (some ⟨g2, o2, none⟩) es2.length c2) 26
  have ha2 : Below v1.heap.size v1 (v1.alloc (.cells #[.int .i64 n2, .slice (some ⟨g2, o2, none⟩) es2.length c2] 26)) := (Below.refl _ _).alloc (Nat.le_refl _) _
  obtain ⟨v2, hv2⟩ : ∃ v2, v2 = v1.alloc (.cells #[.int .i64 n2, .slice (some ⟨g2, o2, none⟩) es2.length c2] 26) := ⟨_, rfl⟩
  rw [← hv2] at X2 ha2 ⊢
  rw [hs1] at X2
  replace X1 := X1.below ha2
  obtain ⟨x1, hx1⟩ : ∃ x1, x1 = w6.heap.size := ⟨_, rfl⟩
  rw [← hx1] at X1 X2 ⊢
  replace E1 := (E1.below ha1).below ha2
  replace E2 := (E2.below ha1).below ha2
  replace BW := (BW.andB ha1).andB ha2
  clear hv1 hv2 hs1 ha1 ha2 hx1
  have HRN := Lib.hid (fun h : pbC n1 es1 n2 es2 = 0 => pb_law h)
  have HRI := Lib.hid (fun h : pbC n1 es1 n2 es2 = 0 => isG_of_im (pb_law h).2.2.1)
  refine (imPutBeside_any n1 n2 g1 o1 es1.length c1 g2 o2 es2.length c2 es1 es2 v2 E1 E2 (by omega) (by omega)).mono ?_
  rintro e w7 ⟨A5, c5, rfl, O5, hb⟩
  replace X1 := X1.below hb
  replace E1 := E1.below hb
  replace X2 := X2.below hb
  replace E2 := E2.below hb
  replace BW := BW.andB hb
  clear hb
  have hrl : (pbL n1 es1 n2 es2).length ≤ 120 := Nat.le_trans pbL_len (by omega)
  have HRS := Lib.hid (spPutBeside_any n1 n2 g1 o1 es1.length c1 g2 o2 es2.length c2 es1 es2)
  obtain ⟨kb, hkb⟩ : ∃ kb, kb = pbC n1 es1 n2 es2 := ⟨_, rfl⟩
  obtain ⟨nb, hnb⟩ : ∃ nb, nb = pbN n1 es1 n2 es2 := ⟨_, rfl⟩
  obtain ⟨eb, heb⟩ : ∃ eb, eb = pbL n1 es1 n2 es2 := ⟨_, rfl⟩
  rw [← hkb, ← hnb, ← heb] at HRS
  rw [← hkb, ← hnb, ← heb] at HRN
  rw [← hkb, ← hnb, ← heb] at HRI
  rw [← hkb, ← hnb]
  rw [← heb] at O5 hrl ⊢
  clear hkb hnb heb
  have XC := X1
  obtain ⟨s_X1, p_X1, q_X1⟩ := XC
  have XC := X2
  obtain ⟨s_X2, p_X2, q_X2⟩ := XC
  go_wp2_with fail
  clear s_X1 p_X1 q_X1
  clear s_X2 p_X2 q_X2
  have X5 := Box2.made w7 (.int .i64 nb) (.slice A5 eb.length c5) 26
  have ha5 : Below w7.heap.size w7 (w7.alloc (.cells #[.int .i64 nb, .slice A5 eb.length c5] 26)) := (Below.refl _ _).alloc (Nat.le_refl _) _
  obtain ⟨v3, hv5⟩ : ∃ v3, v3 = w7.alloc (.cells #[.int .i64 nb, .slice A5 eb.length c5] 26) := ⟨_, rfl⟩
  rw [← hv5] at X5 ha5 ⊢
  obtain ⟨x5, hx5⟩ : ∃ x5, x5 = w7.heap.size := ⟨_, rfl⟩
  rw [← hx5] at X5 ⊢
  clear hv5 hx5
  replace X1 := X1.below ha5
  replace E1 := E1.below ha5
  replace X2 := X2.below ha5
  replace E2 := E2.below ha5
  replace O5 := O5.below ha5
  replace BW := BW.andB ha5
  clear ha5
  refine (HRS.out v3 E1 E2 (by omega) (by omega)).mono ?_
  rintro e w8 ⟨A7, c7, rfl, O7, hb⟩
  replace X1 := X1.below hb
  replace E1 := E1.below hb
  replace X2 := X2.below hb
  replace E2 := E2.below hb
  replace X5 := X5.below hb
  replace O5 := O5.below hb
  replace BW := BW.andB hb
  clear hb
  clear HRS
  have XC := X5
  obtain ⟨s_X5, p_X5, q_X5⟩ := XC
  go_wp2_with fail
  clear s_X5 p_X5 q_X5
  have X7 := Box2.made w8 (.int .i64 nb) (.slice A7 eb.length c7) 26
  have ha7 : Below w8.heap.size w8 (w8.alloc (.cells #[.int .i64 nb, .slice A7 eb.length c7] 26)) := (Below.refl _ _).alloc (Nat.le_refl _) _
  obtain ⟨v4, hv7⟩ : ∃ v4, v4 = w8.alloc (.cells #[.int .i64 nb, .slice A7 eb.length c7] 26) := ⟨_, rfl⟩
  rw [← hv7] at X7 ha7 ⊢
  obtain ⟨x7, hx7⟩ : ∃ x7, x7 = w8.heap.size := ⟨_, rfl⟩
  rw [← hx7] at X7 ⊢
  clear hv7 hx7
  replace X1 := X1.below ha7
  replace E1 := E1.below ha7
  replace X2 := X2.below ha7
  replace E2 := E2.below ha7
  replace X5 := X5.below ha7
  replace O5 := O5.below ha7
  replace O7 := O7.below ha7
  replace BW := BW.andB ha7
  clear ha7
  refine (graphs5_any nb A5 A7 eb.length c5 c7 eb v4 O5.src O7.src (by omega)).mono ?_
  rintro e w9 ⟨rfl, hb⟩
  replace X1 := X1.below hb
  replace E1 := E1.below hb
  replace X2 := X2.below hb
  replace E2 := E2.below hb
  replace X5 := X5.below hb
  replace O5 := O5.below hb
  replace BW := BW.andB hb
  clear hb
  clear O7 X7
  go_upto_if 214 with fail
  go_cut [] from 64 (fun wx => Below w9.heap.size w9 wx)
  case first =>
    by_cases hk : kb = 0
    · have h1 : (kb == 0) = true := by simp [hk]
      obtain ⟨hi1, hi2, hi3, hpo⟩ := HRN.out hk
      have hle3 := isG_len (HRI.out hk)
      obtain ⟨g5, rfl, E5⟩ := someG_of O5 hle3.1
      have hK1 := poL_le n1 es1
      have hK2 := poL_le n2 es2
      have HP1 := Lib.hid (fun W (E : Eds W g1 o1 es1.length es1) => show Calls Tryz.prog 31 #[.agg #[.int .i64 n1, .slice (some ⟨g1, o1, none⟩) es1.length c1]] W (fun e w' => ∃ A c, e = .returned (.tuple #[.slice A (poL n1 es1).length c, .int .i64 0]) ∧ Below W.heap.size W w') from
        (hi1 ▸ imPartsOf_any n1 g1 o1 es1.length c1 es1 W E (by omega)).mono fun e w' ⟨A, c, h1, _, h2⟩ => ⟨A, c, h1, h2⟩)
      have HP2 := Lib.hid (fun W (E : Eds W g2 o2 es2.length es2) => show Calls Tryz.prog 31 #[.agg #[.int .i64 n2, .slice (some ⟨g2, o2, none⟩) es2.length c2]] W (fun e w' => ∃ A c, e = .returned (.tuple #[.slice A (poL n2 es2).length c, .int .i64 0]) ∧ Below W.heap.size W w') from
        (hi2 ▸ imPartsOf_any n2 g2 o2 es2.length c2 es2 W E (by omega)).mono fun e w' ⟨A, c, h1, _, h2⟩ => ⟨A, c, h1, h2⟩)
      have HP3 := Lib.hid (fun W (E : Eds W g5 0 eb.length eb) => show Calls Tryz.prog 31 #[.agg #[.int .i64 nb, .slice (some ⟨g5, 0, none⟩) eb.length c5]] W (fun e w' => ∃ A c, e = .returned (.tuple #[.slice A ((poL n1 es1).length + (poL n2 es2).length) c, .int .i64 0]) ∧ Below W.heap.size W w') from by
        have := imPartsOf_any nb g5 0 eb.length c5 eb W E (by omega)
        rw [hi3] at this
        exact this.mono fun e w' ⟨A, c, h1, _, h2⟩ => ⟨A, c, by rw [h1, hpo], h2⟩)
      obtain ⟨K1, hKe1⟩ : ∃ K, K = (poL n1 es1).length := ⟨_, rfl⟩
      obtain ⟨K2, hKe2⟩ : ∃ K, K = (poL n2 es2).length := ⟨_, rfl⟩
      rw [← hKe1] at HP1 HP3 hK1
      rw [← hKe2] at HP2 HP3 hK2
      have hwk : IntKind.i64.wrap ((K1 : Int) + (K2 : Int)) = (K1 : Int) + (K2 : Int) := IntWalk.i64_in _ (by omega)
      have BC : Below w9.heap.size w9 w9 := Below.refl _ _
      clear hKe1 hKe2 hi1 hi2 hi3 hpo hk HRN HRI
      have XC := X1
      obtain ⟨s_X1, p_X1, q_X1⟩ := XC
      go_wp2_with fail
      clear s_X1 p_X1 q_X1
      refine (HP1.out _ E1).mono ?_
      rintro e u1 ⟨Aa, cca, rfl, hb⟩
      replace X2 := X2.below hb
      replace E2 := E2.below hb
      replace X5 := X5.below hb
      replace E5 := E5.below hb
      replace BC := BC.andB hb
      clear hb HP1
      have XC := X2
      obtain ⟨s_X2, p_X2, q_X2⟩ := XC
      go_wp2_with fail
      clear s_X2 p_X2 q_X2
      refine (HP2.out _ E2).mono ?_
      rintro e u2 ⟨Ab, ccb, rfl, hb⟩
      replace X5 := X5.below hb
      replace E5 := E5.below hb
      replace BC := BC.andB hb
      clear hb HP2
      have XC := X5
      obtain ⟨s_X5, p_X5, q_X5⟩ := XC
      go_wp2_with fail
      clear s_X5 p_X5 q_X5
      refine (HP3.out _ E5).mono ?_
      rintro e u3 ⟨Ac, ccc, rfl, hb⟩
      replace BC := BC.andB hb
      clear hb HP3
      clear X1 X2 X5 E1 E2 E5 O5
      go_wp2_with fail
      go_meet
      case rel => exact BC
    · have h1 : (kb == 0) = false := by simp [hk]
      clear hk HRN HRI
      go_wp2_with fail
      go_meet
      case rel => exact Below.refl _ _
  replace BW := BW.andB hcut
  go_step
  exact law_fp3 A l c w _ HB0.out hl BW
end Go.Proofs.YtajnhkkiddeegaaGreat
