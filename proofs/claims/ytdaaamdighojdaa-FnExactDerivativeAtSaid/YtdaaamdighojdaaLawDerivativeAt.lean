/- The law FnExactDerivativeAt returns true for every field, point and vectors, and changes nothing that was there. Conditions: none. -/
import Derived.Test.YtdaaamdighojdaaDAt
import Derived.Test.YtdaaamdighojdaaKinds
import Derived.Test.YtdaaamdighojdaaShut
import Derived.Test.YtdaaamdighojdaaOpenF
namespace Go.Proofs.Ytdaaamdighojdaa
open Go.ChangeShapes Go.WideShapes Go.ChangeAt Go.RowKit

theorem derAtL_cnt (f : FldZ) (y : List Int) (vs : List (List Int)) : cnt_I (derAtL f y vs) ≤ 10000000000000 := by
  unfold cnt_I derAtL
  split
  · rename_i hd
    simp only [daOkB, Bool.and_eq_true] at hd
    obtain ⟨n, f1, f2, f3, f4, f5, f6⟩ := fpOk_facts hd.1
    rw [colZ_len]
    simp [fldE, f2]
    omega
  · simp
theorem sDerivativeAt_c (v : Value) (f : FldZ) (u : Value) (y : List Int) (u2 : Value) (vs : List (List Int)) (w : World) (h : Rd_Fld w v f) (g : Rd_I w u y) (g2 : Rd_II w u2 vs) :
    Calls Try.prog 43 #[v, u, u2] w (Gives (fun w' v fp => Own_I w' v (derAtL f y vs) fp) w) := sDAt_any v u u2 f y vs w h g g2
theorem derivativeAt_c (v : Value) (f : FldZ) (u : Value) (y : List Int) (u2 : Value) (vs : List (List Int)) (w : World) (h : Rd_Fld w v f) (g : Rd_I w u y) (g2 : Rd_II w u2 vs) (hf : Fit_Fld f) :
    Calls Try.prog 45 #[v, u, u2] w (Gives (fun w' v fp => Own_I w' v (derAtL f y vs) fp) w) := dAt_any v u u2 f y vs w h g g2 (fun p hp m hm => (hf.2.1 p hp).2 m hm)

set_option maxRecDepth 100000 in
set_option maxHeartbeats 4000000 in
theorem fnExactDerivativeAt_walk (v_aF : Value) (x_aF : FldZ) (v_aY : Value) (x_aY : List Int) (v_aVectors : Value) (x_aVectors : List (List Int)) (w0 : World) (h_aF : Rd_Fld w0 v_aF x_aF) (h_aY : Rd_I w0 v_aY x_aY) (h_aVectors : Rd_II w0 v_aVectors x_aVectors) :
    Calls Try.prog 9 #[v_aF, v_aY, v_aVectors] w0 fun e w' => e = .returned (.bool true) ∧ Below w0.heap.size w0 w' := by
  have h_aF_k := h_aF
  obtain ⟨vP_aF, rfl, hI_aF, hP_aF⟩ := h_aF_k
  obtain ⟨vPa_aF, vPl_aF, vPc_aF, rfl⟩ := rdMss_slice hP_aF
  obtain ⟨a_aY, l_aY, c_aY, rfl, hl_aY, _, _, h_aY⟩ := rdS_open h_aY
  by_cases big_aY : 1048576 < l_aY
  · have big_i : (1048576 : Int) < l_aY := by omega
    go_enter Try.func9, Try.ntmps9
    go_wp2
    go_ret
    exact ⟨rfl, ((Below.refl _ _).alloc (Nat.le_refl _) _)⟩
  have bigI_aY : ¬ ((1048576 : Int) < l_aY) := by omega
  have fit_aY : Fit_I x_aY := by unfold Fit_I; omega
  go_enter Try.func9, Try.ntmps9
  go_wp2_with fail
  obtain ⟨w1, hw1⟩ : ∃ W, W = w0.alloc (.cells #[.int .i64 x_aF.dim, .slice vPa_aF vPl_aF vPc_aF] 32) := ⟨_, rfl⟩
  rw [← hw1]
  have hb1 : Below w0.heap.size w0 w1 := hw1 ▸ (Below.refl _ _).alloc (Nat.le_refl _) _
  have HZ1 : Hid (w0.heap.size + 1 ≤ w1.heap.size) := Lib.hid (by rw [hw1]; simp)
  have b1_p_aF_0 : w1.cell? ⟨w0.heap.size, 0, none⟩ = some (.int .i64 x_aF.dim) := by rw [hw1]; simp
  have b1_p_aF_1 : w1.cell? ⟨w0.heap.size, 1, none⟩ = some (.slice vPa_aF vPl_aF vPc_aF) := by rw [hw1]; simp
  clear hw1
  have c1_w := hb1
  go_wp2_with fail
  refine (sz_Fld (.agg #[.int .i64 x_aF.dim, .slice vPa_aF vPl_aF vPc_aF]) x_aF 1048576 _ (rd_Fld_mono c1_w h_aF) (by omega) (by omega)).mono ?_
  rintro e w2 ⟨r2, rfl, hr2, hb2⟩
  have HZ2 := Lib.hid hb2.size
  have c2_w := c1_w.trans (hb2.mono c1_w.size)
  have b2_p_aF_0 := cell_below hb2 b1_p_aF_0
  have b2_p_aF_1 := cell_below hb2 b1_p_aF_1
  clear b1_p_aF_0 b1_p_aF_1
  rcases hr2 with rfl | ⟨hra2, hrb2, fit_aF⟩
  · go_wp2
    go_ret
    exact ⟨rfl, c2_w⟩
  go_wp2_with fail
  refine (sz_II v_aVectors x_aVectors r2 _ (rd_II_mono c2_w h_aVectors) (by omega) (by omega)).mono ?_
  rintro e w3 ⟨r3, rfl, hr3, hb3⟩
  have HZ3 := Lib.hid hb3.size
  have c3_w := c2_w.trans (hb3.mono c2_w.size)
  have b3_p_aF_0 := cell_below hb3 b2_p_aF_0
  have b3_p_aF_1 := cell_below hb3 b2_p_aF_1
  clear b2_p_aF_0 b2_p_aF_1
  rcases hr3 with rfl | ⟨hra3, hrb3, fit_aVectors⟩
  · go_wp2
    go_ret
    exact ⟨rfl, c3_w⟩
  go_wp2_with fail
  refine (to_Fld (.agg #[.int .i64 x_aF.dim, .slice vPa_aF vPl_aF vPc_aF]) x_aF _ (rd_Fld_mono c3_w h_aF) fit_aF).mono ?_
  rintro e w4 ⟨v4, fp4, rfl, ho4, hn4, hb4⟩
  have HZ4 := Lib.hid hb4.size
  have c4_w := c3_w.trans (hb4.mono c3_w.size)
  have b4_p_aF_0 := cell_below hb4 b3_p_aF_0
  have b4_p_aF_1 := cell_below hb4 b3_p_aF_1
  clear b3_p_aF_0 b3_p_aF_1
  have new_t4 := hn4
  have lt_t4 := own_Fld_lt ho4
  have ho4_k := ho4
  obtain ⟨vP_t4, rfl, hI_t4, hoP_t4⟩ := ho4_k
  obtain ⟨vPa_t4, vPl_t4, vPc_t4, rfl⟩ := ownMss_slice hoP_t4
  go_wp2_with fail
  refine (to_I (.slice a_aY l_aY c_aY) x_aY _ (rd_I_mono c4_w h_aY) fit_aY).mono ?_
  rintro e w5 ⟨v5, fp5, rfl, ho5, hn5, hb5⟩
  have HZ5 := Lib.hid hb5.size
  have c5_w := c4_w.trans (hb5.mono c4_w.size)
  have c5_t4 := hb5
  have b5_p_aF_0 := cell_below hb5 b4_p_aF_0
  have b5_p_aF_1 := cell_below hb5 b4_p_aF_1
  clear b4_p_aF_0 b4_p_aF_1
  have new_t5 := hn5
  have lt_t5 := own_I_lt ho5
  go_wp2_with fail
  refine (to_II v_aVectors x_aVectors _ (rd_II_mono c5_w h_aVectors) fit_aVectors).mono ?_
  rintro e w6 ⟨v6, fp6, rfl, ho6, hn6, hb6⟩
  have HZ6 := Lib.hid hb6.size
  have c6_w := c5_w.trans (hb6.mono c5_w.size)
  have c6_t4 := c5_t4.trans (hb6.mono c5_t4.size)
  have c6_t5 := hb6
  have b6_p_aF_0 := cell_below hb6 b5_p_aF_0
  have b6_p_aF_1 := cell_below hb6 b5_p_aF_1
  clear b5_p_aF_0 b5_p_aF_1
  have new_t6 := hn6
  have lt_t6 := own_II_lt ho6
  go_wp2_with fail
  refine (sDerivativeAt_c (.agg #[.int .i64 x_aF.dim, .slice vPa_t4 vPl_t4 vPc_t4]) x_aF v5 x_aY v6 x_aVectors _ (own_Fld_rd (own_Fld_only ho4 (Only.of_below (fp := []) c6_t4) (by simp))) (own_I_rd (own_I_only ho5 (Only.of_below (fp := []) c6_t5) (by simp))) (own_II_rd ho6) ).mono ?_
  rintro e w7 ⟨v7, fp7, rfl, ho7, hn7, hb7⟩
  have HZ7 := Lib.hid hb7.size
  have c7_w := c6_w.trans (hb7.mono c6_w.size)
  have c7_t4 := c6_t4.trans (hb7.mono c6_t4.size)
  have c7_t5 := c6_t5.trans (hb7.mono c6_t5.size)
  have c7_t6 := hb7
  have b7_p_aF_0 := cell_below hb7 b6_p_aF_0
  have b7_p_aF_1 := cell_below hb7 b6_p_aF_1
  clear b6_p_aF_0 b6_p_aF_1
  have new_w0 := hn7
  have lt_w0 := own_I_lt ho7
  go_wp2_with fail
  refine (to_Fld (.agg #[.int .i64 x_aF.dim, .slice vPa_aF vPl_aF vPc_aF]) x_aF _ (rd_Fld_mono c7_w h_aF) fit_aF).mono ?_
  rintro e w8 ⟨v8, fp8, rfl, ho8, hn8, hb8⟩
  have HZ8 := Lib.hid hb8.size
  have c8_w := c7_w.trans (hb8.mono c7_w.size)
  have c8_w0 := hb8
  have b8_p_aF_0 := cell_below hb8 b7_p_aF_0
  have b8_p_aF_1 := cell_below hb8 b7_p_aF_1
  clear b7_p_aF_0 b7_p_aF_1
  have new_x0 := hn8
  have lt_x0 := own_Fld_lt ho8
  have ho8_k := ho8
  obtain ⟨vP_x0, rfl, hI_x0, hoP_x0⟩ := ho8_k
  obtain ⟨vPa_x0, vPl_x0, vPc_x0, rfl⟩ := ownMss_slice hoP_x0
  go_wp2_with fail
  obtain ⟨w9, hw9⟩ : ∃ W, W = w8.alloc (.cells #[.int .i64 x_aF.dim, .slice vPa_x0 vPl_x0 vPc_x0] 37) := ⟨_, rfl⟩
  rw [← hw9]
  have hb9 : Below w8.heap.size w8 w9 := hw9 ▸ (Below.refl _ _).alloc (Nat.le_refl _) _
  have HZ9 : Hid (w8.heap.size + 1 ≤ w9.heap.size) := Lib.hid (by rw [hw9]; simp)
  have b9_x0_0 : w9.cell? ⟨w8.heap.size, 0, none⟩ = some (.int .i64 x_aF.dim) := by rw [hw9]; simp
  have b9_x0_1 : w9.cell? ⟨w8.heap.size, 1, none⟩ = some (.slice vPa_x0 vPl_x0 vPc_x0) := by rw [hw9]; simp
  clear hw9
  have c9_w := c8_w.trans (hb9.mono c8_w.size)
  have c9_w0 := c8_w0.trans (hb9.mono c8_w0.size)
  have c9_x0 := hb9
  have b9_p_aF_0 := cell_below hb9 b8_p_aF_0
  have b9_p_aF_1 := cell_below hb9 b8_p_aF_1
  clear b8_p_aF_0 b8_p_aF_1
  go_wp2_with fail
  refine (to_I (.slice a_aY l_aY c_aY) x_aY _ (rd_I_mono c9_w h_aY) fit_aY).mono ?_
  rintro e w10 ⟨v10, fp10, rfl, ho10, hn10, hb10⟩
  have HZ10 := Lib.hid hb10.size
  have c10_w := c9_w.trans (hb10.mono c9_w.size)
  have c10_w0 := c9_w0.trans (hb10.mono c9_w0.size)
  have c10_x0 := c9_x0.trans (hb10.mono c9_x0.size)
  have b10_p_aF_0 := cell_below hb10 b9_p_aF_0
  have b10_p_aF_1 := cell_below hb10 b9_p_aF_1
  clear b9_p_aF_0 b9_p_aF_1
  have b10_x0_0 := cell_below hb10 b9_x0_0
  have b10_x0_1 := cell_below hb10 b9_x0_1
  clear b9_x0_0 b9_x0_1
  have new_x1 := hn10
  have lt_x1 := own_I_lt ho10
  go_wp2_with fail
  refine (to_II v_aVectors x_aVectors _ (rd_II_mono c10_w h_aVectors) fit_aVectors).mono ?_
  rintro e w11 ⟨v11, fp11, rfl, ho11, hn11, hb11⟩
  have HZ11 := Lib.hid hb11.size
  have c11_w := c10_w.trans (hb11.mono c10_w.size)
  have c11_w0 := c10_w0.trans (hb11.mono c10_w0.size)
  have c11_x0 := c10_x0.trans (hb11.mono c10_x0.size)
  have c11_x1 := hb11
  have b11_p_aF_0 := cell_below hb11 b10_p_aF_0
  have b11_p_aF_1 := cell_below hb11 b10_p_aF_1
  clear b10_p_aF_0 b10_p_aF_1
  have b11_x0_0 := cell_below hb11 b10_x0_0
  have b11_x0_1 := cell_below hb11 b10_x0_1
  clear b10_x0_0 b10_x0_1
  have new_x2 := hn11
  have lt_x2 := own_II_lt ho11
  go_wp2_with fail
  refine (derivativeAt_c (.agg #[.int .i64 x_aF.dim, .slice vPa_x0 vPl_x0 vPc_x0]) x_aF v10 x_aY v11 x_aVectors _ (own_Fld_rd (own_Fld_only ho8 (Only.of_below (fp := []) c11_x0) (by simp))) (own_I_rd (own_I_only ho10 (Only.of_below (fp := []) c11_x1) (by simp))) (own_II_rd ho11) fit_aF).mono ?_
  rintro e w12 ⟨v12, fp12, rfl, ho12, hn12, hb12⟩
  have HZ12 := Lib.hid hb12.size
  have c12_w := c11_w.trans (hb12.mono c11_w.size)
  have c12_w0 := c11_w0.trans (hb12.mono c11_w0.size)
  have c12_x0 := c11_x0.trans (hb12.mono c11_x0.size)
  have c12_x1 := c11_x1.trans (hb12.mono c11_x1.size)
  have c12_x2 := hb12
  have b12_p_aF_0 := cell_below hb12 b11_p_aF_0
  have b12_p_aF_1 := cell_below hb12 b11_p_aF_1
  clear b11_p_aF_0 b11_p_aF_1
  have b12_x0_0 := cell_below hb12 b11_x0_0
  have b12_x0_1 := cell_below hb12 b11_x0_1
  clear b11_x0_0 b11_x0_1
  have new_g0 := hn12
  have lt_g0 := own_I_lt ho12
  go_wp2_with fail
  refine (eq_I v12 v7 (derAtL x_aF x_aY x_aVectors) _ (own_I_rd ho12) (own_I_rd (own_I_only ho7 (Only.of_below (fp := []) c12_w0) (by simp)))).mono ?_
  rintro e w13 ⟨rfl, hb13⟩
  have HZ13 := Lib.hid hb13.size
  have c13_w := c12_w.trans (hb13.mono c12_w.size)
  have c13_w0 := c12_w0.trans (hb13.mono c12_w0.size)
  have c13_x0 := c12_x0.trans (hb13.mono c12_x0.size)
  have c13_x1 := c12_x1.trans (hb13.mono c12_x1.size)
  have c13_x2 := c12_x2.trans (hb13.mono c12_x2.size)
  have c13_g0 := hb13
  have b13_p_aF_0 := cell_below hb13 b12_p_aF_0
  have b13_p_aF_1 := cell_below hb13 b12_p_aF_1
  clear b12_p_aF_0 b12_p_aF_1
  have b13_x0_0 := cell_below hb13 b12_x0_0
  have b13_x0_1 := cell_below hb13 b12_x0_1
  clear b12_x0_0 b12_x0_1
  go_wp2_with fail
  go_region_held3 (fun w' => w'.cell? ⟨w8.heap.size, 0, none⟩ = some (.int .i64 x_aF.dim) ∧ w'.cell? ⟨w8.heap.size, 1, none⟩ = some (.slice vPa_x0 vPl_x0 vPc_x0) ∧ w'.cell? ⟨w0.heap.size, 0, none⟩ = some (.int .i64 x_aF.dim) ∧ w'.cell? ⟨w0.heap.size, 1, none⟩ = some (.slice vPa_aF vPl_aF vPc_aF)) (first | exact ⟨b13_x0_0, b13_x0_1, b13_p_aF_0, b13_p_aF_1⟩ | exact ⟨b14_x0_0, b14_x0_1, b14_p_aF_0, b14_p_aF_1⟩ | exact ⟨b15_x0_0, b15_x0_1, b15_p_aF_0, b15_p_aF_1⟩) (first | (refine (to_Fld (.agg #[.int .i64 x_aF.dim, .slice vPa_aF vPl_aF vPc_aF]) x_aF _ (rd_Fld_mono c13_w.drew h_aF) fit_aF).mono ?_; rintro e w14 ⟨v14, fp14, rfl, ho14, hn14d, hb14d⟩; have hn14 : ∀ g ∈ fp14, w13.heap.size ≤ g := hn14d; have hb14 : Below w13.heap.size w13 w14 := ⟨hb14d.os, hb14d.tape, hb14d.output, hb14d.size, hb14d.block⟩; clear hn14d hb14d; have HZ14 := Lib.hid hb14.size; have c14_w := c13_w.trans (hb14.mono c13_w.size); have c14_w0 := c13_w0.trans (hb14.mono c13_w0.size); have c14_x0 := c13_x0.trans (hb14.mono c13_x0.size); have c14_x1 := c13_x1.trans (hb14.mono c13_x1.size); have c14_x2 := c13_x2.trans (hb14.mono c13_x2.size); have c14_g0 := c13_g0.trans (hb14.mono c13_g0.size); have b14_p_aF_0 := cell_below hb14 b13_p_aF_0; have b14_p_aF_1 := cell_below hb14 b13_p_aF_1; clear b13_p_aF_0 b13_p_aF_1; have b14_x0_0 := cell_below hb14 b13_x0_0; have b14_x0_1 := cell_below hb14 b13_x0_1; clear b13_x0_0 b13_x0_1; have new_t14 := hn14; have lt_t14 := own_Fld_lt ho14; have ho14_k := ho14; obtain ⟨vP_t14, rfl, hI_t14, hoP_t14⟩ := ho14_k; obtain ⟨vPa_t14, vPl_t14, vPc_t14, rfl⟩ := ownMss_slice hoP_t14) | (refine (eq_Fld (.agg #[.int .i64 x_aF.dim, .slice vPa_x0 vPl_x0 vPc_x0]) (.agg #[.int .i64 x_aF.dim, .slice vPa_t14 vPl_t14 vPc_t14]) x_aF _ (own_Fld_rd (own_Fld_only ho8 (Only.of_below (fp := []) c14_x0) (by simp))) (own_Fld_rd ho14)).mono ?_; rintro e w15 ⟨rfl, hb15⟩; have HZ15 := Lib.hid hb15.size; have c15_w := c14_w.trans (hb15.mono c14_w.size); have c15_w0 := c14_w0.trans (hb15.mono c14_w0.size); have c15_x0 := c14_x0.trans (hb15.mono c14_x0.size); have c15_x1 := c14_x1.trans (hb15.mono c14_x1.size); have c15_x2 := c14_x2.trans (hb15.mono c14_x2.size); have c15_g0 := c14_g0.trans (hb15.mono c14_g0.size); have c15_t14 := hb15; have b15_p_aF_0 := cell_below hb15 b14_p_aF_0; have b15_p_aF_1 := cell_below hb15 b14_p_aF_1; clear b14_p_aF_0 b14_p_aF_1; have b15_x0_0 := cell_below hb15 b14_x0_0; have b15_x0_1 := cell_below hb15 b14_x0_1; clear b14_x0_0 b14_x0_1))
  go_wp2_with fail
  refine (to_I (.slice a_aY l_aY c_aY) x_aY _ (rd_I_mono c15_w h_aY) fit_aY).mono ?_
  rintro e w16 ⟨v16, fp16, rfl, ho16, hn16, hb16⟩
  have HZ16 := Lib.hid hb16.size
  have c16_w := c15_w.trans (hb16.mono c15_w.size)
  have c16_w0 := c15_w0.trans (hb16.mono c15_w0.size)
  have c16_x0 := c15_x0.trans (hb16.mono c15_x0.size)
  have c16_x1 := c15_x1.trans (hb16.mono c15_x1.size)
  have c16_x2 := c15_x2.trans (hb16.mono c15_x2.size)
  have c16_g0 := c15_g0.trans (hb16.mono c15_g0.size)
  have b16_p_aF_0 := cell_below hb16 b15_p_aF_0
  have b16_p_aF_1 := cell_below hb16 b15_p_aF_1
  clear b15_p_aF_0 b15_p_aF_1
  have b16_x0_0 := cell_below hb16 b15_x0_0
  have b16_x0_1 := cell_below hb16 b15_x0_1
  clear b15_x0_0 b15_x0_1
  have new_t16 := hn16
  have lt_t16 := own_I_lt ho16
  go_wp2_with fail
  refine (eq_I v10 v16 x_aY _ (own_I_rd (own_I_only ho10 (Only.of_below (fp := []) c16_x1) (by simp))) (own_I_rd ho16)).mono ?_
  rintro e w17 ⟨rfl, hb17⟩
  have HZ17 := Lib.hid hb17.size
  have c17_w := c16_w.trans (hb17.mono c16_w.size)
  have c17_w0 := c16_w0.trans (hb17.mono c16_w0.size)
  have c17_x0 := c16_x0.trans (hb17.mono c16_x0.size)
  have c17_x1 := c16_x1.trans (hb17.mono c16_x1.size)
  have c17_x2 := c16_x2.trans (hb17.mono c16_x2.size)
  have c17_g0 := c16_g0.trans (hb17.mono c16_g0.size)
  have c17_t16 := hb17
  have b17_p_aF_0 := cell_below hb17 b16_p_aF_0
  have b17_p_aF_1 := cell_below hb17 b16_p_aF_1
  clear b16_p_aF_0 b16_p_aF_1
  have b17_x0_0 := cell_below hb17 b16_x0_0
  have b17_x0_1 := cell_below hb17 b16_x0_1
  clear b16_x0_0 b16_x0_1
  go_wp2_with fail
  refine (to_II v_aVectors x_aVectors _ (rd_II_mono c17_w h_aVectors) fit_aVectors).mono ?_
  rintro e w18 ⟨v18, fp18, rfl, ho18, hn18, hb18⟩
  have HZ18 := Lib.hid hb18.size
  have c18_w := c17_w.trans (hb18.mono c17_w.size)
  have c18_w0 := c17_w0.trans (hb18.mono c17_w0.size)
  have c18_x0 := c17_x0.trans (hb18.mono c17_x0.size)
  have c18_x1 := c17_x1.trans (hb18.mono c17_x1.size)
  have c18_x2 := c17_x2.trans (hb18.mono c17_x2.size)
  have c18_g0 := c17_g0.trans (hb18.mono c17_g0.size)
  have b18_p_aF_0 := cell_below hb18 b17_p_aF_0
  have b18_p_aF_1 := cell_below hb18 b17_p_aF_1
  clear b17_p_aF_0 b17_p_aF_1
  have b18_x0_0 := cell_below hb18 b17_x0_0
  have b18_x0_1 := cell_below hb18 b17_x0_1
  clear b17_x0_0 b17_x0_1
  have new_t18 := hn18
  have lt_t18 := own_II_lt ho18
  go_wp2_with fail
  refine (eq_II v11 v18 x_aVectors _ (own_II_rd (own_II_only ho11 (Only.of_below (fp := []) c18_x2) (by simp))) (own_II_rd ho18)).mono ?_
  rintro e w19 ⟨rfl, hb19⟩
  have HZ19 := Lib.hid hb19.size
  have c19_w := c18_w.trans (hb19.mono c18_w.size)
  have c19_w0 := c18_w0.trans (hb19.mono c18_w0.size)
  have c19_x0 := c18_x0.trans (hb19.mono c18_x0.size)
  have c19_x1 := c18_x1.trans (hb19.mono c18_x1.size)
  have c19_x2 := c18_x2.trans (hb19.mono c18_x2.size)
  have c19_g0 := c18_g0.trans (hb19.mono c18_g0.size)
  have c19_t18 := hb19
  have b19_p_aF_0 := cell_below hb19 b18_p_aF_0
  have b19_p_aF_1 := cell_below hb19 b18_p_aF_1
  clear b18_p_aF_0 b18_p_aF_1
  have b19_x0_0 := cell_below hb19 b18_x0_0
  have b19_x0_1 := cell_below hb19 b18_x0_1
  clear b18_x0_0 b18_x0_1
  have hc_x0 := cnt_Fld_le fit_aF
  go_wp2_with fail
  refine (mark_Fld (.agg #[.int .i64 x_aF.dim, .slice vPa_x0 vPl_x0 vPc_x0]) x_aF fp8 _ _ (own_Fld_only ho8 (Only.of_below (fp := []) c19_x0) (by simp)) (by omega) (by omega)).mono ?_
  rintro e w20 ⟨rfl, ho20, hb20⟩
  have HZ20 := Lib.hid hb20.size
  have c20_w := c19_w.trans (hb20.below c19_w.size (fun g hg => by have := new_x0 g hg; have := HZ1.out; have := HZ2.out; have := HZ3.out; have := HZ4.out; have := HZ5.out; have := HZ6.out; have := HZ7.out; have := HZ8.out; have := HZ9.out; have := HZ10.out; have := HZ11.out; have := HZ12.out; have := HZ13.out; have := HZ14.out; have := HZ15.out; have := HZ16.out; have := HZ17.out; have := HZ18.out; have := HZ19.out; have := HZ20.out; omega))
  have c20_w0 := c19_w0.trans (hb20.below c19_w0.size (fun g hg => by have := new_x0 g hg; have := HZ1.out; have := HZ2.out; have := HZ3.out; have := HZ4.out; have := HZ5.out; have := HZ6.out; have := HZ7.out; have := HZ8.out; have := HZ9.out; have := HZ10.out; have := HZ11.out; have := HZ12.out; have := HZ13.out; have := HZ14.out; have := HZ15.out; have := HZ16.out; have := HZ17.out; have := HZ18.out; have := HZ19.out; have := HZ20.out; omega))
  have b20_p_aF_0 := cell_only hb20 (fun hm => by have := new_x0 _ hm; have := lt_x0 _ hm; have := HZ1.out; have := HZ2.out; have := HZ3.out; have := HZ4.out; have := HZ5.out; have := HZ6.out; have := HZ7.out; have := HZ8.out; have := HZ9.out; have := HZ10.out; have := HZ11.out; have := HZ12.out; have := HZ13.out; have := HZ14.out; have := HZ15.out; have := HZ16.out; have := HZ17.out; have := HZ18.out; have := HZ19.out; have := HZ20.out; omega) b19_p_aF_0
  have b20_p_aF_1 := cell_only hb20 (fun hm => by have := new_x0 _ hm; have := lt_x0 _ hm; have := HZ1.out; have := HZ2.out; have := HZ3.out; have := HZ4.out; have := HZ5.out; have := HZ6.out; have := HZ7.out; have := HZ8.out; have := HZ9.out; have := HZ10.out; have := HZ11.out; have := HZ12.out; have := HZ13.out; have := HZ14.out; have := HZ15.out; have := HZ16.out; have := HZ17.out; have := HZ18.out; have := HZ19.out; have := HZ20.out; omega) b19_p_aF_1
  clear b19_p_aF_0 b19_p_aF_1
  have b20_x0_0 := cell_only hb20 (fun hm => by have := new_x0 _ hm; have := lt_x0 _ hm; have := HZ1.out; have := HZ2.out; have := HZ3.out; have := HZ4.out; have := HZ5.out; have := HZ6.out; have := HZ7.out; have := HZ8.out; have := HZ9.out; have := HZ10.out; have := HZ11.out; have := HZ12.out; have := HZ13.out; have := HZ14.out; have := HZ15.out; have := HZ16.out; have := HZ17.out; have := HZ18.out; have := HZ19.out; have := HZ20.out; omega) b19_x0_0
  have b20_x0_1 := cell_only hb20 (fun hm => by have := new_x0 _ hm; have := lt_x0 _ hm; have := HZ1.out; have := HZ2.out; have := HZ3.out; have := HZ4.out; have := HZ5.out; have := HZ6.out; have := HZ7.out; have := HZ8.out; have := HZ9.out; have := HZ10.out; have := HZ11.out; have := HZ12.out; have := HZ13.out; have := HZ14.out; have := HZ15.out; have := HZ16.out; have := HZ17.out; have := HZ18.out; have := HZ19.out; have := HZ20.out; omega) b19_x0_1
  clear b19_x0_0 b19_x0_1
  have ho20_x1 := own_I_only (own_I_only ho10 (Only.of_below (fp := []) c19_x1) (by simp)) hb20 (fun b hb hm => by have := new_x1 b hb; have := lt_x0 b hm; have := HZ1.out; have := HZ2.out; have := HZ3.out; have := HZ4.out; have := HZ5.out; have := HZ6.out; have := HZ7.out; have := HZ8.out; have := HZ9.out; have := HZ10.out; have := HZ11.out; have := HZ12.out; have := HZ13.out; have := HZ14.out; have := HZ15.out; have := HZ16.out; have := HZ17.out; have := HZ18.out; have := HZ19.out; have := HZ20.out; omega)
  have ho20_x2 := own_II_only (own_II_only ho11 (Only.of_below (fp := []) c19_x2) (by simp)) hb20 (fun b hb hm => by have := new_x2 b hb; have := lt_x0 b hm; have := HZ1.out; have := HZ2.out; have := HZ3.out; have := HZ4.out; have := HZ5.out; have := HZ6.out; have := HZ7.out; have := HZ8.out; have := HZ9.out; have := HZ10.out; have := HZ11.out; have := HZ12.out; have := HZ13.out; have := HZ14.out; have := HZ15.out; have := HZ16.out; have := HZ17.out; have := HZ18.out; have := HZ19.out; have := HZ20.out; omega)
  have ho20_g0 := own_I_only (own_I_only ho12 (Only.of_below (fp := []) c19_g0) (by simp)) hb20 (fun b hb hm => by have := new_g0 b hb; have := lt_x0 b hm; have := HZ1.out; have := HZ2.out; have := HZ3.out; have := HZ4.out; have := HZ5.out; have := HZ6.out; have := HZ7.out; have := HZ8.out; have := HZ9.out; have := HZ10.out; have := HZ11.out; have := HZ12.out; have := HZ13.out; have := HZ14.out; have := HZ15.out; have := HZ16.out; have := HZ17.out; have := HZ18.out; have := HZ19.out; have := HZ20.out; omega)
  have hc_x1 := cnt_I_le fit_aY
  go_wp2_with fail
  refine (mark_I v10 x_aY fp10 _ _ ho20_x1 (by omega) (by omega)).mono ?_
  rintro e w21 ⟨rfl, ho21, hb21⟩
  have HZ21 := Lib.hid hb21.size
  have c21_w := c20_w.trans (hb21.below c20_w.size (fun g hg => by have := new_x1 g hg; have := HZ1.out; have := HZ2.out; have := HZ3.out; have := HZ4.out; have := HZ5.out; have := HZ6.out; have := HZ7.out; have := HZ8.out; have := HZ9.out; have := HZ10.out; have := HZ11.out; have := HZ12.out; have := HZ13.out; have := HZ14.out; have := HZ15.out; have := HZ16.out; have := HZ17.out; have := HZ18.out; have := HZ19.out; have := HZ20.out; have := HZ21.out; omega))
  have c21_w0 := c20_w0.trans (hb21.below c20_w0.size (fun g hg => by have := new_x1 g hg; have := HZ1.out; have := HZ2.out; have := HZ3.out; have := HZ4.out; have := HZ5.out; have := HZ6.out; have := HZ7.out; have := HZ8.out; have := HZ9.out; have := HZ10.out; have := HZ11.out; have := HZ12.out; have := HZ13.out; have := HZ14.out; have := HZ15.out; have := HZ16.out; have := HZ17.out; have := HZ18.out; have := HZ19.out; have := HZ20.out; have := HZ21.out; omega))
  have b21_p_aF_0 := cell_only hb21 (fun hm => by have := new_x1 _ hm; have := lt_x1 _ hm; have := HZ1.out; have := HZ2.out; have := HZ3.out; have := HZ4.out; have := HZ5.out; have := HZ6.out; have := HZ7.out; have := HZ8.out; have := HZ9.out; have := HZ10.out; have := HZ11.out; have := HZ12.out; have := HZ13.out; have := HZ14.out; have := HZ15.out; have := HZ16.out; have := HZ17.out; have := HZ18.out; have := HZ19.out; have := HZ20.out; have := HZ21.out; omega) b20_p_aF_0
  have b21_p_aF_1 := cell_only hb21 (fun hm => by have := new_x1 _ hm; have := lt_x1 _ hm; have := HZ1.out; have := HZ2.out; have := HZ3.out; have := HZ4.out; have := HZ5.out; have := HZ6.out; have := HZ7.out; have := HZ8.out; have := HZ9.out; have := HZ10.out; have := HZ11.out; have := HZ12.out; have := HZ13.out; have := HZ14.out; have := HZ15.out; have := HZ16.out; have := HZ17.out; have := HZ18.out; have := HZ19.out; have := HZ20.out; have := HZ21.out; omega) b20_p_aF_1
  clear b20_p_aF_0 b20_p_aF_1
  have b21_x0_0 := cell_only hb21 (fun hm => by have := new_x1 _ hm; have := lt_x1 _ hm; have := HZ1.out; have := HZ2.out; have := HZ3.out; have := HZ4.out; have := HZ5.out; have := HZ6.out; have := HZ7.out; have := HZ8.out; have := HZ9.out; have := HZ10.out; have := HZ11.out; have := HZ12.out; have := HZ13.out; have := HZ14.out; have := HZ15.out; have := HZ16.out; have := HZ17.out; have := HZ18.out; have := HZ19.out; have := HZ20.out; have := HZ21.out; omega) b20_x0_0
  have b21_x0_1 := cell_only hb21 (fun hm => by have := new_x1 _ hm; have := lt_x1 _ hm; have := HZ1.out; have := HZ2.out; have := HZ3.out; have := HZ4.out; have := HZ5.out; have := HZ6.out; have := HZ7.out; have := HZ8.out; have := HZ9.out; have := HZ10.out; have := HZ11.out; have := HZ12.out; have := HZ13.out; have := HZ14.out; have := HZ15.out; have := HZ16.out; have := HZ17.out; have := HZ18.out; have := HZ19.out; have := HZ20.out; have := HZ21.out; omega) b20_x0_1
  clear b20_x0_0 b20_x0_1
  have ho21_x2 := own_II_only ho20_x2 hb21 (fun b hb hm => by have := new_x2 b hb; have := lt_x1 b hm; have := HZ1.out; have := HZ2.out; have := HZ3.out; have := HZ4.out; have := HZ5.out; have := HZ6.out; have := HZ7.out; have := HZ8.out; have := HZ9.out; have := HZ10.out; have := HZ11.out; have := HZ12.out; have := HZ13.out; have := HZ14.out; have := HZ15.out; have := HZ16.out; have := HZ17.out; have := HZ18.out; have := HZ19.out; have := HZ20.out; have := HZ21.out; omega)
  have ho21_g0 := own_I_only ho20_g0 hb21 (fun b hb hm => by have := new_g0 b hb; have := lt_x1 b hm; have := HZ1.out; have := HZ2.out; have := HZ3.out; have := HZ4.out; have := HZ5.out; have := HZ6.out; have := HZ7.out; have := HZ8.out; have := HZ9.out; have := HZ10.out; have := HZ11.out; have := HZ12.out; have := HZ13.out; have := HZ14.out; have := HZ15.out; have := HZ16.out; have := HZ17.out; have := HZ18.out; have := HZ19.out; have := HZ20.out; have := HZ21.out; omega)
  have hc_x2 := cnt_II_le fit_aVectors
  go_wp2_with fail
  refine (mark_II v11 x_aVectors fp11 _ _ ho21_x2 (by omega) (by omega)).mono ?_
  rintro e w22 ⟨rfl, ho22, hb22⟩
  have HZ22 := Lib.hid hb22.size
  have c22_w := c21_w.trans (hb22.below c21_w.size (fun g hg => by have := new_x2 g hg; have := HZ1.out; have := HZ2.out; have := HZ3.out; have := HZ4.out; have := HZ5.out; have := HZ6.out; have := HZ7.out; have := HZ8.out; have := HZ9.out; have := HZ10.out; have := HZ11.out; have := HZ12.out; have := HZ13.out; have := HZ14.out; have := HZ15.out; have := HZ16.out; have := HZ17.out; have := HZ18.out; have := HZ19.out; have := HZ20.out; have := HZ21.out; have := HZ22.out; omega))
  have c22_w0 := c21_w0.trans (hb22.below c21_w0.size (fun g hg => by have := new_x2 g hg; have := HZ1.out; have := HZ2.out; have := HZ3.out; have := HZ4.out; have := HZ5.out; have := HZ6.out; have := HZ7.out; have := HZ8.out; have := HZ9.out; have := HZ10.out; have := HZ11.out; have := HZ12.out; have := HZ13.out; have := HZ14.out; have := HZ15.out; have := HZ16.out; have := HZ17.out; have := HZ18.out; have := HZ19.out; have := HZ20.out; have := HZ21.out; have := HZ22.out; omega))
  have b22_p_aF_0 := cell_only hb22 (fun hm => by have := new_x2 _ hm; have := lt_x2 _ hm; have := HZ1.out; have := HZ2.out; have := HZ3.out; have := HZ4.out; have := HZ5.out; have := HZ6.out; have := HZ7.out; have := HZ8.out; have := HZ9.out; have := HZ10.out; have := HZ11.out; have := HZ12.out; have := HZ13.out; have := HZ14.out; have := HZ15.out; have := HZ16.out; have := HZ17.out; have := HZ18.out; have := HZ19.out; have := HZ20.out; have := HZ21.out; have := HZ22.out; omega) b21_p_aF_0
  have b22_p_aF_1 := cell_only hb22 (fun hm => by have := new_x2 _ hm; have := lt_x2 _ hm; have := HZ1.out; have := HZ2.out; have := HZ3.out; have := HZ4.out; have := HZ5.out; have := HZ6.out; have := HZ7.out; have := HZ8.out; have := HZ9.out; have := HZ10.out; have := HZ11.out; have := HZ12.out; have := HZ13.out; have := HZ14.out; have := HZ15.out; have := HZ16.out; have := HZ17.out; have := HZ18.out; have := HZ19.out; have := HZ20.out; have := HZ21.out; have := HZ22.out; omega) b21_p_aF_1
  clear b21_p_aF_0 b21_p_aF_1
  have b22_x0_0 := cell_only hb22 (fun hm => by have := new_x2 _ hm; have := lt_x2 _ hm; have := HZ1.out; have := HZ2.out; have := HZ3.out; have := HZ4.out; have := HZ5.out; have := HZ6.out; have := HZ7.out; have := HZ8.out; have := HZ9.out; have := HZ10.out; have := HZ11.out; have := HZ12.out; have := HZ13.out; have := HZ14.out; have := HZ15.out; have := HZ16.out; have := HZ17.out; have := HZ18.out; have := HZ19.out; have := HZ20.out; have := HZ21.out; have := HZ22.out; omega) b21_x0_0
  have b22_x0_1 := cell_only hb22 (fun hm => by have := new_x2 _ hm; have := lt_x2 _ hm; have := HZ1.out; have := HZ2.out; have := HZ3.out; have := HZ4.out; have := HZ5.out; have := HZ6.out; have := HZ7.out; have := HZ8.out; have := HZ9.out; have := HZ10.out; have := HZ11.out; have := HZ12.out; have := HZ13.out; have := HZ14.out; have := HZ15.out; have := HZ16.out; have := HZ17.out; have := HZ18.out; have := HZ19.out; have := HZ20.out; have := HZ21.out; have := HZ22.out; omega) b21_x0_1
  clear b21_x0_0 b21_x0_1
  have ho22_g0 := own_I_only ho21_g0 hb22 (fun b hb hm => by have := new_g0 b hb; have := lt_x2 b hm; have := HZ1.out; have := HZ2.out; have := HZ3.out; have := HZ4.out; have := HZ5.out; have := HZ6.out; have := HZ7.out; have := HZ8.out; have := HZ9.out; have := HZ10.out; have := HZ11.out; have := HZ12.out; have := HZ13.out; have := HZ14.out; have := HZ15.out; have := HZ16.out; have := HZ17.out; have := HZ18.out; have := HZ19.out; have := HZ20.out; have := HZ21.out; have := HZ22.out; omega)
  go_wp2_with fail
  refine (eq_I v12 v7 (derAtL x_aF x_aY x_aVectors) _ (own_I_rd ho22_g0) (own_I_rd (own_I_only ho7 (Only.of_below (fp := []) c22_w0) (by simp)))).mono ?_
  rintro e w23 ⟨rfl, hb23⟩
  have HZ23 := Lib.hid hb23.size
  have c23_w := c22_w.trans (hb23.mono c22_w.size)
  have c23_w0 := c22_w0.trans (hb23.mono c22_w0.size)
  have c23_g0 := hb23
  have b23_p_aF_0 := cell_below hb23 b22_p_aF_0
  have b23_p_aF_1 := cell_below hb23 b22_p_aF_1
  clear b22_p_aF_0 b22_p_aF_1
  have b23_x0_0 := cell_below hb23 b22_x0_0
  have b23_x0_1 := cell_below hb23 b22_x0_1
  clear b22_x0_0 b22_x0_1
  have hc_g0 : cnt_I (derAtL x_aF x_aY x_aVectors) ≤ 10000000000000 := derAtL_cnt _ _ _
  go_wp2_with fail
  refine (mark_I v12 (derAtL x_aF x_aY x_aVectors) fp12 _ _ (own_I_only ho22_g0 (Only.of_below (fp := []) c23_g0) (by simp)) (by omega) (by omega)).mono ?_
  rintro e w24 ⟨rfl, ho24, hb24⟩
  have HZ24 := Lib.hid hb24.size
  have c24_w := c23_w.trans (hb24.below c23_w.size (fun g hg => by have := new_g0 g hg; have := HZ1.out; have := HZ2.out; have := HZ3.out; have := HZ4.out; have := HZ5.out; have := HZ6.out; have := HZ7.out; have := HZ8.out; have := HZ9.out; have := HZ10.out; have := HZ11.out; have := HZ12.out; have := HZ13.out; have := HZ14.out; have := HZ15.out; have := HZ16.out; have := HZ17.out; have := HZ18.out; have := HZ19.out; have := HZ20.out; have := HZ21.out; have := HZ22.out; have := HZ23.out; have := HZ24.out; omega))
  have c24_w0 := c23_w0.trans (hb24.below c23_w0.size (fun g hg => by have := new_g0 g hg; have := HZ1.out; have := HZ2.out; have := HZ3.out; have := HZ4.out; have := HZ5.out; have := HZ6.out; have := HZ7.out; have := HZ8.out; have := HZ9.out; have := HZ10.out; have := HZ11.out; have := HZ12.out; have := HZ13.out; have := HZ14.out; have := HZ15.out; have := HZ16.out; have := HZ17.out; have := HZ18.out; have := HZ19.out; have := HZ20.out; have := HZ21.out; have := HZ22.out; have := HZ23.out; have := HZ24.out; omega))
  have b24_p_aF_0 := cell_only hb24 (fun hm => by have := new_g0 _ hm; have := lt_g0 _ hm; have := HZ1.out; have := HZ2.out; have := HZ3.out; have := HZ4.out; have := HZ5.out; have := HZ6.out; have := HZ7.out; have := HZ8.out; have := HZ9.out; have := HZ10.out; have := HZ11.out; have := HZ12.out; have := HZ13.out; have := HZ14.out; have := HZ15.out; have := HZ16.out; have := HZ17.out; have := HZ18.out; have := HZ19.out; have := HZ20.out; have := HZ21.out; have := HZ22.out; have := HZ23.out; have := HZ24.out; omega) b23_p_aF_0
  have b24_p_aF_1 := cell_only hb24 (fun hm => by have := new_g0 _ hm; have := lt_g0 _ hm; have := HZ1.out; have := HZ2.out; have := HZ3.out; have := HZ4.out; have := HZ5.out; have := HZ6.out; have := HZ7.out; have := HZ8.out; have := HZ9.out; have := HZ10.out; have := HZ11.out; have := HZ12.out; have := HZ13.out; have := HZ14.out; have := HZ15.out; have := HZ16.out; have := HZ17.out; have := HZ18.out; have := HZ19.out; have := HZ20.out; have := HZ21.out; have := HZ22.out; have := HZ23.out; have := HZ24.out; omega) b23_p_aF_1
  clear b23_p_aF_0 b23_p_aF_1
  have b24_x0_0 := cell_only hb24 (fun hm => by have := new_g0 _ hm; have := lt_g0 _ hm; have := HZ1.out; have := HZ2.out; have := HZ3.out; have := HZ4.out; have := HZ5.out; have := HZ6.out; have := HZ7.out; have := HZ8.out; have := HZ9.out; have := HZ10.out; have := HZ11.out; have := HZ12.out; have := HZ13.out; have := HZ14.out; have := HZ15.out; have := HZ16.out; have := HZ17.out; have := HZ18.out; have := HZ19.out; have := HZ20.out; have := HZ21.out; have := HZ22.out; have := HZ23.out; have := HZ24.out; omega) b23_x0_0
  have b24_x0_1 := cell_only hb24 (fun hm => by have := new_g0 _ hm; have := lt_g0 _ hm; have := HZ1.out; have := HZ2.out; have := HZ3.out; have := HZ4.out; have := HZ5.out; have := HZ6.out; have := HZ7.out; have := HZ8.out; have := HZ9.out; have := HZ10.out; have := HZ11.out; have := HZ12.out; have := HZ13.out; have := HZ14.out; have := HZ15.out; have := HZ16.out; have := HZ17.out; have := HZ18.out; have := HZ19.out; have := HZ20.out; have := HZ21.out; have := HZ22.out; have := HZ23.out; have := HZ24.out; omega) b23_x0_1
  clear b23_x0_0 b23_x0_1
  go_wp2_with fail
  refine (held_I v12 (derAtL x_aF x_aY x_aVectors) 1 _ (own_I_rd ho24) (by omega) (by omega)).mono ?_
  rintro e w25 ⟨rfl, hb25⟩
  have HZ25 := Lib.hid hb25.size
  have c25_w := c24_w.trans (hb25.mono c24_w.size)
  have c25_w0 := c24_w0.trans (hb25.mono c24_w0.size)
  have c25_g0 := hb25
  have b25_p_aF_0 := cell_below hb25 b24_p_aF_0
  have b25_p_aF_1 := cell_below hb25 b24_p_aF_1
  clear b24_p_aF_0 b24_p_aF_1
  have b25_x0_0 := cell_below hb25 b24_x0_0
  have b25_x0_1 := cell_below hb25 b24_x0_1
  clear b24_x0_0 b24_x0_1
  go_wp2_with fail
  refine (to_Fld (.agg #[.int .i64 x_aF.dim, .slice vPa_aF vPl_aF vPc_aF]) x_aF _ (rd_Fld_mono c25_w h_aF) fit_aF).mono ?_
  rintro e w26 ⟨v26, fp26, rfl, ho26, hn26, hb26⟩
  have HZ26 := Lib.hid hb26.size
  have c26_w := c25_w.trans (hb26.mono c25_w.size)
  have c26_w0 := c25_w0.trans (hb26.mono c25_w0.size)
  have c26_g0 := c25_g0.trans (hb26.mono c25_g0.size)
  have b26_p_aF_0 := cell_below hb26 b25_p_aF_0
  have b26_p_aF_1 := cell_below hb26 b25_p_aF_1
  clear b25_p_aF_0 b25_p_aF_1
  have b26_x0_0 := cell_below hb26 b25_x0_0
  have b26_x0_1 := cell_below hb26 b25_x0_1
  clear b25_x0_0 b25_x0_1
  have new_t26 := hn26
  have lt_t26 := own_Fld_lt ho26
  have ho26_k := ho26
  obtain ⟨vP_t26, rfl, hI_t26, hoP_t26⟩ := ho26_k
  obtain ⟨vPa_t26, vPl_t26, vPc_t26, rfl⟩ := ownMss_slice hoP_t26
  go_wp2_with fail
  refine (to_I (.slice a_aY l_aY c_aY) x_aY _ (rd_I_mono c26_w h_aY) fit_aY).mono ?_
  rintro e w27 ⟨v27, fp27, rfl, ho27, hn27, hb27⟩
  have HZ27 := Lib.hid hb27.size
  have c27_w := c26_w.trans (hb27.mono c26_w.size)
  have c27_w0 := c26_w0.trans (hb27.mono c26_w0.size)
  have c27_g0 := c26_g0.trans (hb27.mono c26_g0.size)
  have c27_t26 := hb27
  have b27_p_aF_0 := cell_below hb27 b26_p_aF_0
  have b27_p_aF_1 := cell_below hb27 b26_p_aF_1
  clear b26_p_aF_0 b26_p_aF_1
  have b27_x0_0 := cell_below hb27 b26_x0_0
  have b27_x0_1 := cell_below hb27 b26_x0_1
  clear b26_x0_0 b26_x0_1
  have new_t27 := hn27
  have lt_t27 := own_I_lt ho27
  go_wp2_with fail
  refine (to_II v_aVectors x_aVectors _ (rd_II_mono c27_w h_aVectors) fit_aVectors).mono ?_
  rintro e w28 ⟨v28, fp28, rfl, ho28, hn28, hb28⟩
  have HZ28 := Lib.hid hb28.size
  have c28_w := c27_w.trans (hb28.mono c27_w.size)
  have c28_w0 := c27_w0.trans (hb28.mono c27_w0.size)
  have c28_g0 := c27_g0.trans (hb28.mono c27_g0.size)
  have c28_t26 := c27_t26.trans (hb28.mono c27_t26.size)
  have c28_t27 := hb28
  have b28_p_aF_0 := cell_below hb28 b27_p_aF_0
  have b28_p_aF_1 := cell_below hb28 b27_p_aF_1
  clear b27_p_aF_0 b27_p_aF_1
  have b28_x0_0 := cell_below hb28 b27_x0_0
  have b28_x0_1 := cell_below hb28 b27_x0_1
  clear b27_x0_0 b27_x0_1
  have new_t28 := hn28
  have lt_t28 := own_II_lt ho28
  go_wp2_with fail
  refine (derivativeAt_c (.agg #[.int .i64 x_aF.dim, .slice vPa_t26 vPl_t26 vPc_t26]) x_aF v27 x_aY v28 x_aVectors _ (own_Fld_rd (own_Fld_only ho26 (Only.of_below (fp := []) c28_t26) (by simp))) (own_I_rd (own_I_only ho27 (Only.of_below (fp := []) c28_t27) (by simp))) (own_II_rd ho28) fit_aF).mono ?_
  rintro e w29 ⟨v29, fp29, rfl, ho29, hn29, hb29⟩
  have HZ29 := Lib.hid hb29.size
  have c29_w := c28_w.trans (hb29.mono c28_w.size)
  have c29_w0 := c28_w0.trans (hb29.mono c28_w0.size)
  have c29_g0 := c28_g0.trans (hb29.mono c28_g0.size)
  have c29_t26 := c28_t26.trans (hb29.mono c28_t26.size)
  have c29_t27 := c28_t27.trans (hb29.mono c28_t27.size)
  have c29_t28 := hb29
  have b29_p_aF_0 := cell_below hb29 b28_p_aF_0
  have b29_p_aF_1 := cell_below hb29 b28_p_aF_1
  clear b28_p_aF_0 b28_p_aF_1
  have b29_x0_0 := cell_below hb29 b28_x0_0
  have b29_x0_1 := cell_below hb29 b28_x0_1
  clear b28_x0_0 b28_x0_1
  have new_h0 := hn29
  have lt_h0 := own_I_lt ho29
  go_wp2_with fail
  refine (eq_I v29 v7 (derAtL x_aF x_aY x_aVectors) _ (own_I_rd ho29) (own_I_rd (own_I_only ho7 (Only.of_below (fp := []) c29_w0) (by simp)))).mono ?_
  rintro e w30 ⟨rfl, hb30⟩
  have HZ30 := Lib.hid hb30.size
  have c30_w := c29_w.trans (hb30.mono c29_w.size)
  have c30_w0 := c29_w0.trans (hb30.mono c29_w0.size)
  have c30_g0 := c29_g0.trans (hb30.mono c29_g0.size)
  have c30_h0 := hb30
  have b30_p_aF_0 := cell_below hb30 b29_p_aF_0
  have b30_p_aF_1 := cell_below hb30 b29_p_aF_1
  clear b29_p_aF_0 b29_p_aF_1
  have b30_x0_0 := cell_below hb30 b29_x0_0
  have b30_x0_1 := cell_below hb30 b29_x0_1
  clear b29_x0_0 b29_x0_1
  go_wp2_with fail
  refine (held_I v12 (derAtL x_aF x_aY x_aVectors) 1 _ (own_I_rd (own_I_only ho24 (Only.of_below (fp := []) c30_g0) (by simp))) (by omega) (by omega)).mono ?_
  rintro e w31 ⟨rfl, hb31⟩
  have HZ31 := Lib.hid hb31.size
  have c31_w := c30_w.trans (hb31.mono c30_w.size)
  have c31_w0 := c30_w0.trans (hb31.mono c30_w0.size)
  have c31_g0 := c30_g0.trans (hb31.mono c30_g0.size)
  have c31_h0 := c30_h0.trans (hb31.mono c30_h0.size)
  have b31_p_aF_0 := cell_below hb31 b30_p_aF_0
  have b31_p_aF_1 := cell_below hb31 b30_p_aF_1
  clear b30_p_aF_0 b30_p_aF_1
  have b31_x0_0 := cell_below hb31 b30_x0_0
  have b31_x0_1 := cell_below hb31 b30_x0_1
  clear b30_x0_0 b30_x0_1
  go_wp2
  go_ret
  exact ⟨rfl, c31_w⟩

set_option maxRecDepth 100000 in
theorem fnExactDerivativeAt_lifted (os : Os) (started : os.Started) (H : Type) (enc : TypeId × Value → H) :
    ReturnsInHanded {} Try.checked os 9 .any (Rows.fnExactDerivativeAtSpec.pre6 enc Try.prog Try.f9 Rows.fnExactDerivativeAtRow.domain false) (Rows.fnExactDerivativeAtSpec.post enc Try.prog Try.f9 false true false false) := by
  refine returnsInHanded_of_change (C := Try.checked) Try.own started (by kernel_rfl) Try.func9
    (ChangeSpec.witness6 (enc := enc) (C := Try.checked) false ⟨#[], #[.agg #[.int .i64 0, .slice none 0 0], .slice none 0 0, .slice none 0 0], []⟩ 8 (by kernel_rfl) (by kernel_rfl) (by kernel_rfl) (by kernel_rfl)) ?_
  intro W base args ds gs before hval0 hW hcnd _
  have hval : ∀ (j : Nat) t v, Try.f9.params[j]? = some t → args[j]? = some v → Value.okWide Try.prog W .any base t v := hval0
  have hW' := hW
  obtain ⟨p, q, hA0, hV, rfl, hfz, hnd⟩ := hW
  have hA : DataW.TrodAll enc Try.prog W 0 (fun _ => true) true Try.f9.params.toList args.toList ds p := hA0
  rw [Try.params9] at hA hval
  obtain ⟨v0, vs0, d0, ds0, p0, q0, hargs, rfl, rfl, h0, r0⟩ := trodAll_cons hA
  obtain ⟨v1, vs1, d1, ds1, p1, q1, rfl, rfl, rfl, h1, r1⟩ := trodAll_cons r0
  obtain ⟨v2, vs2, d2, ds2, p2, q2, rfl, rfl, rfl, h2, r2⟩ := trodAll_cons r1
  obtain ⟨rfl, rfl, rfl⟩ := trodAll_nil r2
  obtain rfl : args = #[v0, v1, v2] := by cases args; simp_all
  obtain ⟨rfl, rfl⟩ := trodVars_none hV
  have lt0 : ∀ x ∈ p0, x.block < W.heap.size := by obtain ⟨m, hm⟩ := h0; exact DataW.trod_lt m _ _ _ hm
  have k0 := h0
  obtain ⟨x0, w0⟩ := fld_arg (hval 0 32 v0 rfl rfl) h0
  have lt1 : ∀ x ∈ p1, x.block < W.heap.size := by obtain ⟨m, hm⟩ := h1; exact DataW.trod_lt m _ _ _ hm
  have k1 := h1
  obtain ⟨x1, w1⟩ := rdS_of_arg Try.underlying24 Try.cells_int (by omega) (elI_of_trod Try.underlying3) (hval 1 24 v1 rfl rfl) h1
  have lt2 : ∀ x ∈ p2, x.block < W.heap.size := by obtain ⟨m, hm⟩ := h2; exact DataW.trod_lt m _ _ _ hm
  have k2 := h2
  obtain ⟨x2, w2⟩ := rdS_of_arg Try.underlying22 Try.cells_ints (by omega) (elII_of_trod Try.underlying24 Try.underlying3 Try.cells_int) (hval 2 22 v2 rfl rfl) h2
  clear hA0 hval0
  refine (fnExactDerivativeAt_walk v0 x0 v1 x1 v2 x2 W w0 w1 w2).mono fun e W' ⟨he, bel⟩ => ?_
  subst he
  exact ⟨_, rfl, _, _, _, [], _, [], hW', trodAll_mk1 (shut_bool Try.underlying4 _), (trodAll_cons_mk (Below.trod Try.laidOut (by kernel_rfl) (of_decide_eq_true (by kernel_rfl)) k0 bel lt0) (trodAll_cons_mk (Below.trod Try.laidOut (by kernel_rfl) (of_decide_eq_true (by kernel_rfl)) k1 bel lt1) (trodAll_cons_mk (Below.trod Try.laidOut (by kernel_rfl) (of_decide_eq_true (by kernel_rfl)) k2 bel lt2) trodAll_mk0))), rfl, bel.frame _, fun h => by cases h⟩

theorem fnExactDerivativeAt_holds : Rows.FnExactDerivativeAtSaid :=
  OpenClaim.holds_of_wide 9 Try.f9 rfl rfl rfl rfl rfl rfl rfl ⟨rfl, rfl, rfl, rfl, rfl⟩ rfl rfl rfl rfl rfl (by kernel_rfl) Try.func9 (by kernel_rfl)
    (of_decide_eq_true (by kernel_rfl)) (by unfold Func.isWrapper; first | (rw [if_pos (by decide +kernel)]; kernel_rfl) | (rw [if_neg (by decide +kernel)]; exact ⟨rfl, rfl⟩))
    (fun os started H enc _ => fnExactDerivativeAt_lifted os started H enc)

#print axioms fnExactDerivativeAt_holds
end Go.Proofs.Ytdaaamdighojdaa
