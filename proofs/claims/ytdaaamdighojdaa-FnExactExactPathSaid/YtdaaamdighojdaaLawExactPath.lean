/- The law FnExactExactPath returns true for every field, point, order and time, and changes nothing that was there. Conditions: none. -/
import Derived.Test.YtdaaamdighojdaaSEx
import Derived.Test.YtdaaamdighojdaaKinds
import Derived.Test.YtdaaamdighojdaaShut
import Derived.Test.YtdaaamdighojdaaOpenF
namespace Go.Proofs.Ytdaaamdighojdaa
open Go.ChangeShapes Go.WideShapes Go.ChangeAt Go.RowKit

theorem exactL_cnt (f : FldZ) (y : List Int) (order t : Int) : cnt_II (exactL f y order t) ≤ 10000000000000 := by
  unfold exactL
  split
  · rename_i hd
    simp only [Bool.and_eq_true, ordB, decide_eq_true_eq] at hd
    obtain ⟨n, f1, f2, f3, f4, f5, f6⟩ := fpOk_facts hd.1
    obtain ⟨_, _, q3, _⟩ := pathOk_facts f6
    have hy : y.length = n := q3 y (by simp)
    refine Nat.le_trans (cntII_le (n := 7) (m := 6) (by simp [exSt]; omega) (fun x hx => ?_)) (by omega)
    simp only [exSt, List.mem_map] at hx
    obtain ⟨i, _, rfl⟩ := hx
    simp
    omega
  · simp [cnt_II, cntII]
theorem sExactPath_c (v : Value) (f : FldZ) (u : Value) (y : List Int) (o t : Int) (w : World) (h : Rd_Fld w v f) (g : Rd_I w u y) :
    Calls Try.prog 48 #[v, u, .int .i64 o, .int .i64 t] w (Gives (fun w' v fp => Own_II w' v (exactL f y o t) fp) w) := sExact_any v u f y o t w h g
theorem exactPath_c (v : Value) (f : FldZ) (u : Value) (y : List Int) (o t : Int) (w : World) (h : Rd_Fld w v f) (g : Rd_I w u y) (hf : Fit_Fld f) :
    Calls Try.prog 49 #[v, u, .int .i64 o, .int .i64 t] w (Gives (fun w' v fp => Own_II w' v (exactL f y o t) fp) w) := exact_any v u f y o t w h g (fun p hp m hm => (hf.2.1 p hp).2 m hm)

set_option maxRecDepth 100000 in
set_option maxHeartbeats 4000000 in
theorem fnExactExactPath_walk (v_aF : Value) (x_aF : FldZ) (v_aY : Value) (x_aY : List Int) (n_aOrder : Int) (n_aT : Int) (w0 : World) (h_aF : Rd_Fld w0 v_aF x_aF) (h_aY : Rd_I w0 v_aY x_aY) (i_aOrder : I64 n_aOrder) (i_aT : I64 n_aT) :
    Calls Try.prog 11 #[v_aF, v_aY, .int .i64 n_aOrder, .int .i64 n_aT] w0 fun e w' => e = .returned (.bool true) ∧ Below w0.heap.size w0 w' := by
  have h_aF_k := h_aF
  obtain ⟨vP_aF, rfl, hI_aF, hP_aF⟩ := h_aF_k
  obtain ⟨vPa_aF, vPl_aF, vPc_aF, rfl⟩ := rdMss_slice hP_aF
  obtain ⟨a_aY, l_aY, c_aY, rfl, hl_aY, _, _, h_aY⟩ := rdS_open h_aY
  by_cases big_aY : 1048576 < l_aY
  · have big_i : (1048576 : Int) < l_aY := by omega
    go_enter Try.func11, Try.ntmps11
    go_wp2
    go_ret
    exact ⟨rfl, ((Below.refl _ _).alloc (Nat.le_refl _) _)⟩
  have bigI_aY : ¬ ((1048576 : Int) < l_aY) := by omega
  have fit_aY : Fit_I x_aY := by unfold Fit_I; omega
  go_enter Try.func11, Try.ntmps11
  go_wp2_with fail
  obtain ⟨w1, hw1⟩ : ∃ W, W = w0.alloc (.cells #[.int .i64 x_aF.dim, .slice vPa_aF vPl_aF vPc_aF] 32) := ⟨_, rfl⟩
  rw [← hw1]
  have hb1 : Below w0.heap.size w0 w1 := hw1 ▸ (Below.refl _ _).alloc (Nat.le_refl _) _
  have HZ1 : Hid (w0.heap.size + 1 ≤ w1.heap.size) := Lib.hid (by rw [hw1]; simp)
  have b1_p_aF_0 : w1.cell? ⟨w0.heap.size, 0, none⟩ = some (.int .i64 x_aF.dim) := by rw [hw1]; simp
  have b1_p_aF_1 : w1.cell? ⟨w0.heap.size, 1, none⟩ = some (.slice vPa_aF vPl_aF vPc_aF) := by rw [hw1]; simp
  clear hw1
  have c1_w := hb1
  go_wp2_with fail
  refine (sz_Fld (.agg #[.int .i64 x_aF.dim, .slice vPa_aF vPl_aF vPc_aF]) x_aF 1048576 _ (rd_Fld_mono c1_w h_aF) (by omega) (by omega)).mono ?_
  rintro e w2 ⟨r2, rfl, hr2, hb2⟩
  have HZ2 := Lib.hid hb2.size
  have c2_w := c1_w.trans (hb2.mono c1_w.size)
  have b2_p_aF_0 := cell_below hb2 b1_p_aF_0
  have b2_p_aF_1 := cell_below hb2 b1_p_aF_1
  clear b1_p_aF_0 b1_p_aF_1
  rcases hr2 with rfl | ⟨hra2, hrb2, fit_aF⟩
  · go_wp2
    go_ret
    exact ⟨rfl, c2_w⟩
  go_wp2_with fail
  refine (to_Fld (.agg #[.int .i64 x_aF.dim, .slice vPa_aF vPl_aF vPc_aF]) x_aF _ (rd_Fld_mono c2_w h_aF) fit_aF).mono ?_
  rintro e w3 ⟨v3, fp3, rfl, ho3, hn3, hb3⟩
  have HZ3 := Lib.hid hb3.size
  have c3_w := c2_w.trans (hb3.mono c2_w.size)
  have b3_p_aF_0 := cell_below hb3 b2_p_aF_0
  have b3_p_aF_1 := cell_below hb3 b2_p_aF_1
  clear b2_p_aF_0 b2_p_aF_1
  have new_t3 := hn3
  have lt_t3 := own_Fld_lt ho3
  have ho3_k := ho3
  obtain ⟨vP_t3, rfl, hI_t3, hoP_t3⟩ := ho3_k
  obtain ⟨vPa_t3, vPl_t3, vPc_t3, rfl⟩ := ownMss_slice hoP_t3
  go_wp2_with fail
  refine (to_I (.slice a_aY l_aY c_aY) x_aY _ (rd_I_mono c3_w h_aY) fit_aY).mono ?_
  rintro e w4 ⟨v4, fp4, rfl, ho4, hn4, hb4⟩
  have HZ4 := Lib.hid hb4.size
  have c4_w := c3_w.trans (hb4.mono c3_w.size)
  have c4_t3 := hb4
  have b4_p_aF_0 := cell_below hb4 b3_p_aF_0
  have b4_p_aF_1 := cell_below hb4 b3_p_aF_1
  clear b3_p_aF_0 b3_p_aF_1
  have new_t4 := hn4
  have lt_t4 := own_I_lt ho4
  go_wp2_with fail
  refine (sExactPath_c (.agg #[.int .i64 x_aF.dim, .slice vPa_t3 vPl_t3 vPc_t3]) x_aF v4 x_aY n_aOrder n_aT _ (own_Fld_rd (own_Fld_only ho3 (Only.of_below (fp := []) c4_t3) (by simp))) (own_I_rd ho4) ).mono ?_
  rintro e w5 ⟨v5, fp5, rfl, ho5, hn5, hb5⟩
  have HZ5 := Lib.hid hb5.size
  have c5_w := c4_w.trans (hb5.mono c4_w.size)
  have c5_t3 := c4_t3.trans (hb5.mono c4_t3.size)
  have c5_t4 := hb5
  have b5_p_aF_0 := cell_below hb5 b4_p_aF_0
  have b5_p_aF_1 := cell_below hb5 b4_p_aF_1
  clear b4_p_aF_0 b4_p_aF_1
  have new_w0 := hn5
  have lt_w0 := own_II_lt ho5
  go_wp2_with fail
  refine (to_Fld (.agg #[.int .i64 x_aF.dim, .slice vPa_aF vPl_aF vPc_aF]) x_aF _ (rd_Fld_mono c5_w h_aF) fit_aF).mono ?_
  rintro e w6 ⟨v6, fp6, rfl, ho6, hn6, hb6⟩
  have HZ6 := Lib.hid hb6.size
  have c6_w := c5_w.trans (hb6.mono c5_w.size)
  have c6_w0 := hb6
  have b6_p_aF_0 := cell_below hb6 b5_p_aF_0
  have b6_p_aF_1 := cell_below hb6 b5_p_aF_1
  clear b5_p_aF_0 b5_p_aF_1
  have new_x0 := hn6
  have lt_x0 := own_Fld_lt ho6
  have ho6_k := ho6
  obtain ⟨vP_x0, rfl, hI_x0, hoP_x0⟩ := ho6_k
  obtain ⟨vPa_x0, vPl_x0, vPc_x0, rfl⟩ := ownMss_slice hoP_x0
  go_wp2_with fail
  obtain ⟨w7, hw7⟩ : ∃ W, W = w6.alloc (.cells #[.int .i64 x_aF.dim, .slice vPa_x0 vPl_x0 vPc_x0] 37) := ⟨_, rfl⟩
  rw [← hw7]
  have hb7 : Below w6.heap.size w6 w7 := hw7 ▸ (Below.refl _ _).alloc (Nat.le_refl _) _
  have HZ7 : Hid (w6.heap.size + 1 ≤ w7.heap.size) := Lib.hid (by rw [hw7]; simp)
  have b7_x0_0 : w7.cell? ⟨w6.heap.size, 0, none⟩ = some (.int .i64 x_aF.dim) := by rw [hw7]; simp
  have b7_x0_1 : w7.cell? ⟨w6.heap.size, 1, none⟩ = some (.slice vPa_x0 vPl_x0 vPc_x0) := by rw [hw7]; simp
  clear hw7
  have c7_w := c6_w.trans (hb7.mono c6_w.size)
  have c7_w0 := c6_w0.trans (hb7.mono c6_w0.size)
  have c7_x0 := hb7
  have b7_p_aF_0 := cell_below hb7 b6_p_aF_0
  have b7_p_aF_1 := cell_below hb7 b6_p_aF_1
  clear b6_p_aF_0 b6_p_aF_1
  go_wp2_with fail
  refine (to_I (.slice a_aY l_aY c_aY) x_aY _ (rd_I_mono c7_w h_aY) fit_aY).mono ?_
  rintro e w8 ⟨v8, fp8, rfl, ho8, hn8, hb8⟩
  have HZ8 := Lib.hid hb8.size
  have c8_w := c7_w.trans (hb8.mono c7_w.size)
  have c8_w0 := c7_w0.trans (hb8.mono c7_w0.size)
  have c8_x0 := c7_x0.trans (hb8.mono c7_x0.size)
  have b8_p_aF_0 := cell_below hb8 b7_p_aF_0
  have b8_p_aF_1 := cell_below hb8 b7_p_aF_1
  clear b7_p_aF_0 b7_p_aF_1
  have b8_x0_0 := cell_below hb8 b7_x0_0
  have b8_x0_1 := cell_below hb8 b7_x0_1
  clear b7_x0_0 b7_x0_1
  have new_x1 := hn8
  have lt_x1 := own_I_lt ho8
  go_wp2_with fail
  refine (exactPath_c (.agg #[.int .i64 x_aF.dim, .slice vPa_x0 vPl_x0 vPc_x0]) x_aF v8 x_aY n_aOrder n_aT _ (own_Fld_rd (own_Fld_only ho6 (Only.of_below (fp := []) c8_x0) (by simp))) (own_I_rd ho8) fit_aF).mono ?_
  rintro e w9 ⟨v9, fp9, rfl, ho9, hn9, hb9⟩
  have HZ9 := Lib.hid hb9.size
  have c9_w := c8_w.trans (hb9.mono c8_w.size)
  have c9_w0 := c8_w0.trans (hb9.mono c8_w0.size)
  have c9_x0 := c8_x0.trans (hb9.mono c8_x0.size)
  have c9_x1 := hb9
  have b9_p_aF_0 := cell_below hb9 b8_p_aF_0
  have b9_p_aF_1 := cell_below hb9 b8_p_aF_1
  clear b8_p_aF_0 b8_p_aF_1
  have b9_x0_0 := cell_below hb9 b8_x0_0
  have b9_x0_1 := cell_below hb9 b8_x0_1
  clear b8_x0_0 b8_x0_1
  have new_g0 := hn9
  have lt_g0 := own_II_lt ho9
  go_wp2_with fail
  refine (eq_II v9 v5 (exactL x_aF x_aY n_aOrder n_aT) _ (own_II_rd ho9) (own_II_rd (own_II_only ho5 (Only.of_below (fp := []) c9_w0) (by simp)))).mono ?_
  rintro e w10 ⟨rfl, hb10⟩
  have HZ10 := Lib.hid hb10.size
  have c10_w := c9_w.trans (hb10.mono c9_w.size)
  have c10_w0 := c9_w0.trans (hb10.mono c9_w0.size)
  have c10_x0 := c9_x0.trans (hb10.mono c9_x0.size)
  have c10_x1 := c9_x1.trans (hb10.mono c9_x1.size)
  have c10_g0 := hb10
  have b10_p_aF_0 := cell_below hb10 b9_p_aF_0
  have b10_p_aF_1 := cell_below hb10 b9_p_aF_1
  clear b9_p_aF_0 b9_p_aF_1
  have b10_x0_0 := cell_below hb10 b9_x0_0
  have b10_x0_1 := cell_below hb10 b9_x0_1
  clear b9_x0_0 b9_x0_1
  go_wp2_with fail
  go_region_held3 (fun w' => w'.cell? ⟨w6.heap.size, 0, none⟩ = some (.int .i64 x_aF.dim) ∧ w'.cell? ⟨w6.heap.size, 1, none⟩ = some (.slice vPa_x0 vPl_x0 vPc_x0) ∧ w'.cell? ⟨w0.heap.size, 0, none⟩ = some (.int .i64 x_aF.dim) ∧ w'.cell? ⟨w0.heap.size, 1, none⟩ = some (.slice vPa_aF vPl_aF vPc_aF)) (first | exact ⟨b10_x0_0, b10_x0_1, b10_p_aF_0, b10_p_aF_1⟩ | exact ⟨b11_x0_0, b11_x0_1, b11_p_aF_0, b11_p_aF_1⟩ | exact ⟨b12_x0_0, b12_x0_1, b12_p_aF_0, b12_p_aF_1⟩) (first | (refine (to_Fld (.agg #[.int .i64 x_aF.dim, .slice vPa_aF vPl_aF vPc_aF]) x_aF _ (rd_Fld_mono c10_w.drew h_aF) fit_aF).mono ?_; rintro e w11 ⟨v11, fp11, rfl, ho11, hn11d, hb11d⟩; have hn11 : ∀ g ∈ fp11, w10.heap.size ≤ g := hn11d; have hb11 : Below w10.heap.size w10 w11 := ⟨hb11d.os, hb11d.tape, hb11d.output, hb11d.size, hb11d.block⟩; clear hn11d hb11d; have HZ11 := Lib.hid hb11.size; have c11_w := c10_w.trans (hb11.mono c10_w.size); have c11_w0 := c10_w0.trans (hb11.mono c10_w0.size); have c11_x0 := c10_x0.trans (hb11.mono c10_x0.size); have c11_x1 := c10_x1.trans (hb11.mono c10_x1.size); have c11_g0 := c10_g0.trans (hb11.mono c10_g0.size); have b11_p_aF_0 := cell_below hb11 b10_p_aF_0; have b11_p_aF_1 := cell_below hb11 b10_p_aF_1; clear b10_p_aF_0 b10_p_aF_1; have b11_x0_0 := cell_below hb11 b10_x0_0; have b11_x0_1 := cell_below hb11 b10_x0_1; clear b10_x0_0 b10_x0_1; have new_t11 := hn11; have lt_t11 := own_Fld_lt ho11; have ho11_k := ho11; obtain ⟨vP_t11, rfl, hI_t11, hoP_t11⟩ := ho11_k; obtain ⟨vPa_t11, vPl_t11, vPc_t11, rfl⟩ := ownMss_slice hoP_t11) | (refine (eq_Fld (.agg #[.int .i64 x_aF.dim, .slice vPa_x0 vPl_x0 vPc_x0]) (.agg #[.int .i64 x_aF.dim, .slice vPa_t11 vPl_t11 vPc_t11]) x_aF _ (own_Fld_rd (own_Fld_only ho6 (Only.of_below (fp := []) c11_x0) (by simp))) (own_Fld_rd ho11)).mono ?_; rintro e w12 ⟨rfl, hb12⟩; have HZ12 := Lib.hid hb12.size; have c12_w := c11_w.trans (hb12.mono c11_w.size); have c12_w0 := c11_w0.trans (hb12.mono c11_w0.size); have c12_x0 := c11_x0.trans (hb12.mono c11_x0.size); have c12_x1 := c11_x1.trans (hb12.mono c11_x1.size); have c12_g0 := c11_g0.trans (hb12.mono c11_g0.size); have c12_t11 := hb12; have b12_p_aF_0 := cell_below hb12 b11_p_aF_0; have b12_p_aF_1 := cell_below hb12 b11_p_aF_1; clear b11_p_aF_0 b11_p_aF_1; have b12_x0_0 := cell_below hb12 b11_x0_0; have b12_x0_1 := cell_below hb12 b11_x0_1; clear b11_x0_0 b11_x0_1))
  go_wp2_with fail
  refine (to_I (.slice a_aY l_aY c_aY) x_aY _ (rd_I_mono c12_w h_aY) fit_aY).mono ?_
  rintro e w13 ⟨v13, fp13, rfl, ho13, hn13, hb13⟩
  have HZ13 := Lib.hid hb13.size
  have c13_w := c12_w.trans (hb13.mono c12_w.size)
  have c13_w0 := c12_w0.trans (hb13.mono c12_w0.size)
  have c13_x0 := c12_x0.trans (hb13.mono c12_x0.size)
  have c13_x1 := c12_x1.trans (hb13.mono c12_x1.size)
  have c13_g0 := c12_g0.trans (hb13.mono c12_g0.size)
  have b13_p_aF_0 := cell_below hb13 b12_p_aF_0
  have b13_p_aF_1 := cell_below hb13 b12_p_aF_1
  clear b12_p_aF_0 b12_p_aF_1
  have b13_x0_0 := cell_below hb13 b12_x0_0
  have b13_x0_1 := cell_below hb13 b12_x0_1
  clear b12_x0_0 b12_x0_1
  have new_t13 := hn13
  have lt_t13 := own_I_lt ho13
  go_wp2_with fail
  refine (eq_I v8 v13 x_aY _ (own_I_rd (own_I_only ho8 (Only.of_below (fp := []) c13_x1) (by simp))) (own_I_rd ho13)).mono ?_
  rintro e w14 ⟨rfl, hb14⟩
  have HZ14 := Lib.hid hb14.size
  have c14_w := c13_w.trans (hb14.mono c13_w.size)
  have c14_w0 := c13_w0.trans (hb14.mono c13_w0.size)
  have c14_x0 := c13_x0.trans (hb14.mono c13_x0.size)
  have c14_x1 := c13_x1.trans (hb14.mono c13_x1.size)
  have c14_g0 := c13_g0.trans (hb14.mono c13_g0.size)
  have c14_t13 := hb14
  have b14_p_aF_0 := cell_below hb14 b13_p_aF_0
  have b14_p_aF_1 := cell_below hb14 b13_p_aF_1
  clear b13_p_aF_0 b13_p_aF_1
  have b14_x0_0 := cell_below hb14 b13_x0_0
  have b14_x0_1 := cell_below hb14 b13_x0_1
  clear b13_x0_0 b13_x0_1
  have hc_x0 := cnt_Fld_le fit_aF
  go_wp2_with fail
  refine (mark_Fld (.agg #[.int .i64 x_aF.dim, .slice vPa_x0 vPl_x0 vPc_x0]) x_aF fp6 _ _ (own_Fld_only ho6 (Only.of_below (fp := []) c14_x0) (by simp)) (by omega) (by omega)).mono ?_
  rintro e w15 ⟨rfl, ho15, hb15⟩
  have HZ15 := Lib.hid hb15.size
  have c15_w := c14_w.trans (hb15.below c14_w.size (fun g hg => by have := new_x0 g hg; have := HZ1.out; have := HZ2.out; have := HZ3.out; have := HZ4.out; have := HZ5.out; have := HZ6.out; have := HZ7.out; have := HZ8.out; have := HZ9.out; have := HZ10.out; have := HZ11.out; have := HZ12.out; have := HZ13.out; have := HZ14.out; have := HZ15.out; omega))
  have c15_w0 := c14_w0.trans (hb15.below c14_w0.size (fun g hg => by have := new_x0 g hg; have := HZ1.out; have := HZ2.out; have := HZ3.out; have := HZ4.out; have := HZ5.out; have := HZ6.out; have := HZ7.out; have := HZ8.out; have := HZ9.out; have := HZ10.out; have := HZ11.out; have := HZ12.out; have := HZ13.out; have := HZ14.out; have := HZ15.out; omega))
  have b15_p_aF_0 := cell_only hb15 (fun hm => by have := new_x0 _ hm; have := lt_x0 _ hm; have := HZ1.out; have := HZ2.out; have := HZ3.out; have := HZ4.out; have := HZ5.out; have := HZ6.out; have := HZ7.out; have := HZ8.out; have := HZ9.out; have := HZ10.out; have := HZ11.out; have := HZ12.out; have := HZ13.out; have := HZ14.out; have := HZ15.out; omega) b14_p_aF_0
  have b15_p_aF_1 := cell_only hb15 (fun hm => by have := new_x0 _ hm; have := lt_x0 _ hm; have := HZ1.out; have := HZ2.out; have := HZ3.out; have := HZ4.out; have := HZ5.out; have := HZ6.out; have := HZ7.out; have := HZ8.out; have := HZ9.out; have := HZ10.out; have := HZ11.out; have := HZ12.out; have := HZ13.out; have := HZ14.out; have := HZ15.out; omega) b14_p_aF_1
  clear b14_p_aF_0 b14_p_aF_1
  have b15_x0_0 := cell_only hb15 (fun hm => by have := new_x0 _ hm; have := lt_x0 _ hm; have := HZ1.out; have := HZ2.out; have := HZ3.out; have := HZ4.out; have := HZ5.out; have := HZ6.out; have := HZ7.out; have := HZ8.out; have := HZ9.out; have := HZ10.out; have := HZ11.out; have := HZ12.out; have := HZ13.out; have := HZ14.out; have := HZ15.out; omega) b14_x0_0
  have b15_x0_1 := cell_only hb15 (fun hm => by have := new_x0 _ hm; have := lt_x0 _ hm; have := HZ1.out; have := HZ2.out; have := HZ3.out; have := HZ4.out; have := HZ5.out; have := HZ6.out; have := HZ7.out; have := HZ8.out; have := HZ9.out; have := HZ10.out; have := HZ11.out; have := HZ12.out; have := HZ13.out; have := HZ14.out; have := HZ15.out; omega) b14_x0_1
  clear b14_x0_0 b14_x0_1
  have ho15_x1 := own_I_only (own_I_only ho8 (Only.of_below (fp := []) c14_x1) (by simp)) hb15 (fun b hb hm => by have := new_x1 b hb; have := lt_x0 b hm; have := HZ1.out; have := HZ2.out; have := HZ3.out; have := HZ4.out; have := HZ5.out; have := HZ6.out; have := HZ7.out; have := HZ8.out; have := HZ9.out; have := HZ10.out; have := HZ11.out; have := HZ12.out; have := HZ13.out; have := HZ14.out; have := HZ15.out; omega)
  have ho15_g0 := own_II_only (own_II_only ho9 (Only.of_below (fp := []) c14_g0) (by simp)) hb15 (fun b hb hm => by have := new_g0 b hb; have := lt_x0 b hm; have := HZ1.out; have := HZ2.out; have := HZ3.out; have := HZ4.out; have := HZ5.out; have := HZ6.out; have := HZ7.out; have := HZ8.out; have := HZ9.out; have := HZ10.out; have := HZ11.out; have := HZ12.out; have := HZ13.out; have := HZ14.out; have := HZ15.out; omega)
  have hc_x1 := cnt_I_le fit_aY
  go_wp2_with fail
  refine (mark_I v8 x_aY fp8 _ _ ho15_x1 (by omega) (by omega)).mono ?_
  rintro e w16 ⟨rfl, ho16, hb16⟩
  have HZ16 := Lib.hid hb16.size
  have c16_w := c15_w.trans (hb16.below c15_w.size (fun g hg => by have := new_x1 g hg; have := HZ1.out; have := HZ2.out; have := HZ3.out; have := HZ4.out; have := HZ5.out; have := HZ6.out; have := HZ7.out; have := HZ8.out; have := HZ9.out; have := HZ10.out; have := HZ11.out; have := HZ12.out; have := HZ13.out; have := HZ14.out; have := HZ15.out; have := HZ16.out; omega))
  have c16_w0 := c15_w0.trans (hb16.below c15_w0.size (fun g hg => by have := new_x1 g hg; have := HZ1.out; have := HZ2.out; have := HZ3.out; have := HZ4.out; have := HZ5.out; have := HZ6.out; have := HZ7.out; have := HZ8.out; have := HZ9.out; have := HZ10.out; have := HZ11.out; have := HZ12.out; have := HZ13.out; have := HZ14.out; have := HZ15.out; have := HZ16.out; omega))
  have b16_p_aF_0 := cell_only hb16 (fun hm => by have := new_x1 _ hm; have := lt_x1 _ hm; have := HZ1.out; have := HZ2.out; have := HZ3.out; have := HZ4.out; have := HZ5.out; have := HZ6.out; have := HZ7.out; have := HZ8.out; have := HZ9.out; have := HZ10.out; have := HZ11.out; have := HZ12.out; have := HZ13.out; have := HZ14.out; have := HZ15.out; have := HZ16.out; omega) b15_p_aF_0
  have b16_p_aF_1 := cell_only hb16 (fun hm => by have := new_x1 _ hm; have := lt_x1 _ hm; have := HZ1.out; have := HZ2.out; have := HZ3.out; have := HZ4.out; have := HZ5.out; have := HZ6.out; have := HZ7.out; have := HZ8.out; have := HZ9.out; have := HZ10.out; have := HZ11.out; have := HZ12.out; have := HZ13.out; have := HZ14.out; have := HZ15.out; have := HZ16.out; omega) b15_p_aF_1
  clear b15_p_aF_0 b15_p_aF_1
  have b16_x0_0 := cell_only hb16 (fun hm => by have := new_x1 _ hm; have := lt_x1 _ hm; have := HZ1.out; have := HZ2.out; have := HZ3.out; have := HZ4.out; have := HZ5.out; have := HZ6.out; have := HZ7.out; have := HZ8.out; have := HZ9.out; have := HZ10.out; have := HZ11.out; have := HZ12.out; have := HZ13.out; have := HZ14.out; have := HZ15.out; have := HZ16.out; omega) b15_x0_0
  have b16_x0_1 := cell_only hb16 (fun hm => by have := new_x1 _ hm; have := lt_x1 _ hm; have := HZ1.out; have := HZ2.out; have := HZ3.out; have := HZ4.out; have := HZ5.out; have := HZ6.out; have := HZ7.out; have := HZ8.out; have := HZ9.out; have := HZ10.out; have := HZ11.out; have := HZ12.out; have := HZ13.out; have := HZ14.out; have := HZ15.out; have := HZ16.out; omega) b15_x0_1
  clear b15_x0_0 b15_x0_1
  have ho16_g0 := own_II_only ho15_g0 hb16 (fun b hb hm => by have := new_g0 b hb; have := lt_x1 b hm; have := HZ1.out; have := HZ2.out; have := HZ3.out; have := HZ4.out; have := HZ5.out; have := HZ6.out; have := HZ7.out; have := HZ8.out; have := HZ9.out; have := HZ10.out; have := HZ11.out; have := HZ12.out; have := HZ13.out; have := HZ14.out; have := HZ15.out; have := HZ16.out; omega)
  go_wp2_with fail
  refine (eq_II v9 v5 (exactL x_aF x_aY n_aOrder n_aT) _ (own_II_rd ho16_g0) (own_II_rd (own_II_only ho5 (Only.of_below (fp := []) c16_w0) (by simp)))).mono ?_
  rintro e w17 ⟨rfl, hb17⟩
  have HZ17 := Lib.hid hb17.size
  have c17_w := c16_w.trans (hb17.mono c16_w.size)
  have c17_w0 := c16_w0.trans (hb17.mono c16_w0.size)
  have c17_g0 := hb17
  have b17_p_aF_0 := cell_below hb17 b16_p_aF_0
  have b17_p_aF_1 := cell_below hb17 b16_p_aF_1
  clear b16_p_aF_0 b16_p_aF_1
  have b17_x0_0 := cell_below hb17 b16_x0_0
  have b17_x0_1 := cell_below hb17 b16_x0_1
  clear b16_x0_0 b16_x0_1
  have hc_g0 : cnt_II (exactL x_aF x_aY n_aOrder n_aT) ≤ 10000000000000 := exactL_cnt _ _ _ _
  go_wp2_with fail
  refine (mark_II v9 (exactL x_aF x_aY n_aOrder n_aT) fp9 _ _ (own_II_only ho16_g0 (Only.of_below (fp := []) c17_g0) (by simp)) (by omega) (by omega)).mono ?_
  rintro e w18 ⟨rfl, ho18, hb18⟩
  have HZ18 := Lib.hid hb18.size
  have c18_w := c17_w.trans (hb18.below c17_w.size (fun g hg => by have := new_g0 g hg; have := HZ1.out; have := HZ2.out; have := HZ3.out; have := HZ4.out; have := HZ5.out; have := HZ6.out; have := HZ7.out; have := HZ8.out; have := HZ9.out; have := HZ10.out; have := HZ11.out; have := HZ12.out; have := HZ13.out; have := HZ14.out; have := HZ15.out; have := HZ16.out; have := HZ17.out; have := HZ18.out; omega))
  have c18_w0 := c17_w0.trans (hb18.below c17_w0.size (fun g hg => by have := new_g0 g hg; have := HZ1.out; have := HZ2.out; have := HZ3.out; have := HZ4.out; have := HZ5.out; have := HZ6.out; have := HZ7.out; have := HZ8.out; have := HZ9.out; have := HZ10.out; have := HZ11.out; have := HZ12.out; have := HZ13.out; have := HZ14.out; have := HZ15.out; have := HZ16.out; have := HZ17.out; have := HZ18.out; omega))
  have b18_p_aF_0 := cell_only hb18 (fun hm => by have := new_g0 _ hm; have := lt_g0 _ hm; have := HZ1.out; have := HZ2.out; have := HZ3.out; have := HZ4.out; have := HZ5.out; have := HZ6.out; have := HZ7.out; have := HZ8.out; have := HZ9.out; have := HZ10.out; have := HZ11.out; have := HZ12.out; have := HZ13.out; have := HZ14.out; have := HZ15.out; have := HZ16.out; have := HZ17.out; have := HZ18.out; omega) b17_p_aF_0
  have b18_p_aF_1 := cell_only hb18 (fun hm => by have := new_g0 _ hm; have := lt_g0 _ hm; have := HZ1.out; have := HZ2.out; have := HZ3.out; have := HZ4.out; have := HZ5.out; have := HZ6.out; have := HZ7.out; have := HZ8.out; have := HZ9.out; have := HZ10.out; have := HZ11.out; have := HZ12.out; have := HZ13.out; have := HZ14.out; have := HZ15.out; have := HZ16.out; have := HZ17.out; have := HZ18.out; omega) b17_p_aF_1
  clear b17_p_aF_0 b17_p_aF_1
  have b18_x0_0 := cell_only hb18 (fun hm => by have := new_g0 _ hm; have := lt_g0 _ hm; have := HZ1.out; have := HZ2.out; have := HZ3.out; have := HZ4.out; have := HZ5.out; have := HZ6.out; have := HZ7.out; have := HZ8.out; have := HZ9.out; have := HZ10.out; have := HZ11.out; have := HZ12.out; have := HZ13.out; have := HZ14.out; have := HZ15.out; have := HZ16.out; have := HZ17.out; have := HZ18.out; omega) b17_x0_0
  have b18_x0_1 := cell_only hb18 (fun hm => by have := new_g0 _ hm; have := lt_g0 _ hm; have := HZ1.out; have := HZ2.out; have := HZ3.out; have := HZ4.out; have := HZ5.out; have := HZ6.out; have := HZ7.out; have := HZ8.out; have := HZ9.out; have := HZ10.out; have := HZ11.out; have := HZ12.out; have := HZ13.out; have := HZ14.out; have := HZ15.out; have := HZ16.out; have := HZ17.out; have := HZ18.out; omega) b17_x0_1
  clear b17_x0_0 b17_x0_1
  go_wp2_with fail
  refine (held_II v9 (exactL x_aF x_aY n_aOrder n_aT) 1 _ (own_II_rd ho18) (by omega) (by omega)).mono ?_
  rintro e w19 ⟨rfl, hb19⟩
  have HZ19 := Lib.hid hb19.size
  have c19_w := c18_w.trans (hb19.mono c18_w.size)
  have c19_w0 := c18_w0.trans (hb19.mono c18_w0.size)
  have c19_g0 := hb19
  have b19_p_aF_0 := cell_below hb19 b18_p_aF_0
  have b19_p_aF_1 := cell_below hb19 b18_p_aF_1
  clear b18_p_aF_0 b18_p_aF_1
  have b19_x0_0 := cell_below hb19 b18_x0_0
  have b19_x0_1 := cell_below hb19 b18_x0_1
  clear b18_x0_0 b18_x0_1
  go_wp2_with fail
  refine (to_Fld (.agg #[.int .i64 x_aF.dim, .slice vPa_aF vPl_aF vPc_aF]) x_aF _ (rd_Fld_mono c19_w h_aF) fit_aF).mono ?_
  rintro e w20 ⟨v20, fp20, rfl, ho20, hn20, hb20⟩
  have HZ20 := Lib.hid hb20.size
  have c20_w := c19_w.trans (hb20.mono c19_w.size)
  have c20_w0 := c19_w0.trans (hb20.mono c19_w0.size)
  have c20_g0 := c19_g0.trans (hb20.mono c19_g0.size)
  have b20_p_aF_0 := cell_below hb20 b19_p_aF_0
  have b20_p_aF_1 := cell_below hb20 b19_p_aF_1
  clear b19_p_aF_0 b19_p_aF_1
  have b20_x0_0 := cell_below hb20 b19_x0_0
  have b20_x0_1 := cell_below hb20 b19_x0_1
  clear b19_x0_0 b19_x0_1
  have new_t20 := hn20
  have lt_t20 := own_Fld_lt ho20
  have ho20_k := ho20
  obtain ⟨vP_t20, rfl, hI_t20, hoP_t20⟩ := ho20_k
  obtain ⟨vPa_t20, vPl_t20, vPc_t20, rfl⟩ := ownMss_slice hoP_t20
  go_wp2_with fail
  refine (to_I (.slice a_aY l_aY c_aY) x_aY _ (rd_I_mono c20_w h_aY) fit_aY).mono ?_
  rintro e w21 ⟨v21, fp21, rfl, ho21, hn21, hb21⟩
  have HZ21 := Lib.hid hb21.size
  have c21_w := c20_w.trans (hb21.mono c20_w.size)
  have c21_w0 := c20_w0.trans (hb21.mono c20_w0.size)
  have c21_g0 := c20_g0.trans (hb21.mono c20_g0.size)
  have c21_t20 := hb21
  have b21_p_aF_0 := cell_below hb21 b20_p_aF_0
  have b21_p_aF_1 := cell_below hb21 b20_p_aF_1
  clear b20_p_aF_0 b20_p_aF_1
  have b21_x0_0 := cell_below hb21 b20_x0_0
  have b21_x0_1 := cell_below hb21 b20_x0_1
  clear b20_x0_0 b20_x0_1
  have new_t21 := hn21
  have lt_t21 := own_I_lt ho21
  go_wp2_with fail
  refine (exactPath_c (.agg #[.int .i64 x_aF.dim, .slice vPa_t20 vPl_t20 vPc_t20]) x_aF v21 x_aY n_aOrder n_aT _ (own_Fld_rd (own_Fld_only ho20 (Only.of_below (fp := []) c21_t20) (by simp))) (own_I_rd ho21) fit_aF).mono ?_
  rintro e w22 ⟨v22, fp22, rfl, ho22, hn22, hb22⟩
  have HZ22 := Lib.hid hb22.size
  have c22_w := c21_w.trans (hb22.mono c21_w.size)
  have c22_w0 := c21_w0.trans (hb22.mono c21_w0.size)
  have c22_g0 := c21_g0.trans (hb22.mono c21_g0.size)
  have c22_t20 := c21_t20.trans (hb22.mono c21_t20.size)
  have c22_t21 := hb22
  have b22_p_aF_0 := cell_below hb22 b21_p_aF_0
  have b22_p_aF_1 := cell_below hb22 b21_p_aF_1
  clear b21_p_aF_0 b21_p_aF_1
  have b22_x0_0 := cell_below hb22 b21_x0_0
  have b22_x0_1 := cell_below hb22 b21_x0_1
  clear b21_x0_0 b21_x0_1
  have new_h0 := hn22
  have lt_h0 := own_II_lt ho22
  go_wp2_with fail
  refine (eq_II v22 v5 (exactL x_aF x_aY n_aOrder n_aT) _ (own_II_rd ho22) (own_II_rd (own_II_only ho5 (Only.of_below (fp := []) c22_w0) (by simp)))).mono ?_
  rintro e w23 ⟨rfl, hb23⟩
  have HZ23 := Lib.hid hb23.size
  have c23_w := c22_w.trans (hb23.mono c22_w.size)
  have c23_w0 := c22_w0.trans (hb23.mono c22_w0.size)
  have c23_g0 := c22_g0.trans (hb23.mono c22_g0.size)
  have c23_h0 := hb23
  have b23_p_aF_0 := cell_below hb23 b22_p_aF_0
  have b23_p_aF_1 := cell_below hb23 b22_p_aF_1
  clear b22_p_aF_0 b22_p_aF_1
  have b23_x0_0 := cell_below hb23 b22_x0_0
  have b23_x0_1 := cell_below hb23 b22_x0_1
  clear b22_x0_0 b22_x0_1
  go_wp2_with fail
  refine (held_II v9 (exactL x_aF x_aY n_aOrder n_aT) 1 _ (own_II_rd (own_II_only ho18 (Only.of_below (fp := []) c23_g0) (by simp))) (by omega) (by omega)).mono ?_
  rintro e w24 ⟨rfl, hb24⟩
  have HZ24 := Lib.hid hb24.size
  have c24_w := c23_w.trans (hb24.mono c23_w.size)
  have c24_w0 := c23_w0.trans (hb24.mono c23_w0.size)
  have c24_g0 := c23_g0.trans (hb24.mono c23_g0.size)
  have c24_h0 := c23_h0.trans (hb24.mono c23_h0.size)
  have b24_p_aF_0 := cell_below hb24 b23_p_aF_0
  have b24_p_aF_1 := cell_below hb24 b23_p_aF_1
  clear b23_p_aF_0 b23_p_aF_1
  have b24_x0_0 := cell_below hb24 b23_x0_0
  have b24_x0_1 := cell_below hb24 b23_x0_1
  clear b23_x0_0 b23_x0_1
  go_wp2
  go_ret
  exact ⟨rfl, c24_w⟩

set_option maxRecDepth 100000 in
theorem fnExactExactPath_lifted (os : Os) (started : os.Started) (H : Type) (enc : TypeId × Value → H) :
    ReturnsInHanded {} Try.checked os 11 .any (Rows.fnExactExactPathSpec.pre6 enc Try.prog Try.f11 Rows.fnExactExactPathRow.domain false) (Rows.fnExactExactPathSpec.post enc Try.prog Try.f11 false true false false) := by
  refine returnsInHanded_of_change (C := Try.checked) Try.own started (by kernel_rfl) Try.func11
    (ChangeSpec.witness6 (enc := enc) (C := Try.checked) false ⟨#[], #[.agg #[.int .i64 0, .slice none 0 0], .slice none 0 0, .int .i64 0, .int .i64 0], []⟩ 8 (by kernel_rfl) (by kernel_rfl) (by kernel_rfl) (by kernel_rfl)) ?_
  intro W base args ds gs before hval0 hW hcnd _
  have hval : ∀ (j : Nat) t v, Try.f11.params[j]? = some t → args[j]? = some v → Value.okWide Try.prog W .any base t v := hval0
  have hW' := hW
  obtain ⟨p, q, hA0, hV, rfl, hfz, hnd⟩ := hW
  have hA : DataW.TrodAll enc Try.prog W 0 (fun _ => true) true Try.f11.params.toList args.toList ds p := hA0
  rw [Try.params11] at hA hval
  obtain ⟨v0, vs0, d0, ds0, p0, q0, hargs, rfl, rfl, h0, r0⟩ := trodAll_cons hA
  obtain ⟨v1, vs1, d1, ds1, p1, q1, rfl, rfl, rfl, h1, r1⟩ := trodAll_cons r0
  obtain ⟨v2, vs2, d2, ds2, p2, q2, rfl, rfl, rfl, h2, r2⟩ := trodAll_cons r1
  obtain ⟨v3, vs3, d3, ds3, p3, q3, rfl, rfl, rfl, h3, r3⟩ := trodAll_cons r2
  obtain ⟨rfl, rfl, rfl⟩ := trodAll_nil r3
  obtain rfl : args = #[v0, v1, v2, v3] := by cases args; simp_all
  obtain ⟨rfl, rfl⟩ := trodVars_none hV
  have lt0 : ∀ x ∈ p0, x.block < W.heap.size := by obtain ⟨m, hm⟩ := h0; exact DataW.trod_lt m _ _ _ hm
  have k0 := h0
  obtain ⟨x0, w0⟩ := fld_arg (hval 0 32 v0 rfl rfl) h0
  have lt1 : ∀ x ∈ p1, x.block < W.heap.size := by obtain ⟨m, hm⟩ := h1; exact DataW.trod_lt m _ _ _ hm
  have k1 := h1
  obtain ⟨x1, w1⟩ := rdS_of_arg Try.underlying24 Try.cells_int (by omega) (elI_of_trod Try.underlying3) (hval 1 24 v1 rfl rfl) h1
  have lt2 : ∀ x ∈ p2, x.block < W.heap.size := by obtain ⟨m, hm⟩ := h2; exact DataW.trod_lt m _ _ _ hm
  have k2 := h2
  obtain ⟨x2, rfl, w2⟩ := int_of_arg Try.underlying3 (hval 2 3 v2 rfl rfl) h2
  have lt3 : ∀ x ∈ p3, x.block < W.heap.size := by obtain ⟨m, hm⟩ := h3; exact DataW.trod_lt m _ _ _ hm
  have k3 := h3
  obtain ⟨x3, rfl, w3⟩ := int_of_arg Try.underlying3 (hval 3 3 v3 rfl rfl) h3
  clear hA0 hval0
  refine (fnExactExactPath_walk v0 x0 v1 x1 x2 x3 W w0 w1 w2 w3).mono fun e W' ⟨he, bel⟩ => ?_
  subst he
  exact ⟨_, rfl, _, _, _, [], _, [], hW', trodAll_mk1 (shut_bool Try.underlying4 _), (trodAll_cons_mk (Below.trod Try.laidOut (by kernel_rfl) (of_decide_eq_true (by kernel_rfl)) k0 bel lt0) (trodAll_cons_mk (Below.trod Try.laidOut (by kernel_rfl) (of_decide_eq_true (by kernel_rfl)) k1 bel lt1) (trodAll_cons_mk (Below.trod Try.laidOut (by kernel_rfl) (of_decide_eq_true (by kernel_rfl)) k2 bel lt2) (trodAll_cons_mk (Below.trod Try.laidOut (by kernel_rfl) (of_decide_eq_true (by kernel_rfl)) k3 bel lt3) trodAll_mk0)))), rfl, bel.frame _, fun h => by cases h⟩

theorem fnExactExactPath_holds : Rows.FnExactExactPathSaid :=
  OpenClaim.holds_of_wide 11 Try.f11 rfl rfl rfl rfl rfl rfl rfl ⟨rfl, rfl, rfl, rfl, rfl⟩ rfl rfl rfl rfl rfl (by kernel_rfl) Try.func11 (by kernel_rfl)
    (of_decide_eq_true (by kernel_rfl)) (by unfold Func.isWrapper; first | (rw [if_pos (by decide +kernel)]; kernel_rfl) | (rw [if_neg (by decide +kernel)]; exact ⟨rfl, rfl⟩))
    (fun os started H enc _ => fnExactExactPath_lifted os started H enc)

#print axioms fnExactExactPath_holds
end Go.Proofs.Ytdaaamdighojdaa
