/- The law FnExactValueAlong returns true for every field and path, and changes nothing that was there. Conditions: none. -/
import Derived.Test.YtdaaamdighojdaaVAlong
import Derived.Test.YtdaaamdighojdaaKinds
import Derived.Test.YtdaaamdighojdaaShut
import Derived.Test.YtdaaamdighojdaaOpenF
namespace Go.Proofs.Ytdaaamdighojdaa
open Go.ChangeShapes Go.WideShapes Go.ChangeAt Go.RowKit

theorem valueL_cnt (f : FldZ) (xs : List (List Int)) : cnt_II (valueL f xs) ≤ 10000000000000 := by
  unfold valueL
  split
  · rename_i hd
    obtain ⟨n, f1, f2, f3, f4, f5, f6⟩ := fpOk_facts hd
    have h1 := pathOk_facts f6
    refine Nat.le_trans (cntII_le (n := 7) (m := 6) (by rw [turnZ_len]; omega) (fun x hx => ?_)) (by omega)
    simp only [turnZ, List.mem_map] at hx
    obtain ⟨i, _, rfl⟩ := hx
    rw [colZ_len]
    simp [fldE, f2]
    omega
  · simp [cnt_II, cntII]
theorem sValueAlong_c (v : Value) (f : FldZ) (u : Value) (xs : List (List Int)) (w : World) (h : Rd_Fld w v f) (g : Rd_II w u xs) :
    Calls Try.prog 40 #[v, u] w (Gives (fun w' v fp => Own_II w' v (valueL f xs) fp) w) := sVAlong_any v u f xs w h g
theorem valueAlong_c (v : Value) (f : FldZ) (u : Value) (xs : List (List Int)) (w : World) (h : Rd_Fld w v f) (g : Rd_II w u xs) (hf : Fit_Fld f) :
    Calls Try.prog 41 #[v, u] w (Gives (fun w' v fp => Own_II w' v (valueL f xs) fp) w) := vAlong_any v u f xs w h g (fun p hp m hm => (hf.2.1 p hp).2 m hm)

set_option maxRecDepth 100000 in
set_option maxHeartbeats 4000000 in
theorem fnExactValueAlong_walk (v_aF : Value) (x_aF : FldZ) (v_aPath : Value) (x_aPath : List (List Int)) (w0 : World) (h_aF : Rd_Fld w0 v_aF x_aF) (h_aPath : Rd_II w0 v_aPath x_aPath) :
    Calls Try.prog 8 #[v_aF, v_aPath] w0 fun e w' => e = .returned (.bool true) ∧ Below w0.heap.size w0 w' := by
  have h_aF_k := h_aF
  obtain ⟨vP_aF, rfl, hI_aF, hP_aF⟩ := h_aF_k
  obtain ⟨vPa_aF, vPl_aF, vPc_aF, rfl⟩ := rdMss_slice hP_aF
  go_enter Try.func8, Try.ntmps8
  go_wp2_with fail
  obtain ⟨w1, hw1⟩ : ∃ W, W = w0.alloc (.cells #[.int .i64 x_aF.dim, .slice vPa_aF vPl_aF vPc_aF] 32) := ⟨_, rfl⟩
  rw [← hw1]
  have hb1 : Below w0.heap.size w0 w1 := hw1 ▸ (Below.refl _ _).alloc (Nat.le_refl _) _
  have HZ1 : Hid (w0.heap.size + 1 ≤ w1.heap.size) := Lib.hid (by rw [hw1]; simp)
  have b1_p_aF_0 : w1.cell? ⟨w0.heap.size, 0, none⟩ = some (.int .i64 x_aF.dim) := by rw [hw1]; simp
  have b1_p_aF_1 : w1.cell? ⟨w0.heap.size, 1, none⟩ = some (.slice vPa_aF vPl_aF vPc_aF) := by rw [hw1]; simp
  clear hw1
  have c1_w := hb1
  go_wp2_with fail
  refine (sz_Fld (.agg #[.int .i64 x_aF.dim, .slice vPa_aF vPl_aF vPc_aF]) x_aF 1048576 _ (rd_Fld_mono c1_w h_aF) (by omega) (by omega)).mono ?_
  rintro e w2 ⟨r2, rfl, hr2, hb2⟩
  have HZ2 := Lib.hid hb2.size
  have c2_w := c1_w.trans (hb2.mono c1_w.size)
  have b2_p_aF_0 := cell_below hb2 b1_p_aF_0
  have b2_p_aF_1 := cell_below hb2 b1_p_aF_1
  clear b1_p_aF_0 b1_p_aF_1
  rcases hr2 with rfl | ⟨hra2, hrb2, fit_aF⟩
  · go_wp2
    go_ret
    exact ⟨rfl, c2_w⟩
  go_wp2_with fail
  refine (sz_II v_aPath x_aPath r2 _ (rd_II_mono c2_w h_aPath) (by omega) (by omega)).mono ?_
  rintro e w3 ⟨r3, rfl, hr3, hb3⟩
  have HZ3 := Lib.hid hb3.size
  have c3_w := c2_w.trans (hb3.mono c2_w.size)
  have b3_p_aF_0 := cell_below hb3 b2_p_aF_0
  have b3_p_aF_1 := cell_below hb3 b2_p_aF_1
  clear b2_p_aF_0 b2_p_aF_1
  rcases hr3 with rfl | ⟨hra3, hrb3, fit_aPath⟩
  · go_wp2
    go_ret
    exact ⟨rfl, c3_w⟩
  go_wp2_with fail
  refine (to_Fld (.agg #[.int .i64 x_aF.dim, .slice vPa_aF vPl_aF vPc_aF]) x_aF _ (rd_Fld_mono c3_w h_aF) fit_aF).mono ?_
  rintro e w4 ⟨v4, fp4, rfl, ho4, hn4, hb4⟩
  have HZ4 := Lib.hid hb4.size
  have c4_w := c3_w.trans (hb4.mono c3_w.size)
  have b4_p_aF_0 := cell_below hb4 b3_p_aF_0
  have b4_p_aF_1 := cell_below hb4 b3_p_aF_1
  clear b3_p_aF_0 b3_p_aF_1
  have new_t4 := hn4
  have lt_t4 := own_Fld_lt ho4
  have ho4_k := ho4
  obtain ⟨vP_t4, rfl, hI_t4, hoP_t4⟩ := ho4_k
  obtain ⟨vPa_t4, vPl_t4, vPc_t4, rfl⟩ := ownMss_slice hoP_t4
  go_wp2_with fail
  refine (to_II v_aPath x_aPath _ (rd_II_mono c4_w h_aPath) fit_aPath).mono ?_
  rintro e w5 ⟨v5, fp5, rfl, ho5, hn5, hb5⟩
  have HZ5 := Lib.hid hb5.size
  have c5_w := c4_w.trans (hb5.mono c4_w.size)
  have c5_t4 := hb5
  have b5_p_aF_0 := cell_below hb5 b4_p_aF_0
  have b5_p_aF_1 := cell_below hb5 b4_p_aF_1
  clear b4_p_aF_0 b4_p_aF_1
  have new_t5 := hn5
  have lt_t5 := own_II_lt ho5
  go_wp2_with fail
  refine (sValueAlong_c (.agg #[.int .i64 x_aF.dim, .slice vPa_t4 vPl_t4 vPc_t4]) x_aF v5 x_aPath _ (own_Fld_rd (own_Fld_only ho4 (Only.of_below (fp := []) c5_t4) (by simp))) (own_II_rd ho5) ).mono ?_
  rintro e w6 ⟨v6, fp6, rfl, ho6, hn6, hb6⟩
  have HZ6 := Lib.hid hb6.size
  have c6_w := c5_w.trans (hb6.mono c5_w.size)
  have c6_t4 := c5_t4.trans (hb6.mono c5_t4.size)
  have c6_t5 := hb6
  have b6_p_aF_0 := cell_below hb6 b5_p_aF_0
  have b6_p_aF_1 := cell_below hb6 b5_p_aF_1
  clear b5_p_aF_0 b5_p_aF_1
  have new_w0 := hn6
  have lt_w0 := own_II_lt ho6
  go_wp2_with fail
  refine (to_Fld (.agg #[.int .i64 x_aF.dim, .slice vPa_aF vPl_aF vPc_aF]) x_aF _ (rd_Fld_mono c6_w h_aF) fit_aF).mono ?_
  rintro e w7 ⟨v7, fp7, rfl, ho7, hn7, hb7⟩
  have HZ7 := Lib.hid hb7.size
  have c7_w := c6_w.trans (hb7.mono c6_w.size)
  have c7_w0 := hb7
  have b7_p_aF_0 := cell_below hb7 b6_p_aF_0
  have b7_p_aF_1 := cell_below hb7 b6_p_aF_1
  clear b6_p_aF_0 b6_p_aF_1
  have new_x0 := hn7
  have lt_x0 := own_Fld_lt ho7
  have ho7_k := ho7
  obtain ⟨vP_x0, rfl, hI_x0, hoP_x0⟩ := ho7_k
  obtain ⟨vPa_x0, vPl_x0, vPc_x0, rfl⟩ := ownMss_slice hoP_x0
  go_wp2_with fail
  obtain ⟨w8, hw8⟩ : ∃ W, W = w7.alloc (.cells #[.int .i64 x_aF.dim, .slice vPa_x0 vPl_x0 vPc_x0] 37) := ⟨_, rfl⟩
  rw [← hw8]
  have hb8 : Below w7.heap.size w7 w8 := hw8 ▸ (Below.refl _ _).alloc (Nat.le_refl _) _
  have HZ8 : Hid (w7.heap.size + 1 ≤ w8.heap.size) := Lib.hid (by rw [hw8]; simp)
  have b8_x0_0 : w8.cell? ⟨w7.heap.size, 0, none⟩ = some (.int .i64 x_aF.dim) := by rw [hw8]; simp
  have b8_x0_1 : w8.cell? ⟨w7.heap.size, 1, none⟩ = some (.slice vPa_x0 vPl_x0 vPc_x0) := by rw [hw8]; simp
  clear hw8
  have c8_w := c7_w.trans (hb8.mono c7_w.size)
  have c8_w0 := c7_w0.trans (hb8.mono c7_w0.size)
  have c8_x0 := hb8
  have b8_p_aF_0 := cell_below hb8 b7_p_aF_0
  have b8_p_aF_1 := cell_below hb8 b7_p_aF_1
  clear b7_p_aF_0 b7_p_aF_1
  go_wp2_with fail
  refine (to_II v_aPath x_aPath _ (rd_II_mono c8_w h_aPath) fit_aPath).mono ?_
  rintro e w9 ⟨v9, fp9, rfl, ho9, hn9, hb9⟩
  have HZ9 := Lib.hid hb9.size
  have c9_w := c8_w.trans (hb9.mono c8_w.size)
  have c9_w0 := c8_w0.trans (hb9.mono c8_w0.size)
  have c9_x0 := c8_x0.trans (hb9.mono c8_x0.size)
  have b9_p_aF_0 := cell_below hb9 b8_p_aF_0
  have b9_p_aF_1 := cell_below hb9 b8_p_aF_1
  clear b8_p_aF_0 b8_p_aF_1
  have b9_x0_0 := cell_below hb9 b8_x0_0
  have b9_x0_1 := cell_below hb9 b8_x0_1
  clear b8_x0_0 b8_x0_1
  have new_x1 := hn9
  have lt_x1 := own_II_lt ho9
  go_wp2_with fail
  refine (valueAlong_c (.agg #[.int .i64 x_aF.dim, .slice vPa_x0 vPl_x0 vPc_x0]) x_aF v9 x_aPath _ (own_Fld_rd (own_Fld_only ho7 (Only.of_below (fp := []) c9_x0) (by simp))) (own_II_rd ho9) fit_aF).mono ?_
  rintro e w10 ⟨v10, fp10, rfl, ho10, hn10, hb10⟩
  have HZ10 := Lib.hid hb10.size
  have c10_w := c9_w.trans (hb10.mono c9_w.size)
  have c10_w0 := c9_w0.trans (hb10.mono c9_w0.size)
  have c10_x0 := c9_x0.trans (hb10.mono c9_x0.size)
  have c10_x1 := hb10
  have b10_p_aF_0 := cell_below hb10 b9_p_aF_0
  have b10_p_aF_1 := cell_below hb10 b9_p_aF_1
  clear b9_p_aF_0 b9_p_aF_1
  have b10_x0_0 := cell_below hb10 b9_x0_0
  have b10_x0_1 := cell_below hb10 b9_x0_1
  clear b9_x0_0 b9_x0_1
  have new_g0 := hn10
  have lt_g0 := own_II_lt ho10
  go_wp2_with fail
  refine (eq_II v10 v6 (valueL x_aF x_aPath) _ (own_II_rd ho10) (own_II_rd (own_II_only ho6 (Only.of_below (fp := []) c10_w0) (by simp)))).mono ?_
  rintro e w11 ⟨rfl, hb11⟩
  have HZ11 := Lib.hid hb11.size
  have c11_w := c10_w.trans (hb11.mono c10_w.size)
  have c11_w0 := c10_w0.trans (hb11.mono c10_w0.size)
  have c11_x0 := c10_x0.trans (hb11.mono c10_x0.size)
  have c11_x1 := c10_x1.trans (hb11.mono c10_x1.size)
  have c11_g0 := hb11
  have b11_p_aF_0 := cell_below hb11 b10_p_aF_0
  have b11_p_aF_1 := cell_below hb11 b10_p_aF_1
  clear b10_p_aF_0 b10_p_aF_1
  have b11_x0_0 := cell_below hb11 b10_x0_0
  have b11_x0_1 := cell_below hb11 b10_x0_1
  clear b10_x0_0 b10_x0_1
  go_wp2_with fail
  go_region_held3 (fun w' => w'.cell? ⟨w7.heap.size, 0, none⟩ = some (.int .i64 x_aF.dim) ∧ w'.cell? ⟨w7.heap.size, 1, none⟩ = some (.slice vPa_x0 vPl_x0 vPc_x0) ∧ w'.cell? ⟨w0.heap.size, 0, none⟩ = some (.int .i64 x_aF.dim) ∧ w'.cell? ⟨w0.heap.size, 1, none⟩ = some (.slice vPa_aF vPl_aF vPc_aF)) (first | exact ⟨b11_x0_0, b11_x0_1, b11_p_aF_0, b11_p_aF_1⟩ | exact ⟨b12_x0_0, b12_x0_1, b12_p_aF_0, b12_p_aF_1⟩ | exact ⟨b13_x0_0, b13_x0_1, b13_p_aF_0, b13_p_aF_1⟩) (first | (refine (to_Fld (.agg #[.int .i64 x_aF.dim, .slice vPa_aF vPl_aF vPc_aF]) x_aF _ (rd_Fld_mono c11_w.drew h_aF) fit_aF).mono ?_; rintro e w12 ⟨v12, fp12, rfl, ho12, hn12d, hb12d⟩; have hn12 : ∀ g ∈ fp12, w11.heap.size ≤ g := hn12d; have hb12 : Below w11.heap.size w11 w12 := ⟨hb12d.os, hb12d.tape, hb12d.output, hb12d.size, hb12d.block⟩; clear hn12d hb12d; have HZ12 := Lib.hid hb12.size; have c12_w := c11_w.trans (hb12.mono c11_w.size); have c12_w0 := c11_w0.trans (hb12.mono c11_w0.size); have c12_x0 := c11_x0.trans (hb12.mono c11_x0.size); have c12_x1 := c11_x1.trans (hb12.mono c11_x1.size); have c12_g0 := c11_g0.trans (hb12.mono c11_g0.size); have b12_p_aF_0 := cell_below hb12 b11_p_aF_0; have b12_p_aF_1 := cell_below hb12 b11_p_aF_1; clear b11_p_aF_0 b11_p_aF_1; have b12_x0_0 := cell_below hb12 b11_x0_0; have b12_x0_1 := cell_below hb12 b11_x0_1; clear b11_x0_0 b11_x0_1; have new_t12 := hn12; have lt_t12 := own_Fld_lt ho12; have ho12_k := ho12; obtain ⟨vP_t12, rfl, hI_t12, hoP_t12⟩ := ho12_k; obtain ⟨vPa_t12, vPl_t12, vPc_t12, rfl⟩ := ownMss_slice hoP_t12) | (refine (eq_Fld (.agg #[.int .i64 x_aF.dim, .slice vPa_x0 vPl_x0 vPc_x0]) (.agg #[.int .i64 x_aF.dim, .slice vPa_t12 vPl_t12 vPc_t12]) x_aF _ (own_Fld_rd (own_Fld_only ho7 (Only.of_below (fp := []) c12_x0) (by simp))) (own_Fld_rd ho12)).mono ?_; rintro e w13 ⟨rfl, hb13⟩; have HZ13 := Lib.hid hb13.size; have c13_w := c12_w.trans (hb13.mono c12_w.size); have c13_w0 := c12_w0.trans (hb13.mono c12_w0.size); have c13_x0 := c12_x0.trans (hb13.mono c12_x0.size); have c13_x1 := c12_x1.trans (hb13.mono c12_x1.size); have c13_g0 := c12_g0.trans (hb13.mono c12_g0.size); have c13_t12 := hb13; have b13_p_aF_0 := cell_below hb13 b12_p_aF_0; have b13_p_aF_1 := cell_below hb13 b12_p_aF_1; clear b12_p_aF_0 b12_p_aF_1; have b13_x0_0 := cell_below hb13 b12_x0_0; have b13_x0_1 := cell_below hb13 b12_x0_1; clear b12_x0_0 b12_x0_1))
  go_wp2_with fail
  refine (to_II v_aPath x_aPath _ (rd_II_mono c13_w h_aPath) fit_aPath).mono ?_
  rintro e w14 ⟨v14, fp14, rfl, ho14, hn14, hb14⟩
  have HZ14 := Lib.hid hb14.size
  have c14_w := c13_w.trans (hb14.mono c13_w.size)
  have c14_w0 := c13_w0.trans (hb14.mono c13_w0.size)
  have c14_x0 := c13_x0.trans (hb14.mono c13_x0.size)
  have c14_x1 := c13_x1.trans (hb14.mono c13_x1.size)
  have c14_g0 := c13_g0.trans (hb14.mono c13_g0.size)
  have b14_p_aF_0 := cell_below hb14 b13_p_aF_0
  have b14_p_aF_1 := cell_below hb14 b13_p_aF_1
  clear b13_p_aF_0 b13_p_aF_1
  have b14_x0_0 := cell_below hb14 b13_x0_0
  have b14_x0_1 := cell_below hb14 b13_x0_1
  clear b13_x0_0 b13_x0_1
  have new_t14 := hn14
  have lt_t14 := own_II_lt ho14
  go_wp2_with fail
  refine (eq_II v9 v14 x_aPath _ (own_II_rd (own_II_only ho9 (Only.of_below (fp := []) c14_x1) (by simp))) (own_II_rd ho14)).mono ?_
  rintro e w15 ⟨rfl, hb15⟩
  have HZ15 := Lib.hid hb15.size
  have c15_w := c14_w.trans (hb15.mono c14_w.size)
  have c15_w0 := c14_w0.trans (hb15.mono c14_w0.size)
  have c15_x0 := c14_x0.trans (hb15.mono c14_x0.size)
  have c15_x1 := c14_x1.trans (hb15.mono c14_x1.size)
  have c15_g0 := c14_g0.trans (hb15.mono c14_g0.size)
  have c15_t14 := hb15
  have b15_p_aF_0 := cell_below hb15 b14_p_aF_0
  have b15_p_aF_1 := cell_below hb15 b14_p_aF_1
  clear b14_p_aF_0 b14_p_aF_1
  have b15_x0_0 := cell_below hb15 b14_x0_0
  have b15_x0_1 := cell_below hb15 b14_x0_1
  clear b14_x0_0 b14_x0_1
  have hc_x0 := cnt_Fld_le fit_aF
  go_wp2_with fail
  refine (mark_Fld (.agg #[.int .i64 x_aF.dim, .slice vPa_x0 vPl_x0 vPc_x0]) x_aF fp7 _ _ (own_Fld_only ho7 (Only.of_below (fp := []) c15_x0) (by simp)) (by omega) (by omega)).mono ?_
  rintro e w16 ⟨rfl, ho16, hb16⟩
  have HZ16 := Lib.hid hb16.size
  have c16_w := c15_w.trans (hb16.below c15_w.size (fun g hg => by have := new_x0 g hg; have := HZ1.out; have := HZ2.out; have := HZ3.out; have := HZ4.out; have := HZ5.out; have := HZ6.out; have := HZ7.out; have := HZ8.out; have := HZ9.out; have := HZ10.out; have := HZ11.out; have := HZ12.out; have := HZ13.out; have := HZ14.out; have := HZ15.out; have := HZ16.out; omega))
  have c16_w0 := c15_w0.trans (hb16.below c15_w0.size (fun g hg => by have := new_x0 g hg; have := HZ1.out; have := HZ2.out; have := HZ3.out; have := HZ4.out; have := HZ5.out; have := HZ6.out; have := HZ7.out; have := HZ8.out; have := HZ9.out; have := HZ10.out; have := HZ11.out; have := HZ12.out; have := HZ13.out; have := HZ14.out; have := HZ15.out; have := HZ16.out; omega))
  have b16_p_aF_0 := cell_only hb16 (fun hm => by have := new_x0 _ hm; have := lt_x0 _ hm; have := HZ1.out; have := HZ2.out; have := HZ3.out; have := HZ4.out; have := HZ5.out; have := HZ6.out; have := HZ7.out; have := HZ8.out; have := HZ9.out; have := HZ10.out; have := HZ11.out; have := HZ12.out; have := HZ13.out; have := HZ14.out; have := HZ15.out; have := HZ16.out; omega) b15_p_aF_0
  have b16_p_aF_1 := cell_only hb16 (fun hm => by have := new_x0 _ hm; have := lt_x0 _ hm; have := HZ1.out; have := HZ2.out; have := HZ3.out; have := HZ4.out; have := HZ5.out; have := HZ6.out; have := HZ7.out; have := HZ8.out; have := HZ9.out; have := HZ10.out; have := HZ11.out; have := HZ12.out; have := HZ13.out; have := HZ14.out; have := HZ15.out; have := HZ16.out; omega) b15_p_aF_1
  clear b15_p_aF_0 b15_p_aF_1
  have b16_x0_0 := cell_only hb16 (fun hm => by have := new_x0 _ hm; have := lt_x0 _ hm; have := HZ1.out; have := HZ2.out; have := HZ3.out; have := HZ4.out; have := HZ5.out; have := HZ6.out; have := HZ7.out; have := HZ8.out; have := HZ9.out; have := HZ10.out; have := HZ11.out; have := HZ12.out; have := HZ13.out; have := HZ14.out; have := HZ15.out; have := HZ16.out; omega) b15_x0_0
  have b16_x0_1 := cell_only hb16 (fun hm => by have := new_x0 _ hm; have := lt_x0 _ hm; have := HZ1.out; have := HZ2.out; have := HZ3.out; have := HZ4.out; have := HZ5.out; have := HZ6.out; have := HZ7.out; have := HZ8.out; have := HZ9.out; have := HZ10.out; have := HZ11.out; have := HZ12.out; have := HZ13.out; have := HZ14.out; have := HZ15.out; have := HZ16.out; omega) b15_x0_1
  clear b15_x0_0 b15_x0_1
  have ho16_x1 := own_II_only (own_II_only ho9 (Only.of_below (fp := []) c15_x1) (by simp)) hb16 (fun b hb hm => by have := new_x1 b hb; have := lt_x0 b hm; have := HZ1.out; have := HZ2.out; have := HZ3.out; have := HZ4.out; have := HZ5.out; have := HZ6.out; have := HZ7.out; have := HZ8.out; have := HZ9.out; have := HZ10.out; have := HZ11.out; have := HZ12.out; have := HZ13.out; have := HZ14.out; have := HZ15.out; have := HZ16.out; omega)
  have ho16_g0 := own_II_only (own_II_only ho10 (Only.of_below (fp := []) c15_g0) (by simp)) hb16 (fun b hb hm => by have := new_g0 b hb; have := lt_x0 b hm; have := HZ1.out; have := HZ2.out; have := HZ3.out; have := HZ4.out; have := HZ5.out; have := HZ6.out; have := HZ7.out; have := HZ8.out; have := HZ9.out; have := HZ10.out; have := HZ11.out; have := HZ12.out; have := HZ13.out; have := HZ14.out; have := HZ15.out; have := HZ16.out; omega)
  have hc_x1 := cnt_II_le fit_aPath
  go_wp2_with fail
  refine (mark_II v9 x_aPath fp9 _ _ ho16_x1 (by omega) (by omega)).mono ?_
  rintro e w17 ⟨rfl, ho17, hb17⟩
  have HZ17 := Lib.hid hb17.size
  have c17_w := c16_w.trans (hb17.below c16_w.size (fun g hg => by have := new_x1 g hg; have := HZ1.out; have := HZ2.out; have := HZ3.out; have := HZ4.out; have := HZ5.out; have := HZ6.out; have := HZ7.out; have := HZ8.out; have := HZ9.out; have := HZ10.out; have := HZ11.out; have := HZ12.out; have := HZ13.out; have := HZ14.out; have := HZ15.out; have := HZ16.out; have := HZ17.out; omega))
  have c17_w0 := c16_w0.trans (hb17.below c16_w0.size (fun g hg => by have := new_x1 g hg; have := HZ1.out; have := HZ2.out; have := HZ3.out; have := HZ4.out; have := HZ5.out; have := HZ6.out; have := HZ7.out; have := HZ8.out; have := HZ9.out; have := HZ10.out; have := HZ11.out; have := HZ12.out; have := HZ13.out; have := HZ14.out; have := HZ15.out; have := HZ16.out; have := HZ17.out; omega))
  have b17_p_aF_0 := cell_only hb17 (fun hm => by have := new_x1 _ hm; have := lt_x1 _ hm; have := HZ1.out; have := HZ2.out; have := HZ3.out; have := HZ4.out; have := HZ5.out; have := HZ6.out; have := HZ7.out; have := HZ8.out; have := HZ9.out; have := HZ10.out; have := HZ11.out; have := HZ12.out; have := HZ13.out; have := HZ14.out; have := HZ15.out; have := HZ16.out; have := HZ17.out; omega) b16_p_aF_0
  have b17_p_aF_1 := cell_only hb17 (fun hm => by have := new_x1 _ hm; have := lt_x1 _ hm; have := HZ1.out; have := HZ2.out; have := HZ3.out; have := HZ4.out; have := HZ5.out; have := HZ6.out; have := HZ7.out; have := HZ8.out; have := HZ9.out; have := HZ10.out; have := HZ11.out; have := HZ12.out; have := HZ13.out; have := HZ14.out; have := HZ15.out; have := HZ16.out; have := HZ17.out; omega) b16_p_aF_1
  clear b16_p_aF_0 b16_p_aF_1
  have b17_x0_0 := cell_only hb17 (fun hm => by have := new_x1 _ hm; have := lt_x1 _ hm; have := HZ1.out; have := HZ2.out; have := HZ3.out; have := HZ4.out; have := HZ5.out; have := HZ6.out; have := HZ7.out; have := HZ8.out; have := HZ9.out; have := HZ10.out; have := HZ11.out; have := HZ12.out; have := HZ13.out; have := HZ14.out; have := HZ15.out; have := HZ16.out; have := HZ17.out; omega) b16_x0_0
  have b17_x0_1 := cell_only hb17 (fun hm => by have := new_x1 _ hm; have := lt_x1 _ hm; have := HZ1.out; have := HZ2.out; have := HZ3.out; have := HZ4.out; have := HZ5.out; have := HZ6.out; have := HZ7.out; have := HZ8.out; have := HZ9.out; have := HZ10.out; have := HZ11.out; have := HZ12.out; have := HZ13.out; have := HZ14.out; have := HZ15.out; have := HZ16.out; have := HZ17.out; omega) b16_x0_1
  clear b16_x0_0 b16_x0_1
  have ho17_g0 := own_II_only ho16_g0 hb17 (fun b hb hm => by have := new_g0 b hb; have := lt_x1 b hm; have := HZ1.out; have := HZ2.out; have := HZ3.out; have := HZ4.out; have := HZ5.out; have := HZ6.out; have := HZ7.out; have := HZ8.out; have := HZ9.out; have := HZ10.out; have := HZ11.out; have := HZ12.out; have := HZ13.out; have := HZ14.out; have := HZ15.out; have := HZ16.out; have := HZ17.out; omega)
  go_wp2_with fail
  refine (eq_II v10 v6 (valueL x_aF x_aPath) _ (own_II_rd ho17_g0) (own_II_rd (own_II_only ho6 (Only.of_below (fp := []) c17_w0) (by simp)))).mono ?_
  rintro e w18 ⟨rfl, hb18⟩
  have HZ18 := Lib.hid hb18.size
  have c18_w := c17_w.trans (hb18.mono c17_w.size)
  have c18_w0 := c17_w0.trans (hb18.mono c17_w0.size)
  have c18_g0 := hb18
  have b18_p_aF_0 := cell_below hb18 b17_p_aF_0
  have b18_p_aF_1 := cell_below hb18 b17_p_aF_1
  clear b17_p_aF_0 b17_p_aF_1
  have b18_x0_0 := cell_below hb18 b17_x0_0
  have b18_x0_1 := cell_below hb18 b17_x0_1
  clear b17_x0_0 b17_x0_1
  have hc_g0 : cnt_II (valueL x_aF x_aPath) ≤ 10000000000000 := valueL_cnt _ _
  go_wp2_with fail
  refine (mark_II v10 (valueL x_aF x_aPath) fp10 _ _ (own_II_only ho17_g0 (Only.of_below (fp := []) c18_g0) (by simp)) (by omega) (by omega)).mono ?_
  rintro e w19 ⟨rfl, ho19, hb19⟩
  have HZ19 := Lib.hid hb19.size
  have c19_w := c18_w.trans (hb19.below c18_w.size (fun g hg => by have := new_g0 g hg; have := HZ1.out; have := HZ2.out; have := HZ3.out; have := HZ4.out; have := HZ5.out; have := HZ6.out; have := HZ7.out; have := HZ8.out; have := HZ9.out; have := HZ10.out; have := HZ11.out; have := HZ12.out; have := HZ13.out; have := HZ14.out; have := HZ15.out; have := HZ16.out; have := HZ17.out; have := HZ18.out; have := HZ19.out; omega))
  have c19_w0 := c18_w0.trans (hb19.below c18_w0.size (fun g hg => by have := new_g0 g hg; have := HZ1.out; have := HZ2.out; have := HZ3.out; have := HZ4.out; have := HZ5.out; have := HZ6.out; have := HZ7.out; have := HZ8.out; have := HZ9.out; have := HZ10.out; have := HZ11.out; have := HZ12.out; have := HZ13.out; have := HZ14.out; have := HZ15.out; have := HZ16.out; have := HZ17.out; have := HZ18.out; have := HZ19.out; omega))
  have b19_p_aF_0 := cell_only hb19 (fun hm => by have := new_g0 _ hm; have := lt_g0 _ hm; have := HZ1.out; have := HZ2.out; have := HZ3.out; have := HZ4.out; have := HZ5.out; have := HZ6.out; have := HZ7.out; have := HZ8.out; have := HZ9.out; have := HZ10.out; have := HZ11.out; have := HZ12.out; have := HZ13.out; have := HZ14.out; have := HZ15.out; have := HZ16.out; have := HZ17.out; have := HZ18.out; have := HZ19.out; omega) b18_p_aF_0
  have b19_p_aF_1 := cell_only hb19 (fun hm => by have := new_g0 _ hm; have := lt_g0 _ hm; have := HZ1.out; have := HZ2.out; have := HZ3.out; have := HZ4.out; have := HZ5.out; have := HZ6.out; have := HZ7.out; have := HZ8.out; have := HZ9.out; have := HZ10.out; have := HZ11.out; have := HZ12.out; have := HZ13.out; have := HZ14.out; have := HZ15.out; have := HZ16.out; have := HZ17.out; have := HZ18.out; have := HZ19.out; omega) b18_p_aF_1
  clear b18_p_aF_0 b18_p_aF_1
  have b19_x0_0 := cell_only hb19 (fun hm => by have := new_g0 _ hm; have := lt_g0 _ hm; have := HZ1.out; have := HZ2.out; have := HZ3.out; have := HZ4.out; have := HZ5.out; have := HZ6.out; have := HZ7.out; have := HZ8.out; have := HZ9.out; have := HZ10.out; have := HZ11.out; have := HZ12.out; have := HZ13.out; have := HZ14.out; have := HZ15.out; have := HZ16.out; have := HZ17.out; have := HZ18.out; have := HZ19.out; omega) b18_x0_0
  have b19_x0_1 := cell_only hb19 (fun hm => by have := new_g0 _ hm; have := lt_g0 _ hm; have := HZ1.out; have := HZ2.out; have := HZ3.out; have := HZ4.out; have := HZ5.out; have := HZ6.out; have := HZ7.out; have := HZ8.out; have := HZ9.out; have := HZ10.out; have := HZ11.out; have := HZ12.out; have := HZ13.out; have := HZ14.out; have := HZ15.out; have := HZ16.out; have := HZ17.out; have := HZ18.out; have := HZ19.out; omega) b18_x0_1
  clear b18_x0_0 b18_x0_1
  go_wp2_with fail
  refine (held_II v10 (valueL x_aF x_aPath) 1 _ (own_II_rd ho19) (by omega) (by omega)).mono ?_
  rintro e w20 ⟨rfl, hb20⟩
  have HZ20 := Lib.hid hb20.size
  have c20_w := c19_w.trans (hb20.mono c19_w.size)
  have c20_w0 := c19_w0.trans (hb20.mono c19_w0.size)
  have c20_g0 := hb20
  have b20_p_aF_0 := cell_below hb20 b19_p_aF_0
  have b20_p_aF_1 := cell_below hb20 b19_p_aF_1
  clear b19_p_aF_0 b19_p_aF_1
  have b20_x0_0 := cell_below hb20 b19_x0_0
  have b20_x0_1 := cell_below hb20 b19_x0_1
  clear b19_x0_0 b19_x0_1
  go_wp2_with fail
  refine (to_Fld (.agg #[.int .i64 x_aF.dim, .slice vPa_aF vPl_aF vPc_aF]) x_aF _ (rd_Fld_mono c20_w h_aF) fit_aF).mono ?_
  rintro e w21 ⟨v21, fp21, rfl, ho21, hn21, hb21⟩
  have HZ21 := Lib.hid hb21.size
  have c21_w := c20_w.trans (hb21.mono c20_w.size)
  have c21_w0 := c20_w0.trans (hb21.mono c20_w0.size)
  have c21_g0 := c20_g0.trans (hb21.mono c20_g0.size)
  have b21_p_aF_0 := cell_below hb21 b20_p_aF_0
  have b21_p_aF_1 := cell_below hb21 b20_p_aF_1
  clear b20_p_aF_0 b20_p_aF_1
  have b21_x0_0 := cell_below hb21 b20_x0_0
  have b21_x0_1 := cell_below hb21 b20_x0_1
  clear b20_x0_0 b20_x0_1
  have new_t21 := hn21
  have lt_t21 := own_Fld_lt ho21
  have ho21_k := ho21
  obtain ⟨vP_t21, rfl, hI_t21, hoP_t21⟩ := ho21_k
  obtain ⟨vPa_t21, vPl_t21, vPc_t21, rfl⟩ := ownMss_slice hoP_t21
  go_wp2_with fail
  refine (to_II v_aPath x_aPath _ (rd_II_mono c21_w h_aPath) fit_aPath).mono ?_
  rintro e w22 ⟨v22, fp22, rfl, ho22, hn22, hb22⟩
  have HZ22 := Lib.hid hb22.size
  have c22_w := c21_w.trans (hb22.mono c21_w.size)
  have c22_w0 := c21_w0.trans (hb22.mono c21_w0.size)
  have c22_g0 := c21_g0.trans (hb22.mono c21_g0.size)
  have c22_t21 := hb22
  have b22_p_aF_0 := cell_below hb22 b21_p_aF_0
  have b22_p_aF_1 := cell_below hb22 b21_p_aF_1
  clear b21_p_aF_0 b21_p_aF_1
  have b22_x0_0 := cell_below hb22 b21_x0_0
  have b22_x0_1 := cell_below hb22 b21_x0_1
  clear b21_x0_0 b21_x0_1
  have new_t22 := hn22
  have lt_t22 := own_II_lt ho22
  go_wp2_with fail
  refine (valueAlong_c (.agg #[.int .i64 x_aF.dim, .slice vPa_t21 vPl_t21 vPc_t21]) x_aF v22 x_aPath _ (own_Fld_rd (own_Fld_only ho21 (Only.of_below (fp := []) c22_t21) (by simp))) (own_II_rd ho22) fit_aF).mono ?_
  rintro e w23 ⟨v23, fp23, rfl, ho23, hn23, hb23⟩
  have HZ23 := Lib.hid hb23.size
  have c23_w := c22_w.trans (hb23.mono c22_w.size)
  have c23_w0 := c22_w0.trans (hb23.mono c22_w0.size)
  have c23_g0 := c22_g0.trans (hb23.mono c22_g0.size)
  have c23_t21 := c22_t21.trans (hb23.mono c22_t21.size)
  have c23_t22 := hb23
  have b23_p_aF_0 := cell_below hb23 b22_p_aF_0
  have b23_p_aF_1 := cell_below hb23 b22_p_aF_1
  clear b22_p_aF_0 b22_p_aF_1
  have b23_x0_0 := cell_below hb23 b22_x0_0
  have b23_x0_1 := cell_below hb23 b22_x0_1
  clear b22_x0_0 b22_x0_1
  have new_h0 := hn23
  have lt_h0 := own_II_lt ho23
  go_wp2_with fail
  refine (eq_II v23 v6 (valueL x_aF x_aPath) _ (own_II_rd ho23) (own_II_rd (own_II_only ho6 (Only.of_below (fp := []) c23_w0) (by simp)))).mono ?_
  rintro e w24 ⟨rfl, hb24⟩
  have HZ24 := Lib.hid hb24.size
  have c24_w := c23_w.trans (hb24.mono c23_w.size)
  have c24_w0 := c23_w0.trans (hb24.mono c23_w0.size)
  have c24_g0 := c23_g0.trans (hb24.mono c23_g0.size)
  have c24_h0 := hb24
  have b24_p_aF_0 := cell_below hb24 b23_p_aF_0
  have b24_p_aF_1 := cell_below hb24 b23_p_aF_1
  clear b23_p_aF_0 b23_p_aF_1
  have b24_x0_0 := cell_below hb24 b23_x0_0
  have b24_x0_1 := cell_below hb24 b23_x0_1
  clear b23_x0_0 b23_x0_1
  go_wp2_with fail
  refine (held_II v10 (valueL x_aF x_aPath) 1 _ (own_II_rd (own_II_only ho19 (Only.of_below (fp := []) c24_g0) (by simp))) (by omega) (by omega)).mono ?_
  rintro e w25 ⟨rfl, hb25⟩
  have HZ25 := Lib.hid hb25.size
  have c25_w := c24_w.trans (hb25.mono c24_w.size)
  have c25_w0 := c24_w0.trans (hb25.mono c24_w0.size)
  have c25_g0 := c24_g0.trans (hb25.mono c24_g0.size)
  have c25_h0 := c24_h0.trans (hb25.mono c24_h0.size)
  have b25_p_aF_0 := cell_below hb25 b24_p_aF_0
  have b25_p_aF_1 := cell_below hb25 b24_p_aF_1
  clear b24_p_aF_0 b24_p_aF_1
  have b25_x0_0 := cell_below hb25 b24_x0_0
  have b25_x0_1 := cell_below hb25 b24_x0_1
  clear b24_x0_0 b24_x0_1
  go_wp2
  go_ret
  exact ⟨rfl, c25_w⟩

set_option maxRecDepth 100000 in
theorem fnExactValueAlong_lifted (os : Os) (started : os.Started) (H : Type) (enc : TypeId × Value → H) :
    ReturnsInHanded {} Try.checked os 8 .any (Rows.fnExactValueAlongSpec.pre6 enc Try.prog Try.f8 Rows.fnExactValueAlongRow.domain false) (Rows.fnExactValueAlongSpec.post enc Try.prog Try.f8 false true false false) := by
  refine returnsInHanded_of_change (C := Try.checked) Try.own started (by kernel_rfl) Try.func8
    (ChangeSpec.witness6 (enc := enc) (C := Try.checked) false ⟨#[], #[.agg #[.int .i64 0, .slice none 0 0], .slice none 0 0], []⟩ 8 (by kernel_rfl) (by kernel_rfl) (by kernel_rfl) (by kernel_rfl)) ?_
  intro W base args ds gs before hval0 hW hcnd _
  have hval : ∀ (j : Nat) t v, Try.f8.params[j]? = some t → args[j]? = some v → Value.okWide Try.prog W .any base t v := hval0
  have hW' := hW
  obtain ⟨p, q, hA0, hV, rfl, hfz, hnd⟩ := hW
  have hA : DataW.TrodAll enc Try.prog W 0 (fun _ => true) true Try.f8.params.toList args.toList ds p := hA0
  rw [Try.params8] at hA hval
  obtain ⟨v0, vs0, d0, ds0, p0, q0, hargs, rfl, rfl, h0, r0⟩ := trodAll_cons hA
  obtain ⟨v1, vs1, d1, ds1, p1, q1, rfl, rfl, rfl, h1, r1⟩ := trodAll_cons r0
  obtain ⟨rfl, rfl, rfl⟩ := trodAll_nil r1
  obtain rfl : args = #[v0, v1] := by cases args; simp_all
  obtain ⟨rfl, rfl⟩ := trodVars_none hV
  have lt0 : ∀ x ∈ p0, x.block < W.heap.size := by obtain ⟨m, hm⟩ := h0; exact DataW.trod_lt m _ _ _ hm
  have k0 := h0
  obtain ⟨x0, w0⟩ := fld_arg (hval 0 32 v0 rfl rfl) h0
  have lt1 : ∀ x ∈ p1, x.block < W.heap.size := by obtain ⟨m, hm⟩ := h1; exact DataW.trod_lt m _ _ _ hm
  have k1 := h1
  obtain ⟨x1, w1⟩ := rdS_of_arg Try.underlying22 Try.cells_ints (by omega) (elII_of_trod Try.underlying24 Try.underlying3 Try.cells_int) (hval 1 22 v1 rfl rfl) h1
  clear hA0 hval0
  refine (fnExactValueAlong_walk v0 x0 v1 x1 W w0 w1).mono fun e W' ⟨he, bel⟩ => ?_
  subst he
  exact ⟨_, rfl, _, _, _, [], _, [], hW', trodAll_mk1 (shut_bool Try.underlying4 _), (trodAll_cons_mk (Below.trod Try.laidOut (by kernel_rfl) (of_decide_eq_true (by kernel_rfl)) k0 bel lt0) (trodAll_cons_mk (Below.trod Try.laidOut (by kernel_rfl) (of_decide_eq_true (by kernel_rfl)) k1 bel lt1) trodAll_mk0)), rfl, bel.frame _, fun h => by cases h⟩

theorem fnExactValueAlong_holds : Rows.FnExactValueAlongSaid :=
  OpenClaim.holds_of_wide 8 Try.f8 rfl rfl rfl rfl rfl rfl rfl ⟨rfl, rfl, rfl, rfl, rfl⟩ rfl rfl rfl rfl rfl (by kernel_rfl) Try.func8 (by kernel_rfl)
    (of_decide_eq_true (by kernel_rfl)) (by unfold Func.isWrapper; first | (rw [if_pos (by decide +kernel)]; kernel_rfl) | (rw [if_neg (by decide +kernel)]; exact ⟨rfl, rfl⟩))
    (fun os started H enc _ => fnExactValueAlong_lifted os started H enc)

#print axioms fnExactValueAlong_holds
end Go.Proofs.Ytdaaamdighojdaa
