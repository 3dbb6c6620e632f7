/- The law FnExactTangentField returns true for every field, and changes nothing that was there. Conditions: none. -/
import Derived.Test.YtdaaamdighojdaaSTan
import Derived.Test.YtdaaamdighojdaaKinds
import Derived.Test.YtdaaamdighojdaaShut
import Derived.Test.YtdaaamdighojdaaOpenF
set_option linter.unusedSimpArgs false
set_option linter.unusedVariables false
namespace Go.Proofs.Ytdaaamdighojdaa
open Go.ChangeShapes Go.WideShapes Go.ChangeAt Go.RowKit

theorem cnt_ms_small {p : List MonZ} {n : Nat} (h12 : p.length ≤ n) (hp : ∀ m ∈ p, m.pows.length ≤ 6) : cnt_Ms p ≤ n * 7 :=
  cntL_le (cnt := cnt_Mon) h12 (m := 7) (fun m hm => by have := hp m hm; unfold cnt_Mon; omega)
theorem cnt_fld_small {f : FldZ} {n : Nat} (h6 : f.parts.length ≤ 6) (hp : ∀ p ∈ f.parts, p.length ≤ n ∧ ∀ m ∈ p, m.pows.length ≤ 6) : cnt_Fld f ≤ 6 * (n * 7) :=
  cntL_le (cnt := cnt_Ms) h6 (m := n * 7) (fun p hp' => cnt_ms_small (hp p hp').1 (hp p hp').2)
theorem tanF_cnt (f : FldZ) : cnt_Fld (tanF f) ≤ 10000000000000 := by
  unfold tanF
  split
  · rename_i hd
    simp only [tanB, Bool.and_eq_true] at hd
    obtain ⟨n, _, hpn, _, hn6, hp⟩ := fldOk_parts hd.2
    refine Nat.le_trans (cnt_fld_small (n := 12) (by omega) (fun q hq => ⟨(hp q hq).1, fun m hm => ?_⟩)) (by omega)
    have := ((hp q hq).2 m hm).2.1
    omega
  · simp [cnt_Fld, cnt_Mss, cntL]
theorem sTangentField_c (v : Value) (f : FldZ) (w : World) (h : Rd_Fld w v f) :
    Calls Try.prog 50 #[v] w (Gives2 (fun w' v fp => Own_Fld w' v (tanF f) fp) (tanB f) w) := sTangent_any v f w h
theorem tangentField_c (v : Value) (f : FldZ) (w : World) (h : Rd_Fld w v f) (hf : Fit_Fld f) :
    Calls Try.prog 51 #[v] w (Gives2 (fun w' v fp => Own_Fld w' v (tanF f) fp) (tanB f) w) := tangent_any v f w h (fun p hp m hm => (hf.2.1 p hp).2 m hm)

set_option maxRecDepth 100000 in
set_option maxHeartbeats 4000000 in
theorem fnExactTangentField_walk (v_aF : Value) (x_aF : FldZ) (w0 : World) (h_aF : Rd_Fld w0 v_aF x_aF) :
    Calls Try.prog 12 #[v_aF] w0 fun e w' => e = .returned (.bool true) ∧ Below w0.heap.size w0 w' := by
  have h_aF_k := h_aF
  obtain ⟨vP_aF, rfl, hI_aF, hP_aF⟩ := h_aF_k
  obtain ⟨vPa_aF, vPl_aF, vPc_aF, rfl⟩ := rdMss_slice hP_aF
  go_enter Try.func12, Try.ntmps12
  go_wp2_with fail
  obtain ⟨w1, hw1⟩ : ∃ W, W = w0.alloc (.cells #[.int .i64 x_aF.dim, .slice vPa_aF vPl_aF vPc_aF] 32) := ⟨_, rfl⟩
  rw [← hw1]
  have hb1 : Below w0.heap.size w0 w1 := hw1 ▸ (Below.refl _ _).alloc (Nat.le_refl _) _
  have HZ1 : Hid (w0.heap.size + 1 ≤ w1.heap.size) := Lib.hid (by rw [hw1]; simp)
  have HE1 : Hid (w1.heap.size = w0.heap.size + 1) := Lib.hid (by rw [hw1]; simp)
  have b1_p_aF_0 : w1.cell? ⟨w0.heap.size, 0, none⟩ = some (.int .i64 x_aF.dim) := by rw [hw1]; simp
  have b1_p_aF_1 : w1.cell? ⟨w0.heap.size, 1, none⟩ = some (.slice vPa_aF vPl_aF vPc_aF) := by rw [hw1]; simp
  clear hw1
  have c1_w := hb1
  go_wp2_with fail
  refine (sz_Fld (.agg #[.int .i64 x_aF.dim, .slice vPa_aF vPl_aF vPc_aF]) x_aF 1048576 _ (rd_Fld_mono c1_w h_aF) (by omega) (by omega)).mono ?_
  rintro e w2 ⟨r2, rfl, hr2, hb2⟩
  have HZ2 := Lib.hid hb2.size
  have c2_w := c1_w.trans (hb2.mono c1_w.size)
  have b2_p_aF_0 := cell_below hb2 b1_p_aF_0
  have b2_p_aF_1 := cell_below hb2 b1_p_aF_1
  clear b1_p_aF_0 b1_p_aF_1
  rcases hr2 with rfl | ⟨hra2, hrb2, fit_aF⟩
  · go_wp2
    go_ret
    exact ⟨rfl, c2_w⟩
  go_wp2_with fail
  refine (to_Fld (.agg #[.int .i64 x_aF.dim, .slice vPa_aF vPl_aF vPc_aF]) x_aF _ (rd_Fld_mono c2_w h_aF) fit_aF).mono ?_
  rintro e w3 ⟨v3, fp3, rfl, ho3, hn3, hb3⟩
  have HZ3 := Lib.hid hb3.size
  have c3_w := c2_w.trans (hb3.mono c2_w.size)
  have b3_p_aF_0 := cell_below hb3 b2_p_aF_0
  have b3_p_aF_1 := cell_below hb3 b2_p_aF_1
  clear b2_p_aF_0 b2_p_aF_1
  have new_t3 := hn3
  have lt_t3 := own_Fld_lt ho3
  have ho3_k := ho3
  obtain ⟨vP_t3, rfl, hI_t3, hoP_t3⟩ := ho3_k
  obtain ⟨vPa_t3, vPl_t3, vPc_t3, rfl⟩ := ownMss_slice hoP_t3
  go_wp2_with fail
  refine (sTangentField_c (.agg #[.int .i64 x_aF.dim, .slice vPa_t3 vPl_t3 vPc_t3]) x_aF _ (own_Fld_rd ho3) ).mono ?_
  rintro e w4 ⟨v4, fp4, rfl, ho4, hn4, hb4⟩
  have HZ4 := Lib.hid hb4.size
  have c4_w := c3_w.trans (hb4.mono c3_w.size)
  have c4_t3 := hb4
  have b4_p_aF_0 := cell_below hb4 b3_p_aF_0
  have b4_p_aF_1 := cell_below hb4 b3_p_aF_1
  clear b3_p_aF_0 b3_p_aF_1
  have new_w0 := hn4
  have lt_w0 := own_Fld_lt ho4
  have ho4_k := ho4
  obtain ⟨vP_w0, rfl, hI_w0, hoP_w0⟩ := ho4_k
  obtain ⟨vPa_w0, vPl_w0, vPc_w0, rfl⟩ := ownMss_slice hoP_w0
  have q5_p_aF_0 := cell_below (w := w4) ((Below.refl _ _).alloc (Nat.le_refl _) (.cells #[.int .i64 ((tanF x_aF)).dim, .slice vPa_w0 vPl_w0 vPc_w0] 37)) b4_p_aF_0
  have q5_p_aF_1 := cell_below (w := w4) ((Below.refl _ _).alloc (Nat.le_refl _) (.cells #[.int .i64 ((tanF x_aF)).dim, .slice vPa_w0 vPl_w0 vPc_w0] 37)) b4_p_aF_1
  go_wp2_with fail
  clear q5_p_aF_0 q5_p_aF_1
  obtain ⟨w5, hw5⟩ : ∃ W, W = w4.alloc (.cells #[.int .i64 ((tanF x_aF)).dim, .slice vPa_w0 vPl_w0 vPc_w0] 37) := ⟨_, rfl⟩
  rw [← hw5]
  have hb5 : Below w4.heap.size w4 w5 := hw5 ▸ (Below.refl _ _).alloc (Nat.le_refl _) _
  have HZ5 : Hid (w4.heap.size + 1 ≤ w5.heap.size) := Lib.hid (by rw [hw5]; simp)
  have b5_w0_0 : w5.cell? ⟨w4.heap.size, 0, none⟩ = some (.int .i64 ((tanF x_aF)).dim) := by rw [hw5]; simp
  have b5_w0_1 : w5.cell? ⟨w4.heap.size, 1, none⟩ = some (.slice vPa_w0 vPl_w0 vPc_w0) := by rw [hw5]; simp
  clear hw5
  have c5_w := c4_w.trans (hb5.mono c4_w.size)
  have c5_t3 := c4_t3.trans (hb5.mono c4_t3.size)
  have c5_w0 := hb5
  have b5_p_aF_0 := cell_below hb5 b4_p_aF_0
  have b5_p_aF_1 := cell_below hb5 b4_p_aF_1
  clear b4_p_aF_0 b4_p_aF_1
  go_wp2_with fail
  refine (to_Fld (.agg #[.int .i64 x_aF.dim, .slice vPa_aF vPl_aF vPc_aF]) x_aF _ (rd_Fld_mono c5_w h_aF) fit_aF).mono ?_
  rintro e w6 ⟨v6, fp6, rfl, ho6, hn6, hb6⟩
  have HZ6 := Lib.hid hb6.size
  have c6_w := c5_w.trans (hb6.mono c5_w.size)
  have c6_w0 := c5_w0.trans (hb6.mono c5_w0.size)
  have b6_p_aF_0 := cell_below hb6 b5_p_aF_0
  have b6_p_aF_1 := cell_below hb6 b5_p_aF_1
  clear b5_p_aF_0 b5_p_aF_1
  have b6_w0_0 := cell_below hb6 b5_w0_0
  have b6_w0_1 := cell_below hb6 b5_w0_1
  clear b5_w0_0 b5_w0_1
  have new_x0 := hn6
  have lt_x0 := own_Fld_lt ho6
  have ho6_k := ho6
  obtain ⟨vP_x0, rfl, hI_x0, hoP_x0⟩ := ho6_k
  obtain ⟨vPa_x0, vPl_x0, vPc_x0, rfl⟩ := ownMss_slice hoP_x0
  have q7_p_aF_0 := cell_below (w := w6) ((Below.refl _ _).alloc (Nat.le_refl _) (.cells #[.int .i64 x_aF.dim, .slice vPa_x0 vPl_x0 vPc_x0] 37)) b6_p_aF_0
  have q7_p_aF_1 := cell_below (w := w6) ((Below.refl _ _).alloc (Nat.le_refl _) (.cells #[.int .i64 x_aF.dim, .slice vPa_x0 vPl_x0 vPc_x0] 37)) b6_p_aF_1
  have q7_w0_0 := cell_below (w := w6) ((Below.refl _ _).alloc (Nat.le_refl _) (.cells #[.int .i64 x_aF.dim, .slice vPa_x0 vPl_x0 vPc_x0] 37)) b6_w0_0
  have q7_w0_1 := cell_below (w := w6) ((Below.refl _ _).alloc (Nat.le_refl _) (.cells #[.int .i64 x_aF.dim, .slice vPa_x0 vPl_x0 vPc_x0] 37)) b6_w0_1
  go_wp2_with fail
  clear q7_p_aF_0 q7_p_aF_1 q7_w0_0 q7_w0_1
  obtain ⟨w7, hw7⟩ : ∃ W, W = w6.alloc (.cells #[.int .i64 x_aF.dim, .slice vPa_x0 vPl_x0 vPc_x0] 37) := ⟨_, rfl⟩
  rw [← hw7]
  have hb7 : Below w6.heap.size w6 w7 := hw7 ▸ (Below.refl _ _).alloc (Nat.le_refl _) _
  have HZ7 : Hid (w6.heap.size + 1 ≤ w7.heap.size) := Lib.hid (by rw [hw7]; simp)
  have b7_x0_0 : w7.cell? ⟨w6.heap.size, 0, none⟩ = some (.int .i64 x_aF.dim) := by rw [hw7]; simp
  have b7_x0_1 : w7.cell? ⟨w6.heap.size, 1, none⟩ = some (.slice vPa_x0 vPl_x0 vPc_x0) := by rw [hw7]; simp
  clear hw7
  have c7_w := c6_w.trans (hb7.mono c6_w.size)
  have c7_w0 := c6_w0.trans (hb7.mono c6_w0.size)
  have c7_x0 := hb7
  have b7_p_aF_0 := cell_below hb7 b6_p_aF_0
  have b7_p_aF_1 := cell_below hb7 b6_p_aF_1
  clear b6_p_aF_0 b6_p_aF_1
  have b7_w0_0 := cell_below hb7 b6_w0_0
  have b7_w0_1 := cell_below hb7 b6_w0_1
  clear b6_w0_0 b6_w0_1
  go_wp2_with fail
  refine (tangentField_c (.agg #[.int .i64 x_aF.dim, .slice vPa_x0 vPl_x0 vPc_x0]) x_aF _ (own_Fld_rd (own_Fld_only ho6 (Only.of_below (fp := []) c7_x0) (by simp))) fit_aF).mono ?_
  rintro e w8 ⟨v8, fp8, rfl, ho8, hn8, hb8⟩
  have HZ8 := Lib.hid hb8.size
  have c8_w := c7_w.trans (hb8.mono c7_w.size)
  have c8_w0 := c7_w0.trans (hb8.mono c7_w0.size)
  have c8_x0 := c7_x0.trans (hb8.mono c7_x0.size)
  have b8_p_aF_0 := cell_below hb8 b7_p_aF_0
  have b8_p_aF_1 := cell_below hb8 b7_p_aF_1
  clear b7_p_aF_0 b7_p_aF_1
  have b8_w0_0 := cell_below hb8 b7_w0_0
  have b8_w0_1 := cell_below hb8 b7_w0_1
  clear b7_w0_0 b7_w0_1
  have b8_x0_0 := cell_below hb8 b7_x0_0
  have b8_x0_1 := cell_below hb8 b7_x0_1
  clear b7_x0_0 b7_x0_1
  have new_g0 := hn8
  have lt_g0 := own_Fld_lt ho8
  have ho8_k := ho8
  obtain ⟨vP_g0, rfl, hI_g0, hoP_g0⟩ := ho8_k
  obtain ⟨vPa_g0, vPl_g0, vPc_g0, rfl⟩ := ownMss_slice hoP_g0
  have q9_p_aF_0 := cell_below (w := w8) ((Below.refl _ _).alloc (Nat.le_refl _) (.cells #[.int .i64 ((tanF x_aF)).dim, .slice vPa_g0 vPl_g0 vPc_g0] 37)) b8_p_aF_0
  have q9_p_aF_1 := cell_below (w := w8) ((Below.refl _ _).alloc (Nat.le_refl _) (.cells #[.int .i64 ((tanF x_aF)).dim, .slice vPa_g0 vPl_g0 vPc_g0] 37)) b8_p_aF_1
  have q9_w0_0 := cell_below (w := w8) ((Below.refl _ _).alloc (Nat.le_refl _) (.cells #[.int .i64 ((tanF x_aF)).dim, .slice vPa_g0 vPl_g0 vPc_g0] 37)) b8_w0_0
  have q9_w0_1 := cell_below (w := w8) ((Below.refl _ _).alloc (Nat.le_refl _) (.cells #[.int .i64 ((tanF x_aF)).dim, .slice vPa_g0 vPl_g0 vPc_g0] 37)) b8_w0_1
  have q9_x0_0 := cell_below (w := w8) ((Below.refl _ _).alloc (Nat.le_refl _) (.cells #[.int .i64 ((tanF x_aF)).dim, .slice vPa_g0 vPl_g0 vPc_g0] 37)) b8_x0_0
  have q9_x0_1 := cell_below (w := w8) ((Below.refl _ _).alloc (Nat.le_refl _) (.cells #[.int .i64 ((tanF x_aF)).dim, .slice vPa_g0 vPl_g0 vPc_g0] 37)) b8_x0_1
  go_wp2_with fail
  clear q9_p_aF_0 q9_p_aF_1 q9_w0_0 q9_w0_1 q9_x0_0 q9_x0_1
  obtain ⟨w9, hw9⟩ : ∃ W, W = w8.alloc (.cells #[.int .i64 ((tanF x_aF)).dim, .slice vPa_g0 vPl_g0 vPc_g0] 37) := ⟨_, rfl⟩
  rw [← hw9]
  have hb9 : Below w8.heap.size w8 w9 := hw9 ▸ (Below.refl _ _).alloc (Nat.le_refl _) _
  have HZ9 : Hid (w8.heap.size + 1 ≤ w9.heap.size) := Lib.hid (by rw [hw9]; simp)
  have b9_g0_0 : w9.cell? ⟨w8.heap.size, 0, none⟩ = some (.int .i64 ((tanF x_aF)).dim) := by rw [hw9]; simp
  have b9_g0_1 : w9.cell? ⟨w8.heap.size, 1, none⟩ = some (.slice vPa_g0 vPl_g0 vPc_g0) := by rw [hw9]; simp
  clear hw9
  have c9_w := c8_w.trans (hb9.mono c8_w.size)
  have c9_w0 := c8_w0.trans (hb9.mono c8_w0.size)
  have c9_x0 := c8_x0.trans (hb9.mono c8_x0.size)
  have c9_g0 := hb9
  have b9_p_aF_0 := cell_below hb9 b8_p_aF_0
  have b9_p_aF_1 := cell_below hb9 b8_p_aF_1
  clear b8_p_aF_0 b8_p_aF_1
  have b9_w0_0 := cell_below hb9 b8_w0_0
  have b9_w0_1 := cell_below hb9 b8_w0_1
  clear b8_w0_0 b8_w0_1
  have b9_x0_0 := cell_below hb9 b8_x0_0
  have b9_x0_1 := cell_below hb9 b8_x0_1
  clear b8_x0_0 b8_x0_1
  go_wp2_with fail
  refine (eq_Fld (.agg #[.int .i64 ((tanF x_aF)).dim, .slice vPa_g0 vPl_g0 vPc_g0]) (.agg #[.int .i64 ((tanF x_aF)).dim, .slice vPa_w0 vPl_w0 vPc_w0]) (tanF x_aF) _ (own_Fld_rd (own_Fld_only ho8 (Only.of_below (fp := []) c9_g0) (by simp))) (own_Fld_rd (own_Fld_only ho4 (Only.of_below (fp := []) c9_w0) (by simp)))).mono ?_
  rintro e w10 ⟨rfl, hb10⟩
  have HZ10 := Lib.hid hb10.size
  have c10_w := c9_w.trans (hb10.mono c9_w.size)
  have c10_w0 := c9_w0.trans (hb10.mono c9_w0.size)
  have c10_x0 := c9_x0.trans (hb10.mono c9_x0.size)
  have c10_g0 := c9_g0.trans (hb10.mono c9_g0.size)
  have b10_p_aF_0 := cell_below hb10 b9_p_aF_0
  have b10_p_aF_1 := cell_below hb10 b9_p_aF_1
  clear b9_p_aF_0 b9_p_aF_1
  have b10_w0_0 := cell_below hb10 b9_w0_0
  have b10_w0_1 := cell_below hb10 b9_w0_1
  clear b9_w0_0 b9_w0_1
  have b10_x0_0 := cell_below hb10 b9_x0_0
  have b10_x0_1 := cell_below hb10 b9_x0_1
  clear b9_x0_0 b9_x0_1
  have b10_g0_0 := cell_below hb10 b9_g0_0
  have b10_g0_1 := cell_below hb10 b9_g0_1
  clear b9_g0_0 b9_g0_1
  go_wp2_with fail
  go_region_held3 (fun w' => w'.cell? ⟨w6.heap.size, 0, none⟩ = some (.int .i64 x_aF.dim) ∧ w'.cell? ⟨w6.heap.size, 1, none⟩ = some (.slice vPa_x0 vPl_x0 vPc_x0) ∧ w'.cell? ⟨w0.heap.size, 0, none⟩ = some (.int .i64 x_aF.dim) ∧ w'.cell? ⟨w0.heap.size, 1, none⟩ = some (.slice vPa_aF vPl_aF vPc_aF)) (first | exact ⟨b10_x0_0, b10_x0_1, b10_p_aF_0, b10_p_aF_1⟩ | exact ⟨b11_x0_0, b11_x0_1, b11_p_aF_0, b11_p_aF_1⟩ | exact ⟨b12_x0_0, b12_x0_1, b12_p_aF_0, b12_p_aF_1⟩) (first | (refine (to_Fld (.agg #[.int .i64 x_aF.dim, .slice vPa_aF vPl_aF vPc_aF]) x_aF _ (rd_Fld_mono c10_w.drew h_aF) fit_aF).mono ?_; rintro e w11 ⟨v11, fp11, rfl, ho11, hn11d, hb11d⟩; have hn11 : ∀ g ∈ fp11, w10.heap.size ≤ g := hn11d; have hb11 : Below w10.heap.size w10 w11 := ⟨hb11d.os, hb11d.tape, hb11d.output, hb11d.size, hb11d.block⟩; clear hn11d hb11d; have HZ11 := Lib.hid hb11.size; have c11_w := c10_w.trans (hb11.mono c10_w.size); have c11_w0 := c10_w0.trans (hb11.mono c10_w0.size); have c11_x0 := c10_x0.trans (hb11.mono c10_x0.size); have c11_g0 := c10_g0.trans (hb11.mono c10_g0.size); have b11_p_aF_0 := cell_below hb11 b10_p_aF_0; have b11_p_aF_1 := cell_below hb11 b10_p_aF_1; clear b10_p_aF_0 b10_p_aF_1; have b11_w0_0 := cell_below hb11 b10_w0_0; have b11_w0_1 := cell_below hb11 b10_w0_1; clear b10_w0_0 b10_w0_1; have b11_x0_0 := cell_below hb11 b10_x0_0; have b11_x0_1 := cell_below hb11 b10_x0_1; clear b10_x0_0 b10_x0_1; have b11_g0_0 := cell_below hb11 b10_g0_0; have b11_g0_1 := cell_below hb11 b10_g0_1; clear b10_g0_0 b10_g0_1; have new_t11 := hn11; have lt_t11 := own_Fld_lt ho11; have ho11_k := ho11; obtain ⟨vP_t11, rfl, hI_t11, hoP_t11⟩ := ho11_k; obtain ⟨vPa_t11, vPl_t11, vPc_t11, rfl⟩ := ownMss_slice hoP_t11) | (refine (eq_Fld (.agg #[.int .i64 x_aF.dim, .slice vPa_x0 vPl_x0 vPc_x0]) (.agg #[.int .i64 x_aF.dim, .slice vPa_t11 vPl_t11 vPc_t11]) x_aF _ (own_Fld_rd (own_Fld_only ho6 (Only.of_below (fp := []) c11_x0) (by simp))) (own_Fld_rd ho11)).mono ?_; rintro e w12 ⟨rfl, hb12⟩; have HZ12 := Lib.hid hb12.size; have c12_w := c11_w.trans (hb12.mono c11_w.size); have c12_w0 := c11_w0.trans (hb12.mono c11_w0.size); have c12_x0 := c11_x0.trans (hb12.mono c11_x0.size); have c12_g0 := c11_g0.trans (hb12.mono c11_g0.size); have c12_t11 := hb12; have b12_p_aF_0 := cell_below hb12 b11_p_aF_0; have b12_p_aF_1 := cell_below hb12 b11_p_aF_1; clear b11_p_aF_0 b11_p_aF_1; have b12_w0_0 := cell_below hb12 b11_w0_0; have b12_w0_1 := cell_below hb12 b11_w0_1; clear b11_w0_0 b11_w0_1; have b12_x0_0 := cell_below hb12 b11_x0_0; have b12_x0_1 := cell_below hb12 b11_x0_1; clear b11_x0_0 b11_x0_1; have b12_g0_0 := cell_below hb12 b11_g0_0; have b12_g0_1 := cell_below hb12 b11_g0_1; clear b11_g0_0 b11_g0_1))
  have hc_x0 := cnt_Fld_le fit_aF
  go_wp2_with fail
  refine (mark_Fld (.agg #[.int .i64 x_aF.dim, .slice vPa_x0 vPl_x0 vPc_x0]) x_aF fp6 _ _ (own_Fld_only ho6 (Only.of_below (fp := []) c12_x0) (by simp)) (by omega) (by omega)).mono ?_
  rintro e w13 ⟨rfl, ho13, hb13⟩
  have HZ13 := Lib.hid hb13.size
  have c13_w := c12_w.trans (hb13.below c12_w.size (fun g hg => by have := new_x0 g hg; have := HZ1.out; have := HZ2.out; have := HZ3.out; have := HZ4.out; have := HZ5.out; have := HZ6.out; have := HZ7.out; have := HZ8.out; have := HZ9.out; have := HZ10.out; have := HZ11.out; have := HZ12.out; have := HZ13.out; omega))
  have c13_w0 := c12_w0.trans (hb13.below c12_w0.size (fun g hg => by have := new_x0 g hg; have := HZ1.out; have := HZ2.out; have := HZ3.out; have := HZ4.out; have := HZ5.out; have := HZ6.out; have := HZ7.out; have := HZ8.out; have := HZ9.out; have := HZ10.out; have := HZ11.out; have := HZ12.out; have := HZ13.out; omega))
  have b13_p_aF_0 := cell_only hb13 (fun hm => by have := new_x0 _ hm; have := lt_x0 _ hm; have := HZ1.out; have := HZ2.out; have := HZ3.out; have := HZ4.out; have := HZ5.out; have := HZ6.out; have := HZ7.out; have := HZ8.out; have := HZ9.out; have := HZ10.out; have := HZ11.out; have := HZ12.out; have := HZ13.out; omega) b12_p_aF_0
  have b13_p_aF_1 := cell_only hb13 (fun hm => by have := new_x0 _ hm; have := lt_x0 _ hm; have := HZ1.out; have := HZ2.out; have := HZ3.out; have := HZ4.out; have := HZ5.out; have := HZ6.out; have := HZ7.out; have := HZ8.out; have := HZ9.out; have := HZ10.out; have := HZ11.out; have := HZ12.out; have := HZ13.out; omega) b12_p_aF_1
  clear b12_p_aF_0 b12_p_aF_1
  have b13_w0_0 := cell_only hb13 (fun hm => by have := new_x0 _ hm; have := lt_x0 _ hm; have := HZ1.out; have := HZ2.out; have := HZ3.out; have := HZ4.out; have := HZ5.out; have := HZ6.out; have := HZ7.out; have := HZ8.out; have := HZ9.out; have := HZ10.out; have := HZ11.out; have := HZ12.out; have := HZ13.out; omega) b12_w0_0
  have b13_w0_1 := cell_only hb13 (fun hm => by have := new_x0 _ hm; have := lt_x0 _ hm; have := HZ1.out; have := HZ2.out; have := HZ3.out; have := HZ4.out; have := HZ5.out; have := HZ6.out; have := HZ7.out; have := HZ8.out; have := HZ9.out; have := HZ10.out; have := HZ11.out; have := HZ12.out; have := HZ13.out; omega) b12_w0_1
  clear b12_w0_0 b12_w0_1
  have b13_x0_0 := cell_only hb13 (fun hm => by have := new_x0 _ hm; have := lt_x0 _ hm; have := HZ1.out; have := HZ2.out; have := HZ3.out; have := HZ4.out; have := HZ5.out; have := HZ6.out; have := HZ7.out; have := HZ8.out; have := HZ9.out; have := HZ10.out; have := HZ11.out; have := HZ12.out; have := HZ13.out; omega) b12_x0_0
  have b13_x0_1 := cell_only hb13 (fun hm => by have := new_x0 _ hm; have := lt_x0 _ hm; have := HZ1.out; have := HZ2.out; have := HZ3.out; have := HZ4.out; have := HZ5.out; have := HZ6.out; have := HZ7.out; have := HZ8.out; have := HZ9.out; have := HZ10.out; have := HZ11.out; have := HZ12.out; have := HZ13.out; omega) b12_x0_1
  clear b12_x0_0 b12_x0_1
  have b13_g0_0 := cell_only hb13 (fun hm => by have := new_x0 _ hm; have := lt_x0 _ hm; have := HZ1.out; have := HZ2.out; have := HZ3.out; have := HZ4.out; have := HZ5.out; have := HZ6.out; have := HZ7.out; have := HZ8.out; have := HZ9.out; have := HZ10.out; have := HZ11.out; have := HZ12.out; have := HZ13.out; omega) b12_g0_0
  have b13_g0_1 := cell_only hb13 (fun hm => by have := new_x0 _ hm; have := lt_x0 _ hm; have := HZ1.out; have := HZ2.out; have := HZ3.out; have := HZ4.out; have := HZ5.out; have := HZ6.out; have := HZ7.out; have := HZ8.out; have := HZ9.out; have := HZ10.out; have := HZ11.out; have := HZ12.out; have := HZ13.out; omega) b12_g0_1
  clear b12_g0_0 b12_g0_1
  have ho13_g0 := own_Fld_only (own_Fld_only ho8 (Only.of_below (fp := []) c12_g0) (by simp)) hb13 (fun b hb hm => by have := new_g0 b hb; have := lt_x0 b hm; have := HZ1.out; have := HZ2.out; have := HZ3.out; have := HZ4.out; have := HZ5.out; have := HZ6.out; have := HZ7.out; have := HZ8.out; have := HZ9.out; have := HZ10.out; have := HZ11.out; have := HZ12.out; have := HZ13.out; omega)
  go_wp2_with fail
  refine (eq_Fld (.agg #[.int .i64 ((tanF x_aF)).dim, .slice vPa_g0 vPl_g0 vPc_g0]) (.agg #[.int .i64 ((tanF x_aF)).dim, .slice vPa_w0 vPl_w0 vPc_w0]) (tanF x_aF) _ (own_Fld_rd ho13_g0) (own_Fld_rd (own_Fld_only ho4 (Only.of_below (fp := []) c13_w0) (by simp)))).mono ?_
  rintro e w14 ⟨rfl, hb14⟩
  have HZ14 := Lib.hid hb14.size
  have c14_w := c13_w.trans (hb14.mono c13_w.size)
  have c14_w0 := c13_w0.trans (hb14.mono c13_w0.size)
  have c14_g0 := hb14
  have b14_p_aF_0 := cell_below hb14 b13_p_aF_0
  have b14_p_aF_1 := cell_below hb14 b13_p_aF_1
  clear b13_p_aF_0 b13_p_aF_1
  have b14_w0_0 := cell_below hb14 b13_w0_0
  have b14_w0_1 := cell_below hb14 b13_w0_1
  clear b13_w0_0 b13_w0_1
  have b14_x0_0 := cell_below hb14 b13_x0_0
  have b14_x0_1 := cell_below hb14 b13_x0_1
  clear b13_x0_0 b13_x0_1
  have b14_g0_0 := cell_below hb14 b13_g0_0
  have b14_g0_1 := cell_below hb14 b13_g0_1
  clear b13_g0_0 b13_g0_1
  have hc_g0 : cnt_Fld (tanF x_aF) ≤ 10000000000000 := tanF_cnt _
  go_wp2_with fail
  refine (mark_Fld (.agg #[.int .i64 ((tanF x_aF)).dim, .slice vPa_g0 vPl_g0 vPc_g0]) (tanF x_aF) fp8 _ _ (own_Fld_only ho13_g0 (Only.of_below (fp := []) c14_g0) (by simp)) (by omega) (by omega)).mono ?_
  rintro e w15 ⟨rfl, ho15, hb15⟩
  have HZ15 := Lib.hid hb15.size
  have c15_w := c14_w.trans (hb15.below c14_w.size (fun g hg => by have := new_g0 g hg; have := HZ1.out; have := HZ2.out; have := HZ3.out; have := HZ4.out; have := HZ5.out; have := HZ6.out; have := HZ7.out; have := HZ8.out; have := HZ9.out; have := HZ10.out; have := HZ11.out; have := HZ12.out; have := HZ13.out; have := HZ14.out; have := HZ15.out; omega))
  have c15_w0 := c14_w0.trans (hb15.below c14_w0.size (fun g hg => by have := new_g0 g hg; have := HZ1.out; have := HZ2.out; have := HZ3.out; have := HZ4.out; have := HZ5.out; have := HZ6.out; have := HZ7.out; have := HZ8.out; have := HZ9.out; have := HZ10.out; have := HZ11.out; have := HZ12.out; have := HZ13.out; have := HZ14.out; have := HZ15.out; omega))
  have b15_p_aF_0 := cell_only hb15 (fun hm => by have := new_g0 _ hm; have := lt_g0 _ hm; have := HZ1.out; have := HZ2.out; have := HZ3.out; have := HZ4.out; have := HZ5.out; have := HZ6.out; have := HZ7.out; have := HZ8.out; have := HZ9.out; have := HZ10.out; have := HZ11.out; have := HZ12.out; have := HZ13.out; have := HZ14.out; have := HZ15.out; omega) b14_p_aF_0
  have b15_p_aF_1 := cell_only hb15 (fun hm => by have := new_g0 _ hm; have := lt_g0 _ hm; have := HZ1.out; have := HZ2.out; have := HZ3.out; have := HZ4.out; have := HZ5.out; have := HZ6.out; have := HZ7.out; have := HZ8.out; have := HZ9.out; have := HZ10.out; have := HZ11.out; have := HZ12.out; have := HZ13.out; have := HZ14.out; have := HZ15.out; omega) b14_p_aF_1
  clear b14_p_aF_0 b14_p_aF_1
  have b15_w0_0 := cell_only hb15 (fun hm => by have := new_g0 _ hm; have := lt_g0 _ hm; have := HZ1.out; have := HZ2.out; have := HZ3.out; have := HZ4.out; have := HZ5.out; have := HZ6.out; have := HZ7.out; have := HZ8.out; have := HZ9.out; have := HZ10.out; have := HZ11.out; have := HZ12.out; have := HZ13.out; have := HZ14.out; have := HZ15.out; omega) b14_w0_0
  have b15_w0_1 := cell_only hb15 (fun hm => by have := new_g0 _ hm; have := lt_g0 _ hm; have := HZ1.out; have := HZ2.out; have := HZ3.out; have := HZ4.out; have := HZ5.out; have := HZ6.out; have := HZ7.out; have := HZ8.out; have := HZ9.out; have := HZ10.out; have := HZ11.out; have := HZ12.out; have := HZ13.out; have := HZ14.out; have := HZ15.out; omega) b14_w0_1
  clear b14_w0_0 b14_w0_1
  have b15_x0_0 := cell_only hb15 (fun hm => by have := new_g0 _ hm; have := lt_g0 _ hm; have := HZ1.out; have := HZ2.out; have := HZ3.out; have := HZ4.out; have := HZ5.out; have := HZ6.out; have := HZ7.out; have := HZ8.out; have := HZ9.out; have := HZ10.out; have := HZ11.out; have := HZ12.out; have := HZ13.out; have := HZ14.out; have := HZ15.out; omega) b14_x0_0
  have b15_x0_1 := cell_only hb15 (fun hm => by have := new_g0 _ hm; have := lt_g0 _ hm; have := HZ1.out; have := HZ2.out; have := HZ3.out; have := HZ4.out; have := HZ5.out; have := HZ6.out; have := HZ7.out; have := HZ8.out; have := HZ9.out; have := HZ10.out; have := HZ11.out; have := HZ12.out; have := HZ13.out; have := HZ14.out; have := HZ15.out; omega) b14_x0_1
  clear b14_x0_0 b14_x0_1
  have b15_g0_0 := cell_only hb15 (fun hm => by have := new_g0 _ hm; have := lt_g0 _ hm; have := HZ1.out; have := HZ2.out; have := HZ3.out; have := HZ4.out; have := HZ5.out; have := HZ6.out; have := HZ7.out; have := HZ8.out; have := HZ9.out; have := HZ10.out; have := HZ11.out; have := HZ12.out; have := HZ13.out; have := HZ14.out; have := HZ15.out; omega) b14_g0_0
  have b15_g0_1 := cell_only hb15 (fun hm => by have := new_g0 _ hm; have := lt_g0 _ hm; have := HZ1.out; have := HZ2.out; have := HZ3.out; have := HZ4.out; have := HZ5.out; have := HZ6.out; have := HZ7.out; have := HZ8.out; have := HZ9.out; have := HZ10.out; have := HZ11.out; have := HZ12.out; have := HZ13.out; have := HZ14.out; have := HZ15.out; omega) b14_g0_1
  clear b14_g0_0 b14_g0_1
  go_wp2_with fail
  refine (held_Fld (.agg #[.int .i64 ((tanF x_aF)).dim, .slice vPa_g0 vPl_g0 vPc_g0]) (tanF x_aF) 1 _ (own_Fld_rd ho15) (by omega) (by omega)).mono ?_
  rintro e w16 ⟨rfl, hb16⟩
  have HZ16 := Lib.hid hb16.size
  have c16_w := c15_w.trans (hb16.mono c15_w.size)
  have c16_w0 := c15_w0.trans (hb16.mono c15_w0.size)
  have c16_g0 := hb16
  have b16_p_aF_0 := cell_below hb16 b15_p_aF_0
  have b16_p_aF_1 := cell_below hb16 b15_p_aF_1
  clear b15_p_aF_0 b15_p_aF_1
  have b16_w0_0 := cell_below hb16 b15_w0_0
  have b16_w0_1 := cell_below hb16 b15_w0_1
  clear b15_w0_0 b15_w0_1
  have b16_x0_0 := cell_below hb16 b15_x0_0
  have b16_x0_1 := cell_below hb16 b15_x0_1
  clear b15_x0_0 b15_x0_1
  have b16_g0_0 := cell_below hb16 b15_g0_0
  have b16_g0_1 := cell_below hb16 b15_g0_1
  clear b15_g0_0 b15_g0_1
  go_wp2_with fail
  refine (to_Fld (.agg #[.int .i64 x_aF.dim, .slice vPa_aF vPl_aF vPc_aF]) x_aF _ (rd_Fld_mono c16_w h_aF) fit_aF).mono ?_
  rintro e w17 ⟨v17, fp17, rfl, ho17, hn17, hb17⟩
  have HZ17 := Lib.hid hb17.size
  have c17_w := c16_w.trans (hb17.mono c16_w.size)
  have c17_w0 := c16_w0.trans (hb17.mono c16_w0.size)
  have c17_g0 := c16_g0.trans (hb17.mono c16_g0.size)
  have b17_p_aF_0 := cell_below hb17 b16_p_aF_0
  have b17_p_aF_1 := cell_below hb17 b16_p_aF_1
  clear b16_p_aF_0 b16_p_aF_1
  have b17_w0_0 := cell_below hb17 b16_w0_0
  have b17_w0_1 := cell_below hb17 b16_w0_1
  clear b16_w0_0 b16_w0_1
  have b17_x0_0 := cell_below hb17 b16_x0_0
  have b17_x0_1 := cell_below hb17 b16_x0_1
  clear b16_x0_0 b16_x0_1
  have b17_g0_0 := cell_below hb17 b16_g0_0
  have b17_g0_1 := cell_below hb17 b16_g0_1
  clear b16_g0_0 b16_g0_1
  have new_t17 := hn17
  have lt_t17 := own_Fld_lt ho17
  have ho17_k := ho17
  obtain ⟨vP_t17, rfl, hI_t17, hoP_t17⟩ := ho17_k
  obtain ⟨vPa_t17, vPl_t17, vPc_t17, rfl⟩ := ownMss_slice hoP_t17
  go_wp2_with fail
  refine (tangentField_c (.agg #[.int .i64 x_aF.dim, .slice vPa_t17 vPl_t17 vPc_t17]) x_aF _ (own_Fld_rd ho17) fit_aF).mono ?_
  rintro e w18 ⟨v18, fp18, rfl, ho18, hn18, hb18⟩
  have HZ18 := Lib.hid hb18.size
  have c18_w := c17_w.trans (hb18.mono c17_w.size)
  have c18_w0 := c17_w0.trans (hb18.mono c17_w0.size)
  have c18_g0 := c17_g0.trans (hb18.mono c17_g0.size)
  have c18_t17 := hb18
  have b18_p_aF_0 := cell_below hb18 b17_p_aF_0
  have b18_p_aF_1 := cell_below hb18 b17_p_aF_1
  clear b17_p_aF_0 b17_p_aF_1
  have b18_w0_0 := cell_below hb18 b17_w0_0
  have b18_w0_1 := cell_below hb18 b17_w0_1
  clear b17_w0_0 b17_w0_1
  have b18_x0_0 := cell_below hb18 b17_x0_0
  have b18_x0_1 := cell_below hb18 b17_x0_1
  clear b17_x0_0 b17_x0_1
  have b18_g0_0 := cell_below hb18 b17_g0_0
  have b18_g0_1 := cell_below hb18 b17_g0_1
  clear b17_g0_0 b17_g0_1
  have new_h0 := hn18
  have lt_h0 := own_Fld_lt ho18
  have ho18_k := ho18
  obtain ⟨vP_h0, rfl, hI_h0, hoP_h0⟩ := ho18_k
  obtain ⟨vPa_h0, vPl_h0, vPc_h0, rfl⟩ := ownMss_slice hoP_h0
  have q19_p_aF_0 := cell_below (w := w18) ((Below.refl _ _).alloc (Nat.le_refl _) (.cells #[.int .i64 ((tanF x_aF)).dim, .slice vPa_h0 vPl_h0 vPc_h0] 37)) b18_p_aF_0
  have q19_p_aF_1 := cell_below (w := w18) ((Below.refl _ _).alloc (Nat.le_refl _) (.cells #[.int .i64 ((tanF x_aF)).dim, .slice vPa_h0 vPl_h0 vPc_h0] 37)) b18_p_aF_1
  have q19_w0_0 := cell_below (w := w18) ((Below.refl _ _).alloc (Nat.le_refl _) (.cells #[.int .i64 ((tanF x_aF)).dim, .slice vPa_h0 vPl_h0 vPc_h0] 37)) b18_w0_0
  have q19_w0_1 := cell_below (w := w18) ((Below.refl _ _).alloc (Nat.le_refl _) (.cells #[.int .i64 ((tanF x_aF)).dim, .slice vPa_h0 vPl_h0 vPc_h0] 37)) b18_w0_1
  have q19_x0_0 := cell_below (w := w18) ((Below.refl _ _).alloc (Nat.le_refl _) (.cells #[.int .i64 ((tanF x_aF)).dim, .slice vPa_h0 vPl_h0 vPc_h0] 37)) b18_x0_0
  have q19_x0_1 := cell_below (w := w18) ((Below.refl _ _).alloc (Nat.le_refl _) (.cells #[.int .i64 ((tanF x_aF)).dim, .slice vPa_h0 vPl_h0 vPc_h0] 37)) b18_x0_1
  have q19_g0_0 := cell_below (w := w18) ((Below.refl _ _).alloc (Nat.le_refl _) (.cells #[.int .i64 ((tanF x_aF)).dim, .slice vPa_h0 vPl_h0 vPc_h0] 37)) b18_g0_0
  have q19_g0_1 := cell_below (w := w18) ((Below.refl _ _).alloc (Nat.le_refl _) (.cells #[.int .i64 ((tanF x_aF)).dim, .slice vPa_h0 vPl_h0 vPc_h0] 37)) b18_g0_1
  go_wp2_with fail
  clear q19_p_aF_0 q19_p_aF_1 q19_w0_0 q19_w0_1 q19_x0_0 q19_x0_1 q19_g0_0 q19_g0_1
  obtain ⟨w19, hw19⟩ : ∃ W, W = w18.alloc (.cells #[.int .i64 ((tanF x_aF)).dim, .slice vPa_h0 vPl_h0 vPc_h0] 37) := ⟨_, rfl⟩
  rw [← hw19]
  have hb19 : Below w18.heap.size w18 w19 := hw19 ▸ (Below.refl _ _).alloc (Nat.le_refl _) _
  have HZ19 : Hid (w18.heap.size + 1 ≤ w19.heap.size) := Lib.hid (by rw [hw19]; simp)
  have b19_h0_0 : w19.cell? ⟨w18.heap.size, 0, none⟩ = some (.int .i64 ((tanF x_aF)).dim) := by rw [hw19]; simp
  have b19_h0_1 : w19.cell? ⟨w18.heap.size, 1, none⟩ = some (.slice vPa_h0 vPl_h0 vPc_h0) := by rw [hw19]; simp
  clear hw19
  have c19_w := c18_w.trans (hb19.mono c18_w.size)
  have c19_w0 := c18_w0.trans (hb19.mono c18_w0.size)
  have c19_g0 := c18_g0.trans (hb19.mono c18_g0.size)
  have c19_t17 := c18_t17.trans (hb19.mono c18_t17.size)
  have c19_h0 := hb19
  have b19_p_aF_0 := cell_below hb19 b18_p_aF_0
  have b19_p_aF_1 := cell_below hb19 b18_p_aF_1
  clear b18_p_aF_0 b18_p_aF_1
  have b19_w0_0 := cell_below hb19 b18_w0_0
  have b19_w0_1 := cell_below hb19 b18_w0_1
  clear b18_w0_0 b18_w0_1
  have b19_x0_0 := cell_below hb19 b18_x0_0
  have b19_x0_1 := cell_below hb19 b18_x0_1
  clear b18_x0_0 b18_x0_1
  have b19_g0_0 := cell_below hb19 b18_g0_0
  have b19_g0_1 := cell_below hb19 b18_g0_1
  clear b18_g0_0 b18_g0_1
  go_wp2_with fail
  refine (eq_Fld (.agg #[.int .i64 ((tanF x_aF)).dim, .slice vPa_h0 vPl_h0 vPc_h0]) (.agg #[.int .i64 ((tanF x_aF)).dim, .slice vPa_w0 vPl_w0 vPc_w0]) (tanF x_aF) _ (own_Fld_rd (own_Fld_only ho18 (Only.of_below (fp := []) c19_h0) (by simp))) (own_Fld_rd (own_Fld_only ho4 (Only.of_below (fp := []) c19_w0) (by simp)))).mono ?_
  rintro e w20 ⟨rfl, hb20⟩
  have HZ20 := Lib.hid hb20.size
  have c20_w := c19_w.trans (hb20.mono c19_w.size)
  have c20_w0 := c19_w0.trans (hb20.mono c19_w0.size)
  have c20_g0 := c19_g0.trans (hb20.mono c19_g0.size)
  have c20_h0 := c19_h0.trans (hb20.mono c19_h0.size)
  have b20_p_aF_0 := cell_below hb20 b19_p_aF_0
  have b20_p_aF_1 := cell_below hb20 b19_p_aF_1
  clear b19_p_aF_0 b19_p_aF_1
  have b20_w0_0 := cell_below hb20 b19_w0_0
  have b20_w0_1 := cell_below hb20 b19_w0_1
  clear b19_w0_0 b19_w0_1
  have b20_x0_0 := cell_below hb20 b19_x0_0
  have b20_x0_1 := cell_below hb20 b19_x0_1
  clear b19_x0_0 b19_x0_1
  have b20_g0_0 := cell_below hb20 b19_g0_0
  have b20_g0_1 := cell_below hb20 b19_g0_1
  clear b19_g0_0 b19_g0_1
  have b20_h0_0 := cell_below hb20 b19_h0_0
  have b20_h0_1 := cell_below hb20 b19_h0_1
  clear b19_h0_0 b19_h0_1
  go_wp2_with fail
  refine (held_Fld (.agg #[.int .i64 ((tanF x_aF)).dim, .slice vPa_g0 vPl_g0 vPc_g0]) (tanF x_aF) 1 _ (own_Fld_rd (own_Fld_only ho15 (Only.of_below (fp := []) c20_g0) (by simp))) (by omega) (by omega)).mono ?_
  rintro e w21 ⟨rfl, hb21⟩
  have HZ21 := Lib.hid hb21.size
  have c21_w := c20_w.trans (hb21.mono c20_w.size)
  have c21_w0 := c20_w0.trans (hb21.mono c20_w0.size)
  have c21_g0 := c20_g0.trans (hb21.mono c20_g0.size)
  have c21_h0 := c20_h0.trans (hb21.mono c20_h0.size)
  have b21_p_aF_0 := cell_below hb21 b20_p_aF_0
  have b21_p_aF_1 := cell_below hb21 b20_p_aF_1
  clear b20_p_aF_0 b20_p_aF_1
  have b21_w0_0 := cell_below hb21 b20_w0_0
  have b21_w0_1 := cell_below hb21 b20_w0_1
  clear b20_w0_0 b20_w0_1
  have b21_x0_0 := cell_below hb21 b20_x0_0
  have b21_x0_1 := cell_below hb21 b20_x0_1
  clear b20_x0_0 b20_x0_1
  have b21_g0_0 := cell_below hb21 b20_g0_0
  have b21_g0_1 := cell_below hb21 b20_g0_1
  clear b20_g0_0 b20_g0_1
  have b21_h0_0 := cell_below hb21 b20_h0_0
  have b21_h0_1 := cell_below hb21 b20_h0_1
  clear b20_h0_0 b20_h0_1
  go_wp2
  go_ret
  exact ⟨rfl, c21_w⟩

set_option maxRecDepth 100000 in
theorem fnExactTangentField_lifted (os : Os) (started : os.Started) (H : Type) (enc : TypeId × Value → H) :
    ReturnsInHanded {} Try.checked os 12 .any (Rows.fnExactTangentFieldSpec.pre6 enc Try.prog Try.f12 Rows.fnExactTangentFieldRow.domain false) (Rows.fnExactTangentFieldSpec.post enc Try.prog Try.f12 false true false false) := by
  refine returnsInHanded_of_change (C := Try.checked) Try.own started (by kernel_rfl) Try.func12
    (ChangeSpec.witness6 (enc := enc) (C := Try.checked) false ⟨#[], #[.agg #[.int .i64 0, .slice none 0 0]], []⟩ 8 (by kernel_rfl) (by kernel_rfl) (by kernel_rfl) (by kernel_rfl)) ?_
  intro W base args ds gs before hval0 hW hcnd _
  have hval : ∀ (j : Nat) t v, Try.f12.params[j]? = some t → args[j]? = some v → Value.okWide Try.prog W .any base t v := hval0
  have hW' := hW
  obtain ⟨p, q, hA0, hV, rfl, hfz, hnd⟩ := hW
  have hA : DataW.TrodAll enc Try.prog W 0 (fun _ => true) true Try.f12.params.toList args.toList ds p := hA0
  rw [Try.params12] at hA hval
  obtain ⟨v0, vs0, d0, ds0, p0, q0, hargs, rfl, rfl, h0, r0⟩ := trodAll_cons hA
  obtain ⟨rfl, rfl, rfl⟩ := trodAll_nil r0
  obtain rfl : args = #[v0] := by cases args; simp_all
  obtain ⟨rfl, rfl⟩ := trodVars_none hV
  have lt0 : ∀ x ∈ p0, x.block < W.heap.size := by obtain ⟨m, hm⟩ := h0; exact DataW.trod_lt m _ _ _ hm
  have k0 := h0
  obtain ⟨x0, w0⟩ := fld_arg (hval 0 32 v0 rfl rfl) h0
  clear hA0 hval0
  refine (fnExactTangentField_walk v0 x0 W w0).mono fun e W' ⟨he, bel⟩ => ?_
  subst he
  exact ⟨_, rfl, _, _, _, [], _, [], hW', trodAll_mk1 (shut_bool Try.underlying4 _), (trodAll_cons_mk (Below.trod Try.laidOut (by kernel_rfl) (of_decide_eq_true (by kernel_rfl)) k0 bel lt0) trodAll_mk0), rfl, bel.frame _, fun h => by cases h⟩

theorem fnExactTangentField_holds : Rows.FnExactTangentFieldSaid :=
  OpenClaim.holds_of_wide 12 Try.f12 rfl rfl rfl rfl rfl rfl rfl ⟨rfl, rfl, rfl, rfl, rfl⟩ rfl rfl rfl rfl rfl (by kernel_rfl) Try.func12 (by kernel_rfl)
    (of_decide_eq_true (by kernel_rfl)) (by unfold Func.isWrapper; first | (rw [if_pos (by decide +kernel)]; kernel_rfl) | (rw [if_neg (by decide +kernel)]; exact ⟨rfl, rfl⟩))
    (fun os started H enc _ => fnExactTangentField_lifted os started H enc)

#print axioms fnExactTangentField_holds
end Go.Proofs.Ytdaaamdighojdaa
