/- The law FnExactHamiltonField returns true for every polynomial and dimension, and changes nothing that was there. Conditions: none. -/
import Derived.Test.YtdaaamdighojdaaHamI
import Derived.Test.YtdaaamdighojdaaKinds
import Derived.Test.YtdaaamdighojdaaShut
import Derived.Test.YtdaaamdighojdaaOpenF
set_option linter.unusedSimpArgs false
set_option linter.unusedVariables false
namespace Go.Proofs.Ytdaaamdighojdaa
open Go.ChangeShapes Go.WideShapes Go.ChangeAt Go.RowKit

theorem cnt_ms_small {p : List MonZ} {n : Nat} (h12 : p.length ≤ n) (hp : ∀ m ∈ p, m.pows.length ≤ 6) : cnt_Ms p ≤ n * 7 :=
  cntL_le (cnt := cnt_Mon) h12 (m := 7) (fun m hm => by have := hp m hm; unfold cnt_Mon; omega)
theorem cnt_fld_small {f : FldZ} {n : Nat} (h6 : f.parts.length ≤ 6) (hp : ∀ p ∈ f.parts, p.length ≤ n ∧ ∀ m ∈ p, m.pows.length ≤ 6) : cnt_Fld f ≤ 6 * (n * 7) :=
  cntL_le (cnt := cnt_Ms) h6 (m := n * 7) (fun p hp' => cnt_ms_small (hp p hp').1 (hp p hp').2)
theorem hamF_cnt (p : List MonZ) (dim : Int) : cnt_Fld (hamF p dim) ≤ 10000000000000 := by
  unfold hamF
  split
  · rename_i hd
    simp only [hamB, Bool.and_eq_true, decide_eq_true_eq] at hd
    obtain ⟨N, m, rfl, hN, hm1, hm3, _, _⟩ := ham_dim hd.1 hd.2
    obtain ⟨_, p6, p12, pf⟩ := polyOk_facts hd.2
    refine Nat.le_trans (cnt_fld_small (n := 12) (by rw [hamP_len]; omega) (fun q hq => ?_)) (by omega)
    simp only [hamP, List.mem_map] at hq
    obtain ⟨k, _, rfl⟩ := hq
    have key : ∀ v s, (partL v s p).length ≤ 12 ∧ ∀ m ∈ partL v s p, m.pows.length ≤ 6 := fun v s =>
      ⟨partL_le v s p12, fun x hx => by rw [partL_pows (n := N) (fun m hm => (pf m hm).2.1) x hx]; exact p6⟩
    split
    · exact key _ _
    · exact key _ _
  · simp [cnt_Fld, cnt_Mss, cntL]
theorem sHamiltonField_c (v : Value) (p : List MonZ) (d : Int) (w : World) (h : Rd_Ms w v p) (hI : I64 d) :
    Calls Try.prog 29 #[v, .int .i64 d] w (Gives2 (fun w' v fp => Own_Fld w' v (hamF p d) fp) (hamB p d) w) := sHam_any v p d w h hI
theorem hamiltonField_c (v : Value) (p : List MonZ) (d : Int) (w : World) (h : Rd_Ms w v p) (hI : I64 d) (hf : Fit_Ms p) :
    Calls Try.prog 31 #[v, .int .i64 d] w (Gives2 (fun w' v fp => Own_Fld w' v (hamF p d) fp) (hamB p d) w) := ham_any v p d w h hI hf.2

set_option maxRecDepth 100000 in
set_option maxHeartbeats 4000000 in
theorem fnExactHamiltonField_walk (v_aH : Value) (x_aH : List MonZ) (n_aDim : Int) (w0 : World) (h_aH : Rd_Ms w0 v_aH x_aH) (i_aDim : I64 n_aDim) :
    Calls Try.prog 5 #[v_aH, .int .i64 n_aDim] w0 fun e w' => e = .returned (.bool true) ∧ Below w0.heap.size w0 w' := by
  go_enter Try.func5, Try.ntmps5
  go_wp2_with fail
  refine (sz_Ms v_aH x_aH 1048576 _ (rd_Ms_mono (Below.refl w0.heap.size w0) h_aH) (by omega) (by omega)).mono ?_
  rintro e w1 ⟨r1, rfl, hr1, hb1⟩
  have HZ1 := Lib.hid hb1.size
  have c1_w := hb1
  rcases hr1 with rfl | ⟨hra1, hrb1, fit_aH⟩
  · go_wp2
    go_ret
    exact ⟨rfl, c1_w⟩
  go_wp2_with fail
  refine (to_Ms v_aH x_aH _ (rd_Ms_mono c1_w h_aH) fit_aH).mono ?_
  rintro e w2 ⟨v2, fp2, rfl, ho2, hn2, hb2⟩
  have HZ2 := Lib.hid hb2.size
  have c2_w := c1_w.trans (hb2.mono c1_w.size)
  have new_t2 := hn2
  have lt_t2 := own_Ms_lt ho2
  go_wp2_with fail
  refine (sHamiltonField_c v2 x_aH n_aDim _ (own_Ms_rd ho2) i_aDim).mono ?_
  rintro e w3 ⟨v3, fp3, rfl, ho3, hn3, hb3⟩
  have HZ3 := Lib.hid hb3.size
  have c3_w := c2_w.trans (hb3.mono c2_w.size)
  have c3_t2 := hb3
  have new_w0 := hn3
  have lt_w0 := own_Fld_lt ho3
  have ho3_k := ho3
  obtain ⟨vP_w0, rfl, hI_w0, hoP_w0⟩ := ho3_k
  obtain ⟨vPa_w0, vPl_w0, vPc_w0, rfl⟩ := ownMss_slice hoP_w0
  go_wp2_with fail
  obtain ⟨w4, hw4⟩ : ∃ W, W = w3.alloc (.cells #[.int .i64 ((hamF x_aH n_aDim)).dim, .slice vPa_w0 vPl_w0 vPc_w0] 37) := ⟨_, rfl⟩
  rw [← hw4]
  have hb4 : Below w3.heap.size w3 w4 := hw4 ▸ (Below.refl _ _).alloc (Nat.le_refl _) _
  have HZ4 : Hid (w3.heap.size + 1 ≤ w4.heap.size) := Lib.hid (by rw [hw4]; simp)
  have b4_w0_0 : w4.cell? ⟨w3.heap.size, 0, none⟩ = some (.int .i64 ((hamF x_aH n_aDim)).dim) := by rw [hw4]; simp
  have b4_w0_1 : w4.cell? ⟨w3.heap.size, 1, none⟩ = some (.slice vPa_w0 vPl_w0 vPc_w0) := by rw [hw4]; simp
  clear hw4
  have c4_w := c3_w.trans (hb4.mono c3_w.size)
  have c4_t2 := c3_t2.trans (hb4.mono c3_t2.size)
  have c4_w0 := hb4
  go_wp2_with fail
  refine (to_Ms v_aH x_aH _ (rd_Ms_mono c4_w h_aH) fit_aH).mono ?_
  rintro e w5 ⟨v5, fp5, rfl, ho5, hn5, hb5⟩
  have HZ5 := Lib.hid hb5.size
  have c5_w := c4_w.trans (hb5.mono c4_w.size)
  have c5_w0 := c4_w0.trans (hb5.mono c4_w0.size)
  have b5_w0_0 := cell_below hb5 b4_w0_0
  have b5_w0_1 := cell_below hb5 b4_w0_1
  clear b4_w0_0 b4_w0_1
  have new_x0 := hn5
  have lt_x0 := own_Ms_lt ho5
  go_wp2_with fail
  refine (hamiltonField_c v5 x_aH n_aDim _ (own_Ms_rd ho5) i_aDim fit_aH).mono ?_
  rintro e w6 ⟨v6, fp6, rfl, ho6, hn6, hb6⟩
  have HZ6 := Lib.hid hb6.size
  have c6_w := c5_w.trans (hb6.mono c5_w.size)
  have c6_w0 := c5_w0.trans (hb6.mono c5_w0.size)
  have c6_x0 := hb6
  have b6_w0_0 := cell_below hb6 b5_w0_0
  have b6_w0_1 := cell_below hb6 b5_w0_1
  clear b5_w0_0 b5_w0_1
  have new_g0 := hn6
  have lt_g0 := own_Fld_lt ho6
  have ho6_k := ho6
  obtain ⟨vP_g0, rfl, hI_g0, hoP_g0⟩ := ho6_k
  obtain ⟨vPa_g0, vPl_g0, vPc_g0, rfl⟩ := ownMss_slice hoP_g0
  have q7_w0_0 := cell_below (w := w6) ((Below.refl _ _).alloc (Nat.le_refl _) (.cells #[.int .i64 ((hamF x_aH n_aDim)).dim, .slice vPa_g0 vPl_g0 vPc_g0] 37)) b6_w0_0
  have q7_w0_1 := cell_below (w := w6) ((Below.refl _ _).alloc (Nat.le_refl _) (.cells #[.int .i64 ((hamF x_aH n_aDim)).dim, .slice vPa_g0 vPl_g0 vPc_g0] 37)) b6_w0_1
  go_wp2_with fail
  clear q7_w0_0 q7_w0_1
  obtain ⟨w7, hw7⟩ : ∃ W, W = w6.alloc (.cells #[.int .i64 ((hamF x_aH n_aDim)).dim, .slice vPa_g0 vPl_g0 vPc_g0] 37) := ⟨_, rfl⟩
  rw [← hw7]
  have hb7 : Below w6.heap.size w6 w7 := hw7 ▸ (Below.refl _ _).alloc (Nat.le_refl _) _
  have HZ7 : Hid (w6.heap.size + 1 ≤ w7.heap.size) := Lib.hid (by rw [hw7]; simp)
  have b7_g0_0 : w7.cell? ⟨w6.heap.size, 0, none⟩ = some (.int .i64 ((hamF x_aH n_aDim)).dim) := by rw [hw7]; simp
  have b7_g0_1 : w7.cell? ⟨w6.heap.size, 1, none⟩ = some (.slice vPa_g0 vPl_g0 vPc_g0) := by rw [hw7]; simp
  clear hw7
  have c7_w := c6_w.trans (hb7.mono c6_w.size)
  have c7_w0 := c6_w0.trans (hb7.mono c6_w0.size)
  have c7_x0 := c6_x0.trans (hb7.mono c6_x0.size)
  have c7_g0 := hb7
  have b7_w0_0 := cell_below hb7 b6_w0_0
  have b7_w0_1 := cell_below hb7 b6_w0_1
  clear b6_w0_0 b6_w0_1
  go_wp2_with fail
  refine (eq_Fld (.agg #[.int .i64 ((hamF x_aH n_aDim)).dim, .slice vPa_g0 vPl_g0 vPc_g0]) (.agg #[.int .i64 ((hamF x_aH n_aDim)).dim, .slice vPa_w0 vPl_w0 vPc_w0]) (hamF x_aH n_aDim) _ (own_Fld_rd (own_Fld_only ho6 (Only.of_below (fp := []) c7_g0) (by simp))) (own_Fld_rd (own_Fld_only ho3 (Only.of_below (fp := []) c7_w0) (by simp)))).mono ?_
  rintro e w8 ⟨rfl, hb8⟩
  have HZ8 := Lib.hid hb8.size
  have c8_w := c7_w.trans (hb8.mono c7_w.size)
  have c8_w0 := c7_w0.trans (hb8.mono c7_w0.size)
  have c8_x0 := c7_x0.trans (hb8.mono c7_x0.size)
  have c8_g0 := c7_g0.trans (hb8.mono c7_g0.size)
  have b8_w0_0 := cell_below hb8 b7_w0_0
  have b8_w0_1 := cell_below hb8 b7_w0_1
  clear b7_w0_0 b7_w0_1
  have b8_g0_0 := cell_below hb8 b7_g0_0
  have b8_g0_1 := cell_below hb8 b7_g0_1
  clear b7_g0_0 b7_g0_1
  go_wp2_with fail
  refine (to_Ms v_aH x_aH _ (rd_Ms_mono c8_w h_aH) fit_aH).mono ?_
  rintro e w9 ⟨v9, fp9, rfl, ho9, hn9, hb9⟩
  have HZ9 := Lib.hid hb9.size
  have c9_w := c8_w.trans (hb9.mono c8_w.size)
  have c9_w0 := c8_w0.trans (hb9.mono c8_w0.size)
  have c9_x0 := c8_x0.trans (hb9.mono c8_x0.size)
  have c9_g0 := c8_g0.trans (hb9.mono c8_g0.size)
  have b9_w0_0 := cell_below hb9 b8_w0_0
  have b9_w0_1 := cell_below hb9 b8_w0_1
  clear b8_w0_0 b8_w0_1
  have b9_g0_0 := cell_below hb9 b8_g0_0
  have b9_g0_1 := cell_below hb9 b8_g0_1
  clear b8_g0_0 b8_g0_1
  have new_t9 := hn9
  have lt_t9 := own_Ms_lt ho9
  go_wp2_with fail
  refine (eq_Ms v5 v9 x_aH _ (own_Ms_rd (own_Ms_only ho5 (Only.of_below (fp := []) c9_x0) (by simp))) (own_Ms_rd ho9)).mono ?_
  rintro e w10 ⟨rfl, hb10⟩
  have HZ10 := Lib.hid hb10.size
  have c10_w := c9_w.trans (hb10.mono c9_w.size)
  have c10_w0 := c9_w0.trans (hb10.mono c9_w0.size)
  have c10_x0 := c9_x0.trans (hb10.mono c9_x0.size)
  have c10_g0 := c9_g0.trans (hb10.mono c9_g0.size)
  have c10_t9 := hb10
  have b10_w0_0 := cell_below hb10 b9_w0_0
  have b10_w0_1 := cell_below hb10 b9_w0_1
  clear b9_w0_0 b9_w0_1
  have b10_g0_0 := cell_below hb10 b9_g0_0
  have b10_g0_1 := cell_below hb10 b9_g0_1
  clear b9_g0_0 b9_g0_1
  have hc_x0 := cnt_Ms_le fit_aH
  go_wp2_with fail
  refine (mark_Ms v5 x_aH fp5 _ _ (own_Ms_only ho5 (Only.of_below (fp := []) c10_x0) (by simp)) (by omega) (by omega)).mono ?_
  rintro e w11 ⟨rfl, ho11, hb11⟩
  have HZ11 := Lib.hid hb11.size
  have c11_w := c10_w.trans (hb11.below c10_w.size (fun g hg => by have := new_x0 g hg; have := HZ1.out; have := HZ2.out; have := HZ3.out; have := HZ4.out; have := HZ5.out; have := HZ6.out; have := HZ7.out; have := HZ8.out; have := HZ9.out; have := HZ10.out; have := HZ11.out; omega))
  have c11_w0 := c10_w0.trans (hb11.below c10_w0.size (fun g hg => by have := new_x0 g hg; have := HZ1.out; have := HZ2.out; have := HZ3.out; have := HZ4.out; have := HZ5.out; have := HZ6.out; have := HZ7.out; have := HZ8.out; have := HZ9.out; have := HZ10.out; have := HZ11.out; omega))
  have b11_w0_0 := cell_only hb11 (fun hm => by have := new_x0 _ hm; have := lt_x0 _ hm; have := HZ1.out; have := HZ2.out; have := HZ3.out; have := HZ4.out; have := HZ5.out; have := HZ6.out; have := HZ7.out; have := HZ8.out; have := HZ9.out; have := HZ10.out; have := HZ11.out; omega) b10_w0_0
  have b11_w0_1 := cell_only hb11 (fun hm => by have := new_x0 _ hm; have := lt_x0 _ hm; have := HZ1.out; have := HZ2.out; have := HZ3.out; have := HZ4.out; have := HZ5.out; have := HZ6.out; have := HZ7.out; have := HZ8.out; have := HZ9.out; have := HZ10.out; have := HZ11.out; omega) b10_w0_1
  clear b10_w0_0 b10_w0_1
  have b11_g0_0 := cell_only hb11 (fun hm => by have := new_x0 _ hm; have := lt_x0 _ hm; have := HZ1.out; have := HZ2.out; have := HZ3.out; have := HZ4.out; have := HZ5.out; have := HZ6.out; have := HZ7.out; have := HZ8.out; have := HZ9.out; have := HZ10.out; have := HZ11.out; omega) b10_g0_0
  have b11_g0_1 := cell_only hb11 (fun hm => by have := new_x0 _ hm; have := lt_x0 _ hm; have := HZ1.out; have := HZ2.out; have := HZ3.out; have := HZ4.out; have := HZ5.out; have := HZ6.out; have := HZ7.out; have := HZ8.out; have := HZ9.out; have := HZ10.out; have := HZ11.out; omega) b10_g0_1
  clear b10_g0_0 b10_g0_1
  have ho11_g0 := own_Fld_only (own_Fld_only ho6 (Only.of_below (fp := []) c10_g0) (by simp)) hb11 (fun b hb hm => by have := new_g0 b hb; have := lt_x0 b hm; have := HZ1.out; have := HZ2.out; have := HZ3.out; have := HZ4.out; have := HZ5.out; have := HZ6.out; have := HZ7.out; have := HZ8.out; have := HZ9.out; have := HZ10.out; have := HZ11.out; omega)
  go_wp2_with fail
  refine (eq_Fld (.agg #[.int .i64 ((hamF x_aH n_aDim)).dim, .slice vPa_g0 vPl_g0 vPc_g0]) (.agg #[.int .i64 ((hamF x_aH n_aDim)).dim, .slice vPa_w0 vPl_w0 vPc_w0]) (hamF x_aH n_aDim) _ (own_Fld_rd ho11_g0) (own_Fld_rd (own_Fld_only ho3 (Only.of_below (fp := []) c11_w0) (by simp)))).mono ?_
  rintro e w12 ⟨rfl, hb12⟩
  have HZ12 := Lib.hid hb12.size
  have c12_w := c11_w.trans (hb12.mono c11_w.size)
  have c12_w0 := c11_w0.trans (hb12.mono c11_w0.size)
  have c12_g0 := hb12
  have b12_w0_0 := cell_below hb12 b11_w0_0
  have b12_w0_1 := cell_below hb12 b11_w0_1
  clear b11_w0_0 b11_w0_1
  have b12_g0_0 := cell_below hb12 b11_g0_0
  have b12_g0_1 := cell_below hb12 b11_g0_1
  clear b11_g0_0 b11_g0_1
  have hc_g0 : cnt_Fld (hamF x_aH n_aDim) ≤ 10000000000000 := hamF_cnt _ _
  go_wp2_with fail
  refine (mark_Fld (.agg #[.int .i64 ((hamF x_aH n_aDim)).dim, .slice vPa_g0 vPl_g0 vPc_g0]) (hamF x_aH n_aDim) fp6 _ _ (own_Fld_only ho11_g0 (Only.of_below (fp := []) c12_g0) (by simp)) (by omega) (by omega)).mono ?_
  rintro e w13 ⟨rfl, ho13, hb13⟩
  have HZ13 := Lib.hid hb13.size
  have c13_w := c12_w.trans (hb13.below c12_w.size (fun g hg => by have := new_g0 g hg; have := HZ1.out; have := HZ2.out; have := HZ3.out; have := HZ4.out; have := HZ5.out; have := HZ6.out; have := HZ7.out; have := HZ8.out; have := HZ9.out; have := HZ10.out; have := HZ11.out; have := HZ12.out; have := HZ13.out; omega))
  have c13_w0 := c12_w0.trans (hb13.below c12_w0.size (fun g hg => by have := new_g0 g hg; have := HZ1.out; have := HZ2.out; have := HZ3.out; have := HZ4.out; have := HZ5.out; have := HZ6.out; have := HZ7.out; have := HZ8.out; have := HZ9.out; have := HZ10.out; have := HZ11.out; have := HZ12.out; have := HZ13.out; omega))
  have b13_w0_0 := cell_only hb13 (fun hm => by have := new_g0 _ hm; have := lt_g0 _ hm; have := HZ1.out; have := HZ2.out; have := HZ3.out; have := HZ4.out; have := HZ5.out; have := HZ6.out; have := HZ7.out; have := HZ8.out; have := HZ9.out; have := HZ10.out; have := HZ11.out; have := HZ12.out; have := HZ13.out; omega) b12_w0_0
  have b13_w0_1 := cell_only hb13 (fun hm => by have := new_g0 _ hm; have := lt_g0 _ hm; have := HZ1.out; have := HZ2.out; have := HZ3.out; have := HZ4.out; have := HZ5.out; have := HZ6.out; have := HZ7.out; have := HZ8.out; have := HZ9.out; have := HZ10.out; have := HZ11.out; have := HZ12.out; have := HZ13.out; omega) b12_w0_1
  clear b12_w0_0 b12_w0_1
  have b13_g0_0 := cell_only hb13 (fun hm => by have := new_g0 _ hm; have := lt_g0 _ hm; have := HZ1.out; have := HZ2.out; have := HZ3.out; have := HZ4.out; have := HZ5.out; have := HZ6.out; have := HZ7.out; have := HZ8.out; have := HZ9.out; have := HZ10.out; have := HZ11.out; have := HZ12.out; have := HZ13.out; omega) b12_g0_0
  have b13_g0_1 := cell_only hb13 (fun hm => by have := new_g0 _ hm; have := lt_g0 _ hm; have := HZ1.out; have := HZ2.out; have := HZ3.out; have := HZ4.out; have := HZ5.out; have := HZ6.out; have := HZ7.out; have := HZ8.out; have := HZ9.out; have := HZ10.out; have := HZ11.out; have := HZ12.out; have := HZ13.out; omega) b12_g0_1
  clear b12_g0_0 b12_g0_1
  go_wp2_with fail
  refine (held_Fld (.agg #[.int .i64 ((hamF x_aH n_aDim)).dim, .slice vPa_g0 vPl_g0 vPc_g0]) (hamF x_aH n_aDim) 1 _ (own_Fld_rd ho13) (by omega) (by omega)).mono ?_
  rintro e w14 ⟨rfl, hb14⟩
  have HZ14 := Lib.hid hb14.size
  have c14_w := c13_w.trans (hb14.mono c13_w.size)
  have c14_w0 := c13_w0.trans (hb14.mono c13_w0.size)
  have c14_g0 := hb14
  have b14_w0_0 := cell_below hb14 b13_w0_0
  have b14_w0_1 := cell_below hb14 b13_w0_1
  clear b13_w0_0 b13_w0_1
  have b14_g0_0 := cell_below hb14 b13_g0_0
  have b14_g0_1 := cell_below hb14 b13_g0_1
  clear b13_g0_0 b13_g0_1
  go_wp2_with fail
  refine (to_Ms v_aH x_aH _ (rd_Ms_mono c14_w h_aH) fit_aH).mono ?_
  rintro e w15 ⟨v15, fp15, rfl, ho15, hn15, hb15⟩
  have HZ15 := Lib.hid hb15.size
  have c15_w := c14_w.trans (hb15.mono c14_w.size)
  have c15_w0 := c14_w0.trans (hb15.mono c14_w0.size)
  have c15_g0 := c14_g0.trans (hb15.mono c14_g0.size)
  have b15_w0_0 := cell_below hb15 b14_w0_0
  have b15_w0_1 := cell_below hb15 b14_w0_1
  clear b14_w0_0 b14_w0_1
  have b15_g0_0 := cell_below hb15 b14_g0_0
  have b15_g0_1 := cell_below hb15 b14_g0_1
  clear b14_g0_0 b14_g0_1
  have new_t15 := hn15
  have lt_t15 := own_Ms_lt ho15
  go_wp2_with fail
  refine (hamiltonField_c v15 x_aH n_aDim _ (own_Ms_rd ho15) i_aDim fit_aH).mono ?_
  rintro e w16 ⟨v16, fp16, rfl, ho16, hn16, hb16⟩
  have HZ16 := Lib.hid hb16.size
  have c16_w := c15_w.trans (hb16.mono c15_w.size)
  have c16_w0 := c15_w0.trans (hb16.mono c15_w0.size)
  have c16_g0 := c15_g0.trans (hb16.mono c15_g0.size)
  have c16_t15 := hb16
  have b16_w0_0 := cell_below hb16 b15_w0_0
  have b16_w0_1 := cell_below hb16 b15_w0_1
  clear b15_w0_0 b15_w0_1
  have b16_g0_0 := cell_below hb16 b15_g0_0
  have b16_g0_1 := cell_below hb16 b15_g0_1
  clear b15_g0_0 b15_g0_1
  have new_h0 := hn16
  have lt_h0 := own_Fld_lt ho16
  have ho16_k := ho16
  obtain ⟨vP_h0, rfl, hI_h0, hoP_h0⟩ := ho16_k
  obtain ⟨vPa_h0, vPl_h0, vPc_h0, rfl⟩ := ownMss_slice hoP_h0
  have q17_w0_0 := cell_below (w := w16) ((Below.refl _ _).alloc (Nat.le_refl _) (.cells #[.int .i64 ((hamF x_aH n_aDim)).dim, .slice vPa_h0 vPl_h0 vPc_h0] 37)) b16_w0_0
  have q17_w0_1 := cell_below (w := w16) ((Below.refl _ _).alloc (Nat.le_refl _) (.cells #[.int .i64 ((hamF x_aH n_aDim)).dim, .slice vPa_h0 vPl_h0 vPc_h0] 37)) b16_w0_1
  have q17_g0_0 := cell_below (w := w16) ((Below.refl _ _).alloc (Nat.le_refl _) (.cells #[.int .i64 ((hamF x_aH n_aDim)).dim, .slice vPa_h0 vPl_h0 vPc_h0] 37)) b16_g0_0
  have q17_g0_1 := cell_below (w := w16) ((Below.refl _ _).alloc (Nat.le_refl _) (.cells #[.int .i64 ((hamF x_aH n_aDim)).dim, .slice vPa_h0 vPl_h0 vPc_h0] 37)) b16_g0_1
  go_wp2_with fail
  clear q17_w0_0 q17_w0_1 q17_g0_0 q17_g0_1
  obtain ⟨w17, hw17⟩ : ∃ W, W = w16.alloc (.cells #[.int .i64 ((hamF x_aH n_aDim)).dim, .slice vPa_h0 vPl_h0 vPc_h0] 37) := ⟨_, rfl⟩
  rw [← hw17]
  have hb17 : Below w16.heap.size w16 w17 := hw17 ▸ (Below.refl _ _).alloc (Nat.le_refl _) _
  have HZ17 : Hid (w16.heap.size + 1 ≤ w17.heap.size) := Lib.hid (by rw [hw17]; simp)
  have b17_h0_0 : w17.cell? ⟨w16.heap.size, 0, none⟩ = some (.int .i64 ((hamF x_aH n_aDim)).dim) := by rw [hw17]; simp
  have b17_h0_1 : w17.cell? ⟨w16.heap.size, 1, none⟩ = some (.slice vPa_h0 vPl_h0 vPc_h0) := by rw [hw17]; simp
  clear hw17
  have c17_w := c16_w.trans (hb17.mono c16_w.size)
  have c17_w0 := c16_w0.trans (hb17.mono c16_w0.size)
  have c17_g0 := c16_g0.trans (hb17.mono c16_g0.size)
  have c17_t15 := c16_t15.trans (hb17.mono c16_t15.size)
  have c17_h0 := hb17
  have b17_w0_0 := cell_below hb17 b16_w0_0
  have b17_w0_1 := cell_below hb17 b16_w0_1
  clear b16_w0_0 b16_w0_1
  have b17_g0_0 := cell_below hb17 b16_g0_0
  have b17_g0_1 := cell_below hb17 b16_g0_1
  clear b16_g0_0 b16_g0_1
  go_wp2_with fail
  refine (eq_Fld (.agg #[.int .i64 ((hamF x_aH n_aDim)).dim, .slice vPa_h0 vPl_h0 vPc_h0]) (.agg #[.int .i64 ((hamF x_aH n_aDim)).dim, .slice vPa_w0 vPl_w0 vPc_w0]) (hamF x_aH n_aDim) _ (own_Fld_rd (own_Fld_only ho16 (Only.of_below (fp := []) c17_h0) (by simp))) (own_Fld_rd (own_Fld_only ho3 (Only.of_below (fp := []) c17_w0) (by simp)))).mono ?_
  rintro e w18 ⟨rfl, hb18⟩
  have HZ18 := Lib.hid hb18.size
  have c18_w := c17_w.trans (hb18.mono c17_w.size)
  have c18_w0 := c17_w0.trans (hb18.mono c17_w0.size)
  have c18_g0 := c17_g0.trans (hb18.mono c17_g0.size)
  have c18_h0 := c17_h0.trans (hb18.mono c17_h0.size)
  have b18_w0_0 := cell_below hb18 b17_w0_0
  have b18_w0_1 := cell_below hb18 b17_w0_1
  clear b17_w0_0 b17_w0_1
  have b18_g0_0 := cell_below hb18 b17_g0_0
  have b18_g0_1 := cell_below hb18 b17_g0_1
  clear b17_g0_0 b17_g0_1
  have b18_h0_0 := cell_below hb18 b17_h0_0
  have b18_h0_1 := cell_below hb18 b17_h0_1
  clear b17_h0_0 b17_h0_1
  go_wp2_with fail
  refine (held_Fld (.agg #[.int .i64 ((hamF x_aH n_aDim)).dim, .slice vPa_g0 vPl_g0 vPc_g0]) (hamF x_aH n_aDim) 1 _ (own_Fld_rd (own_Fld_only ho13 (Only.of_below (fp := []) c18_g0) (by simp))) (by omega) (by omega)).mono ?_
  rintro e w19 ⟨rfl, hb19⟩
  have HZ19 := Lib.hid hb19.size
  have c19_w := c18_w.trans (hb19.mono c18_w.size)
  have c19_w0 := c18_w0.trans (hb19.mono c18_w0.size)
  have c19_g0 := c18_g0.trans (hb19.mono c18_g0.size)
  have c19_h0 := c18_h0.trans (hb19.mono c18_h0.size)
  have b19_w0_0 := cell_below hb19 b18_w0_0
  have b19_w0_1 := cell_below hb19 b18_w0_1
  clear b18_w0_0 b18_w0_1
  have b19_g0_0 := cell_below hb19 b18_g0_0
  have b19_g0_1 := cell_below hb19 b18_g0_1
  clear b18_g0_0 b18_g0_1
  have b19_h0_0 := cell_below hb19 b18_h0_0
  have b19_h0_1 := cell_below hb19 b18_h0_1
  clear b18_h0_0 b18_h0_1
  go_wp2
  go_ret
  exact ⟨rfl, c19_w⟩

set_option maxRecDepth 100000 in
theorem fnExactHamiltonField_lifted (os : Os) (started : os.Started) (H : Type) (enc : TypeId × Value → H) :
    ReturnsInHanded {} Try.checked os 5 .any (Rows.fnExactHamiltonFieldSpec.pre6 enc Try.prog Try.f5 Rows.fnExactHamiltonFieldRow.domain false) (Rows.fnExactHamiltonFieldSpec.post enc Try.prog Try.f5 false true false false) := by
  refine returnsInHanded_of_change (C := Try.checked) Try.own started (by kernel_rfl) Try.func5
    (ChangeSpec.witness6 (enc := enc) (C := Try.checked) false ⟨#[], #[.slice none 0 0, .int .i64 0], []⟩ 8 (by kernel_rfl) (by kernel_rfl) (by kernel_rfl) (by kernel_rfl)) ?_
  intro W base args ds gs before hval0 hW hcnd _
  have hval : ∀ (j : Nat) t v, Try.f5.params[j]? = some t → args[j]? = some v → Value.okWide Try.prog W .any base t v := hval0
  have hW' := hW
  obtain ⟨p, q, hA0, hV, rfl, hfz, hnd⟩ := hW
  have hA : DataW.TrodAll enc Try.prog W 0 (fun _ => true) true Try.f5.params.toList args.toList ds p := hA0
  rw [Try.params5] at hA hval
  obtain ⟨v0, vs0, d0, ds0, p0, q0, hargs, rfl, rfl, h0, r0⟩ := trodAll_cons hA
  obtain ⟨v1, vs1, d1, ds1, p1, q1, rfl, rfl, rfl, h1, r1⟩ := trodAll_cons r0
  obtain ⟨rfl, rfl, rfl⟩ := trodAll_nil r1
  obtain rfl : args = #[v0, v1] := by cases args; simp_all
  obtain ⟨rfl, rfl⟩ := trodVars_none hV
  have lt0 : ∀ x ∈ p0, x.block < W.heap.size := by obtain ⟨m, hm⟩ := h0; exact DataW.trod_lt m _ _ _ hm
  have k0 := h0
  obtain ⟨x0, w0⟩ := ms_arg (hval 0 41 v0 rfl rfl) h0
  have lt1 : ∀ x ∈ p1, x.block < W.heap.size := by obtain ⟨m, hm⟩ := h1; exact DataW.trod_lt m _ _ _ hm
  have k1 := h1
  obtain ⟨x1, rfl, w1⟩ := int_of_arg Try.underlying3 (hval 1 3 v1 rfl rfl) h1
  clear hA0 hval0
  refine (fnExactHamiltonField_walk v0 x0 x1 W w0 w1).mono fun e W' ⟨he, bel⟩ => ?_
  subst he
  exact ⟨_, rfl, _, _, _, [], _, [], hW', trodAll_mk1 (shut_bool Try.underlying4 _), (trodAll_cons_mk (Below.trod Try.laidOut (by kernel_rfl) (of_decide_eq_true (by kernel_rfl)) k0 bel lt0) (trodAll_cons_mk (Below.trod Try.laidOut (by kernel_rfl) (of_decide_eq_true (by kernel_rfl)) k1 bel lt1) trodAll_mk0)), rfl, bel.frame _, fun h => by cases h⟩

theorem fnExactHamiltonField_holds : Rows.FnExactHamiltonFieldSaid :=
  OpenClaim.holds_of_wide 5 Try.f5 rfl rfl rfl rfl rfl rfl rfl ⟨rfl, rfl, rfl, rfl, rfl⟩ rfl rfl rfl rfl rfl (by kernel_rfl) Try.func5 (by kernel_rfl)
    (of_decide_eq_true (by kernel_rfl)) (by unfold Func.isWrapper; first | (rw [if_pos (by decide +kernel)]; kernel_rfl) | (rw [if_neg (by decide +kernel)]; exact ⟨rfl, rfl⟩))
    (fun os started H enc _ => fnExactHamiltonField_lifted os started H enc)

#print axioms fnExactHamiltonField_holds
end Go.Proofs.Ytdaaamdighojdaa
