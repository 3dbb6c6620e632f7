/- The law FnExactStepAlong returns true for every tableau, field and path, and changes nothing that was there. Conditions: none. -/
import Derived.Test.YtdaaamdighojdaaSStep
import Derived.Test.YtdaaamdighojdaaKinds
import Derived.Test.YtdaaamdighojdaaShut
import Derived.Test.YtdaaamdighojdaaOpenF
set_option linter.unusedSimpArgs false
set_option linter.unusedVariables false
namespace Go.Proofs.Ytdaaamdighojdaa
open Go.ChangeShapes Go.WideShapes Go.ChangeAt Go.RowKit

theorem stepL_cnt (t : TabZ) (f : FldZ) (xs : List (List Int)) : cnt_II (stepL t f xs) ≤ 10000000000000 := by
  unfold stepL
  split
  · rename_i hd
    simp only [Bool.and_eq_true] at hd
    obtain ⟨n, f1, f2, f3, f4, f5, f6⟩ := fpOk_facts hd.1
    obtain ⟨_, q2, _, _⟩ := pathOk_facts f6
    refine Nat.le_trans (cntII_le (n := 7) (m := 6) (by rw [turnZ_len]; exact q2) (fun x hx => ?_)) (by omega)
    simp only [turnZ, List.mem_map] at hx
    obtain ⟨i, _, rfl⟩ := hx
    rw [colZ_len, atAll_len, List.length_map, List.length_range, f1]
    simp
    exact f4
  · simp [cnt_II, cntII]
theorem sStepAlong_c (v : Value) (t : TabZ) (u : Value) (f : FldZ) (z : Value) (xs : List (List Int)) (w : World) (h : Rd_Tab w v t) (g : Rd_Fld w u f) (k : Rd_II w z xs) :
    Calls Try.prog 53 #[v, u, z] w (Gives (fun w' v fp => Own_II w' v (stepL t f xs) fp) w) := sStep_any v u z t f xs w h g k
theorem stepAlong_c (v : Value) (t : TabZ) (u : Value) (f : FldZ) (z : Value) (xs : List (List Int)) (w : World) (h : Rd_Tab w v t) (g : Rd_Fld w u f) (k : Rd_II w z xs) (hf : Fit_Fld f) :
    Calls Try.prog 55 #[v, u, z] w (Gives (fun w' v fp => Own_II w' v (stepL t f xs) fp) w) := step_any v u z t f xs w h g k (fun p hp m hm => (hf.2.1 p hp).2 m hm)

set_option maxRecDepth 100000 in
set_option maxHeartbeats 4000000 in
theorem fnExactStepAlong_walk (v_aT : Value) (x_aT : TabZ) (v_aF : Value) (x_aF : FldZ) (v_aPath : Value) (x_aPath : List (List Int)) (w0 : World) (h_aT : Rd_Tab w0 v_aT x_aT) (h_aF : Rd_Fld w0 v_aF x_aF) (h_aPath : Rd_II w0 v_aPath x_aPath) :
    Calls Try.prog 13 #[v_aT, v_aF, v_aPath] w0 fun e w' => e = .returned (.bool true) ∧ Below w0.heap.size w0 w' := by
  have h_aT_k := h_aT
  obtain ⟨vA_aT, vB_aT, rfl, hI_aT, hA_aT, hB_aT⟩ := h_aT_k
  obtain ⟨vAa_aT, vAl_aT, vAc_aT, rfl⟩ := rdI_slice hA_aT
  obtain ⟨vBa_aT, vBl_aT, vBc_aT, rfl⟩ := rdI_slice hB_aT
  have h_aF_k := h_aF
  obtain ⟨vP_aF, rfl, hI_aF, hP_aF⟩ := h_aF_k
  obtain ⟨vPa_aF, vPl_aF, vPc_aF, rfl⟩ := rdMss_slice hP_aF
  go_enter Try.func13, Try.ntmps13
  go_wp2_with fail
  obtain ⟨w1, hw1⟩ : ∃ W, W = w0.alloc (.cells #[.int .i64 x_aT.stages, .slice vAa_aT vAl_aT vAc_aT, .slice vBa_aT vBl_aT vBc_aT] 65) := ⟨_, rfl⟩
  rw [← hw1]
  have hb1 : Below w0.heap.size w0 w1 := hw1 ▸ (Below.refl _ _).alloc (Nat.le_refl _) _
  have HZ1 : Hid (w0.heap.size + 1 ≤ w1.heap.size) := Lib.hid (by rw [hw1]; simp)
  have HE1 : Hid (w1.heap.size = w0.heap.size + 1) := Lib.hid (by rw [hw1]; simp)
  have b1_p_aT_0 : w1.cell? ⟨w0.heap.size, 0, none⟩ = some (.int .i64 x_aT.stages) := by rw [hw1]; simp
  have b1_p_aT_1 : w1.cell? ⟨w0.heap.size, 1, none⟩ = some (.slice vAa_aT vAl_aT vAc_aT) := by rw [hw1]; simp
  have b1_p_aT_2 : w1.cell? ⟨w0.heap.size, 2, none⟩ = some (.slice vBa_aT vBl_aT vBc_aT) := by rw [hw1]; simp
  clear hw1
  have c1_w := hb1
  have q2_p_aT_0 := cell_below (w := w1) ((Below.refl _ _).alloc (Nat.le_refl _) (.cells #[.int .i64 x_aF.dim, .slice vPa_aF vPl_aF vPc_aF] 32)) b1_p_aT_0
  have q2_p_aT_1 := cell_below (w := w1) ((Below.refl _ _).alloc (Nat.le_refl _) (.cells #[.int .i64 x_aF.dim, .slice vPa_aF vPl_aF vPc_aF] 32)) b1_p_aT_1
  have q2_p_aT_2 := cell_below (w := w1) ((Below.refl _ _).alloc (Nat.le_refl _) (.cells #[.int .i64 x_aF.dim, .slice vPa_aF vPl_aF vPc_aF] 32)) b1_p_aT_2
  go_wp2_with fail
  clear q2_p_aT_0 q2_p_aT_1 q2_p_aT_2
  obtain ⟨w2, hw2⟩ : ∃ W, W = w1.alloc (.cells #[.int .i64 x_aF.dim, .slice vPa_aF vPl_aF vPc_aF] 32) := ⟨_, rfl⟩
  rw [← hw2]
  have hb2 : Below w1.heap.size w1 w2 := hw2 ▸ (Below.refl _ _).alloc (Nat.le_refl _) _
  have HZ2 : Hid (w1.heap.size + 1 ≤ w2.heap.size) := Lib.hid (by rw [hw2]; simp)
  have HE2 : Hid (w2.heap.size = w0.heap.size + 2) := Lib.hid (by rw [hw2]; simp [HE1.out])
  have b2_p_aF_0 : w2.cell? ⟨w0.heap.size + 1, 0, none⟩ = some (.int .i64 x_aF.dim) := by rw [← HE1.out, hw2]; simp
  have b2_p_aF_1 : w2.cell? ⟨w0.heap.size + 1, 1, none⟩ = some (.slice vPa_aF vPl_aF vPc_aF) := by rw [← HE1.out, hw2]; simp
  clear hw2
  have c2_w := c1_w.trans (hb2.mono c1_w.size)
  have b2_p_aT_0 := cell_below hb2 b1_p_aT_0
  have b2_p_aT_1 := cell_below hb2 b1_p_aT_1
  have b2_p_aT_2 := cell_below hb2 b1_p_aT_2
  clear b1_p_aT_0 b1_p_aT_1 b1_p_aT_2
  go_wp2_with fail
  refine (sz_Tab (.agg #[.int .i64 x_aT.stages, .slice vAa_aT vAl_aT vAc_aT, .slice vBa_aT vBl_aT vBc_aT]) x_aT 1048576 _ (rd_Tab_mono c2_w h_aT) (by omega) (by omega)).mono ?_
  rintro e w3 ⟨r3, rfl, hr3, hb3⟩
  have HZ3 := Lib.hid hb3.size
  have c3_w := c2_w.trans (hb3.mono c2_w.size)
  have b3_p_aT_0 := cell_below hb3 b2_p_aT_0
  have b3_p_aT_1 := cell_below hb3 b2_p_aT_1
  have b3_p_aT_2 := cell_below hb3 b2_p_aT_2
  clear b2_p_aT_0 b2_p_aT_1 b2_p_aT_2
  have b3_p_aF_0 := cell_below hb3 b2_p_aF_0
  have b3_p_aF_1 := cell_below hb3 b2_p_aF_1
  clear b2_p_aF_0 b2_p_aF_1
  rcases hr3 with rfl | ⟨hra3, hrb3, fit_aT⟩
  · go_wp2
    go_ret
    exact ⟨rfl, c3_w⟩
  go_wp2_with fail
  refine (sz_Fld (.agg #[.int .i64 x_aF.dim, .slice vPa_aF vPl_aF vPc_aF]) x_aF r3 _ (rd_Fld_mono c3_w h_aF) (by omega) (by omega)).mono ?_
  rintro e w4 ⟨r4, rfl, hr4, hb4⟩
  have HZ4 := Lib.hid hb4.size
  have c4_w := c3_w.trans (hb4.mono c3_w.size)
  have b4_p_aT_0 := cell_below hb4 b3_p_aT_0
  have b4_p_aT_1 := cell_below hb4 b3_p_aT_1
  have b4_p_aT_2 := cell_below hb4 b3_p_aT_2
  clear b3_p_aT_0 b3_p_aT_1 b3_p_aT_2
  have b4_p_aF_0 := cell_below hb4 b3_p_aF_0
  have b4_p_aF_1 := cell_below hb4 b3_p_aF_1
  clear b3_p_aF_0 b3_p_aF_1
  rcases hr4 with rfl | ⟨hra4, hrb4, fit_aF⟩
  · go_wp2
    go_ret
    exact ⟨rfl, c4_w⟩
  go_wp2_with fail
  refine (sz_II v_aPath x_aPath r4 _ (rd_II_mono c4_w h_aPath) (by omega) (by omega)).mono ?_
  rintro e w5 ⟨r5, rfl, hr5, hb5⟩
  have HZ5 := Lib.hid hb5.size
  have c5_w := c4_w.trans (hb5.mono c4_w.size)
  have b5_p_aT_0 := cell_below hb5 b4_p_aT_0
  have b5_p_aT_1 := cell_below hb5 b4_p_aT_1
  have b5_p_aT_2 := cell_below hb5 b4_p_aT_2
  clear b4_p_aT_0 b4_p_aT_1 b4_p_aT_2
  have b5_p_aF_0 := cell_below hb5 b4_p_aF_0
  have b5_p_aF_1 := cell_below hb5 b4_p_aF_1
  clear b4_p_aF_0 b4_p_aF_1
  rcases hr5 with rfl | ⟨hra5, hrb5, fit_aPath⟩
  · go_wp2
    go_ret
    exact ⟨rfl, c5_w⟩
  go_wp2_with fail
  have hq0 : Below w5.heap.size w5 w5.drew := below_drew _
  have HSL := Lib.hid (fun (x : World) (hx : Below w5.heap.size w5 x) => show x.cell? ⟨w0.heap.size, 0, none⟩ = some (.int .i64 x_aT.stages) ∧ x.cell? ⟨w0.heap.size, 1, none⟩ = some (.slice vAa_aT vAl_aT vAc_aT) ∧ x.cell? ⟨w0.heap.size, 2, none⟩ = some (.slice vBa_aT vBl_aT vBc_aT) ∧ x.cell? ⟨w0.heap.size + 1, 0, none⟩ = some (.int .i64 x_aF.dim) ∧ x.cell? ⟨w0.heap.size + 1, 1, none⟩ = some (.slice vPa_aF vPl_aF vPc_aF) from ⟨cell_below hx b5_p_aT_0, cell_below hx b5_p_aT_1, cell_below hx b5_p_aT_2, cell_below hx b5_p_aF_0, cell_below hx b5_p_aF_1⟩)
  have TO_aT := Lib.hid (fun (x : World) (hx : Below w5.heap.size w5 x) => to_Tab (.agg #[.int .i64 x_aT.stages, .slice vAa_aT vAl_aT vAc_aT, .slice vBa_aT vBl_aT vBc_aT]) x_aT x (rd_Tab_mono (c5_w.trans (hx.mono c5_w.size)) h_aT) fit_aT)
  have TO_aF := Lib.hid (fun (x : World) (hx : Below w5.heap.size w5 x) => to_Fld (.agg #[.int .i64 x_aF.dim, .slice vPa_aF vPl_aF vPc_aF]) x_aF x (rd_Fld_mono (c5_w.trans (hx.mono c5_w.size)) h_aF) fit_aF)
  have TO_aPath := Lib.hid (fun (x : World) (hx : Below w5.heap.size w5 x) => to_II v_aPath x_aPath x (rd_II_mono (c5_w.trans (hx.mono c5_w.size)) h_aPath) fit_aPath)
  go_cut [8] from 32 (fun sq wx => ∃ (vq : Value) (fq : List Nat), sq = vq ∧ Own_II wx vq (stepL x_aT x_aF x_aPath) fq ∧ (∀ g ∈ fq, w5.heap.size ≤ g) ∧ Below w5.heap.size w5 wx)
  case first =>
    go_region_held3 (fun w' => w'.cell? ⟨w0.heap.size, 0, none⟩ = some (.int .i64 x_aT.stages) ∧ w'.cell? ⟨w0.heap.size, 1, none⟩ = some (.slice vAa_aT vAl_aT vAc_aT) ∧ w'.cell? ⟨w0.heap.size, 2, none⟩ = some (.slice vBa_aT vBl_aT vBc_aT) ∧ w'.cell? ⟨w0.heap.size + 1, 0, none⟩ = some (.int .i64 x_aF.dim) ∧ w'.cell? ⟨w0.heap.size + 1, 1, none⟩ = some (.slice vPa_aF vPl_aF vPc_aF)) (first | exact HSL.out _ hqe | exact HSL.out _ hq3 | exact HSL.out _ hq2 | exact HSL.out _ hq1 | exact HSL.out _ hq0) (first | (go_at_call 54; first | ((with_reducible refine (TO_aT.out _ hq2).mono ?_); rintro e y3 ⟨u_aT, fu_aT, rfl, o_aT, nn_aT, hy3⟩; have hq3 := hq2.trans (hy3.mono hq2.size)) | ((with_reducible refine (TO_aT.out _ hq1).mono ?_); rintro e y2 ⟨u_aT, fu_aT, rfl, o_aT, nn_aT, hy2⟩; have hq2 := hq1.trans (hy2.mono hq1.size)) | ((with_reducible refine (TO_aT.out _ hq0).mono ?_); rintro e y1 ⟨u_aT, fu_aT, rfl, o_aT, nn_aT, hy1⟩; have hq1 := hq0.trans (hy1.mono hq0.size))) | (go_at_call 25; first | ((with_reducible refine (TO_aF.out _ hq2).mono ?_); rintro e y3 ⟨u_aF, fu_aF, rfl, o_aF, nn_aF, hy3⟩; have hq3 := hq2.trans (hy3.mono hq2.size)) | ((with_reducible refine (TO_aF.out _ hq1).mono ?_); rintro e y2 ⟨u_aF, fu_aF, rfl, o_aF, nn_aF, hy2⟩; have hq2 := hq1.trans (hy2.mono hq1.size)) | ((with_reducible refine (TO_aF.out _ hq0).mono ?_); rintro e y1 ⟨u_aF, fu_aF, rfl, o_aF, nn_aF, hy1⟩; have hq1 := hq0.trans (hy1.mono hq0.size))) | (go_at_call 16; first | ((with_reducible refine (TO_aPath.out _ hq2).mono ?_); rintro e y3 ⟨u_aPath, fu_aPath, rfl, o_aPath, nn_aPath, hy3⟩; have hq3 := hq2.trans (hy3.mono hq2.size)) | ((with_reducible refine (TO_aPath.out _ hq1).mono ?_); rintro e y2 ⟨u_aPath, fu_aPath, rfl, o_aPath, nn_aPath, hy2⟩; have hq2 := hq1.trans (hy2.mono hq1.size)) | ((with_reducible refine (TO_aPath.out _ hq0).mono ?_); rintro e y1 ⟨u_aPath, fu_aPath, rfl, o_aPath, nn_aPath, hy1⟩; have hq1 := hq0.trans (hy1.mono hq0.size))) | (go_at_call 53; (with_reducible refine (sStepAlong_c _ x_aT _ x_aF _ x_aPath _ (by first | exact own_Tab_rd o_aT | exact rd_Tab_mono hy3 (own_Tab_rd o_aT) | exact rd_Tab_mono (hy2.trans (hy3.mono hy2.size)) (own_Tab_rd o_aT)) (by first | exact own_Fld_rd o_aF | exact rd_Fld_mono hy3 (own_Fld_rd o_aF) | exact rd_Fld_mono (hy2.trans (hy3.mono hy2.size)) (own_Fld_rd o_aF)) (by first | exact own_II_rd o_aPath | exact rd_II_mono hy3 (own_II_rd o_aPath) | exact rd_II_mono (hy2.trans (hy3.mono hy2.size)) (own_II_rd o_aPath)) ).mono ?_); rintro e ye ⟨ve, fe, rfl, oe, ne, hye⟩; have hqe := hq3.trans (hye.mono hq3.size)))
    all_goals (
      go_wp2_with fail
      go_meet
      exact ⟨ve, fe, rfl, oe, (fun g hg => by have h1 := ne g hg; have h2 := hq3.size; omega), hqe⟩)
  case rest =>
  obtain ⟨w6, rfl⟩ : ∃ W, W = wc := ⟨_, rfl⟩
  obtain ⟨v6, fp6, hv6, ho6, hn6, hb6⟩ := hcut
  replace hv6 := hv6.symm
  subst hv6
  clear HSL hq0 TO_aT TO_aF TO_aPath
  have HZ6 := Lib.hid hb6.size
  have c6_w := c5_w.trans (hb6.mono c5_w.size)
  have b6_p_aT_0 := cell_below hb6 b5_p_aT_0
  have b6_p_aT_1 := cell_below hb6 b5_p_aT_1
  have b6_p_aT_2 := cell_below hb6 b5_p_aT_2
  clear b5_p_aT_0 b5_p_aT_1 b5_p_aT_2
  have b6_p_aF_0 := cell_below hb6 b5_p_aF_0
  have b6_p_aF_1 := cell_below hb6 b5_p_aF_1
  clear b5_p_aF_0 b5_p_aF_1
  have new_w0 := hn6
  have lt_w0 := own_II_lt ho6
  go_wp2_with fail
  refine (to_Tab (.agg #[.int .i64 x_aT.stages, .slice vAa_aT vAl_aT vAc_aT, .slice vBa_aT vBl_aT vBc_aT]) x_aT _ (rd_Tab_mono c6_w h_aT) fit_aT).mono ?_
  rintro e w7 ⟨v7, fp7, rfl, ho7, hn7, hb7⟩
  have HZ7 := Lib.hid hb7.size
  have c7_w := c6_w.trans (hb7.mono c6_w.size)
  have c7_w0 := hb7
  have b7_p_aT_0 := cell_below hb7 b6_p_aT_0
  have b7_p_aT_1 := cell_below hb7 b6_p_aT_1
  have b7_p_aT_2 := cell_below hb7 b6_p_aT_2
  clear b6_p_aT_0 b6_p_aT_1 b6_p_aT_2
  have b7_p_aF_0 := cell_below hb7 b6_p_aF_0
  have b7_p_aF_1 := cell_below hb7 b6_p_aF_1
  clear b6_p_aF_0 b6_p_aF_1
  have new_x0 := hn7
  have lt_x0 := own_Tab_lt ho7
  have ho7_k := ho7
  obtain ⟨vA_x0, vB_x0, fA_x0, fB_x0, rfl, hI_x0, hoA_x0, hoB_x0, hfe_x0, hfn_x0⟩ := ho7_k
  obtain ⟨vAa_x0, vAl_x0, vAc_x0, rfl⟩ := rdI_slice (ownI_rd hoA_x0)
  obtain ⟨vBa_x0, vBl_x0, vBc_x0, rfl⟩ := rdI_slice (ownI_rd hoB_x0)
  have q8_p_aT_0 := cell_below (w := w7) ((Below.refl _ _).alloc (Nat.le_refl _) (.cells #[.int .i64 x_aT.stages, .slice vAa_x0 vAl_x0 vAc_x0, .slice vBa_x0 vBl_x0 vBc_x0] 68)) b7_p_aT_0
  have q8_p_aT_1 := cell_below (w := w7) ((Below.refl _ _).alloc (Nat.le_refl _) (.cells #[.int .i64 x_aT.stages, .slice vAa_x0 vAl_x0 vAc_x0, .slice vBa_x0 vBl_x0 vBc_x0] 68)) b7_p_aT_1
  have q8_p_aT_2 := cell_below (w := w7) ((Below.refl _ _).alloc (Nat.le_refl _) (.cells #[.int .i64 x_aT.stages, .slice vAa_x0 vAl_x0 vAc_x0, .slice vBa_x0 vBl_x0 vBc_x0] 68)) b7_p_aT_2
  have q8_p_aF_0 := cell_below (w := w7) ((Below.refl _ _).alloc (Nat.le_refl _) (.cells #[.int .i64 x_aT.stages, .slice vAa_x0 vAl_x0 vAc_x0, .slice vBa_x0 vBl_x0 vBc_x0] 68)) b7_p_aF_0
  have q8_p_aF_1 := cell_below (w := w7) ((Below.refl _ _).alloc (Nat.le_refl _) (.cells #[.int .i64 x_aT.stages, .slice vAa_x0 vAl_x0 vAc_x0, .slice vBa_x0 vBl_x0 vBc_x0] 68)) b7_p_aF_1
  go_wp2_with fail
  clear q8_p_aT_0 q8_p_aT_1 q8_p_aT_2 q8_p_aF_0 q8_p_aF_1
  obtain ⟨w8, hw8⟩ : ∃ W, W = w7.alloc (.cells #[.int .i64 x_aT.stages, .slice vAa_x0 vAl_x0 vAc_x0, .slice vBa_x0 vBl_x0 vBc_x0] 68) := ⟨_, rfl⟩
  rw [← hw8]
  have hb8 : Below w7.heap.size w7 w8 := hw8 ▸ (Below.refl _ _).alloc (Nat.le_refl _) _
  have HZ8 : Hid (w7.heap.size + 1 ≤ w8.heap.size) := Lib.hid (by rw [hw8]; simp)
  have b8_x0_0 : w8.cell? ⟨w7.heap.size, 0, none⟩ = some (.int .i64 x_aT.stages) := by rw [hw8]; simp
  have b8_x0_1 : w8.cell? ⟨w7.heap.size, 1, none⟩ = some (.slice vAa_x0 vAl_x0 vAc_x0) := by rw [hw8]; simp
  have b8_x0_2 : w8.cell? ⟨w7.heap.size, 2, none⟩ = some (.slice vBa_x0 vBl_x0 vBc_x0) := by rw [hw8]; simp
  clear hw8
  have c8_w := c7_w.trans (hb8.mono c7_w.size)
  have c8_w0 := c7_w0.trans (hb8.mono c7_w0.size)
  have c8_x0 := hb8
  have b8_p_aT_0 := cell_below hb8 b7_p_aT_0
  have b8_p_aT_1 := cell_below hb8 b7_p_aT_1
  have b8_p_aT_2 := cell_below hb8 b7_p_aT_2
  clear b7_p_aT_0 b7_p_aT_1 b7_p_aT_2
  have b8_p_aF_0 := cell_below hb8 b7_p_aF_0
  have b8_p_aF_1 := cell_below hb8 b7_p_aF_1
  clear b7_p_aF_0 b7_p_aF_1
  go_wp2_with fail
  refine (to_Fld (.agg #[.int .i64 x_aF.dim, .slice vPa_aF vPl_aF vPc_aF]) x_aF _ (rd_Fld_mono c8_w h_aF) fit_aF).mono ?_
  rintro e w9 ⟨v9, fp9, rfl, ho9, hn9, hb9⟩
  have HZ9 := Lib.hid hb9.size
  have c9_w := c8_w.trans (hb9.mono c8_w.size)
  have c9_w0 := c8_w0.trans (hb9.mono c8_w0.size)
  have c9_x0 := c8_x0.trans (hb9.mono c8_x0.size)
  have b9_p_aT_0 := cell_below hb9 b8_p_aT_0
  have b9_p_aT_1 := cell_below hb9 b8_p_aT_1
  have b9_p_aT_2 := cell_below hb9 b8_p_aT_2
  clear b8_p_aT_0 b8_p_aT_1 b8_p_aT_2
  have b9_p_aF_0 := cell_below hb9 b8_p_aF_0
  have b9_p_aF_1 := cell_below hb9 b8_p_aF_1
  clear b8_p_aF_0 b8_p_aF_1
  have b9_x0_0 := cell_below hb9 b8_x0_0
  have b9_x0_1 := cell_below hb9 b8_x0_1
  have b9_x0_2 := cell_below hb9 b8_x0_2
  clear b8_x0_0 b8_x0_1 b8_x0_2
  have new_x1 := hn9
  have lt_x1 := own_Fld_lt ho9
  have ho9_k := ho9
  obtain ⟨vP_x1, rfl, hI_x1, hoP_x1⟩ := ho9_k
  obtain ⟨vPa_x1, vPl_x1, vPc_x1, rfl⟩ := ownMss_slice hoP_x1
  have q10_p_aT_0 := cell_below (w := w9) ((Below.refl _ _).alloc (Nat.le_refl _) (.cells #[.int .i64 x_aF.dim, .slice vPa_x1 vPl_x1 vPc_x1] 37)) b9_p_aT_0
  have q10_p_aT_1 := cell_below (w := w9) ((Below.refl _ _).alloc (Nat.le_refl _) (.cells #[.int .i64 x_aF.dim, .slice vPa_x1 vPl_x1 vPc_x1] 37)) b9_p_aT_1
  have q10_p_aT_2 := cell_below (w := w9) ((Below.refl _ _).alloc (Nat.le_refl _) (.cells #[.int .i64 x_aF.dim, .slice vPa_x1 vPl_x1 vPc_x1] 37)) b9_p_aT_2
  have q10_p_aF_0 := cell_below (w := w9) ((Below.refl _ _).alloc (Nat.le_refl _) (.cells #[.int .i64 x_aF.dim, .slice vPa_x1 vPl_x1 vPc_x1] 37)) b9_p_aF_0
  have q10_p_aF_1 := cell_below (w := w9) ((Below.refl _ _).alloc (Nat.le_refl _) (.cells #[.int .i64 x_aF.dim, .slice vPa_x1 vPl_x1 vPc_x1] 37)) b9_p_aF_1
  have q10_x0_0 := cell_below (w := w9) ((Below.refl _ _).alloc (Nat.le_refl _) (.cells #[.int .i64 x_aF.dim, .slice vPa_x1 vPl_x1 vPc_x1] 37)) b9_x0_0
  have q10_x0_1 := cell_below (w := w9) ((Below.refl _ _).alloc (Nat.le_refl _) (.cells #[.int .i64 x_aF.dim, .slice vPa_x1 vPl_x1 vPc_x1] 37)) b9_x0_1
  have q10_x0_2 := cell_below (w := w9) ((Below.refl _ _).alloc (Nat.le_refl _) (.cells #[.int .i64 x_aF.dim, .slice vPa_x1 vPl_x1 vPc_x1] 37)) b9_x0_2
  go_wp2_with fail
  clear q10_p_aT_0 q10_p_aT_1 q10_p_aT_2 q10_p_aF_0 q10_p_aF_1 q10_x0_0 q10_x0_1 q10_x0_2
  obtain ⟨w10, hw10⟩ : ∃ W, W = w9.alloc (.cells #[.int .i64 x_aF.dim, .slice vPa_x1 vPl_x1 vPc_x1] 37) := ⟨_, rfl⟩
  rw [← hw10]
  have hb10 : Below w9.heap.size w9 w10 := hw10 ▸ (Below.refl _ _).alloc (Nat.le_refl _) _
  have HZ10 : Hid (w9.heap.size + 1 ≤ w10.heap.size) := Lib.hid (by rw [hw10]; simp)
  have b10_x1_0 : w10.cell? ⟨w9.heap.size, 0, none⟩ = some (.int .i64 x_aF.dim) := by rw [hw10]; simp
  have b10_x1_1 : w10.cell? ⟨w9.heap.size, 1, none⟩ = some (.slice vPa_x1 vPl_x1 vPc_x1) := by rw [hw10]; simp
  clear hw10
  have c10_w := c9_w.trans (hb10.mono c9_w.size)
  have c10_w0 := c9_w0.trans (hb10.mono c9_w0.size)
  have c10_x0 := c9_x0.trans (hb10.mono c9_x0.size)
  have c10_x1 := hb10
  have b10_p_aT_0 := cell_below hb10 b9_p_aT_0
  have b10_p_aT_1 := cell_below hb10 b9_p_aT_1
  have b10_p_aT_2 := cell_below hb10 b9_p_aT_2
  clear b9_p_aT_0 b9_p_aT_1 b9_p_aT_2
  have b10_p_aF_0 := cell_below hb10 b9_p_aF_0
  have b10_p_aF_1 := cell_below hb10 b9_p_aF_1
  clear b9_p_aF_0 b9_p_aF_1
  have b10_x0_0 := cell_below hb10 b9_x0_0
  have b10_x0_1 := cell_below hb10 b9_x0_1
  have b10_x0_2 := cell_below hb10 b9_x0_2
  clear b9_x0_0 b9_x0_1 b9_x0_2
  go_wp2_with fail
  refine (to_II v_aPath x_aPath _ (rd_II_mono c10_w h_aPath) fit_aPath).mono ?_
  rintro e w11 ⟨v11, fp11, rfl, ho11, hn11, hb11⟩
  have HZ11 := Lib.hid hb11.size
  have c11_w := c10_w.trans (hb11.mono c10_w.size)
  have c11_w0 := c10_w0.trans (hb11.mono c10_w0.size)
  have c11_x0 := c10_x0.trans (hb11.mono c10_x0.size)
  have c11_x1 := c10_x1.trans (hb11.mono c10_x1.size)
  have b11_p_aT_0 := cell_below hb11 b10_p_aT_0
  have b11_p_aT_1 := cell_below hb11 b10_p_aT_1
  have b11_p_aT_2 := cell_below hb11 b10_p_aT_2
  clear b10_p_aT_0 b10_p_aT_1 b10_p_aT_2
  have b11_p_aF_0 := cell_below hb11 b10_p_aF_0
  have b11_p_aF_1 := cell_below hb11 b10_p_aF_1
  clear b10_p_aF_0 b10_p_aF_1
  have b11_x0_0 := cell_below hb11 b10_x0_0
  have b11_x0_1 := cell_below hb11 b10_x0_1
  have b11_x0_2 := cell_below hb11 b10_x0_2
  clear b10_x0_0 b10_x0_1 b10_x0_2
  have b11_x1_0 := cell_below hb11 b10_x1_0
  have b11_x1_1 := cell_below hb11 b10_x1_1
  clear b10_x1_0 b10_x1_1
  have new_x2 := hn11
  have lt_x2 := own_II_lt ho11
  go_wp2_with fail
  refine (stepAlong_c (.agg #[.int .i64 x_aT.stages, .slice vAa_x0 vAl_x0 vAc_x0, .slice vBa_x0 vBl_x0 vBc_x0]) x_aT (.agg #[.int .i64 x_aF.dim, .slice vPa_x1 vPl_x1 vPc_x1]) x_aF v11 x_aPath _ (own_Tab_rd (own_Tab_only ho7 (Only.of_below (fp := []) c11_x0) (by simp))) (own_Fld_rd (own_Fld_only ho9 (Only.of_below (fp := []) c11_x1) (by simp))) (own_II_rd ho11) fit_aF).mono ?_
  rintro e w12 ⟨v12, fp12, rfl, ho12, hn12, hb12⟩
  have HZ12 := Lib.hid hb12.size
  have c12_w := c11_w.trans (hb12.mono c11_w.size)
  have c12_w0 := c11_w0.trans (hb12.mono c11_w0.size)
  have c12_x0 := c11_x0.trans (hb12.mono c11_x0.size)
  have c12_x1 := c11_x1.trans (hb12.mono c11_x1.size)
  have c12_x2 := hb12
  have b12_p_aT_0 := cell_below hb12 b11_p_aT_0
  have b12_p_aT_1 := cell_below hb12 b11_p_aT_1
  have b12_p_aT_2 := cell_below hb12 b11_p_aT_2
  clear b11_p_aT_0 b11_p_aT_1 b11_p_aT_2
  have b12_p_aF_0 := cell_below hb12 b11_p_aF_0
  have b12_p_aF_1 := cell_below hb12 b11_p_aF_1
  clear b11_p_aF_0 b11_p_aF_1
  have b12_x0_0 := cell_below hb12 b11_x0_0
  have b12_x0_1 := cell_below hb12 b11_x0_1
  have b12_x0_2 := cell_below hb12 b11_x0_2
  clear b11_x0_0 b11_x0_1 b11_x0_2
  have b12_x1_0 := cell_below hb12 b11_x1_0
  have b12_x1_1 := cell_below hb12 b11_x1_1
  clear b11_x1_0 b11_x1_1
  have new_g0 := hn12
  have lt_g0 := own_II_lt ho12
  go_wp2_with fail
  refine (eq_II v12 v6 (stepL x_aT x_aF x_aPath) _ (own_II_rd ho12) (own_II_rd (own_II_only ho6 (Only.of_below (fp := []) c12_w0) (by simp)))).mono ?_
  rintro e w13 ⟨rfl, hb13⟩
  have HZ13 := Lib.hid hb13.size
  have c13_w := c12_w.trans (hb13.mono c12_w.size)
  have c13_w0 := c12_w0.trans (hb13.mono c12_w0.size)
  have c13_x0 := c12_x0.trans (hb13.mono c12_x0.size)
  have c13_x1 := c12_x1.trans (hb13.mono c12_x1.size)
  have c13_x2 := c12_x2.trans (hb13.mono c12_x2.size)
  have c13_g0 := hb13
  have b13_p_aT_0 := cell_below hb13 b12_p_aT_0
  have b13_p_aT_1 := cell_below hb13 b12_p_aT_1
  have b13_p_aT_2 := cell_below hb13 b12_p_aT_2
  clear b12_p_aT_0 b12_p_aT_1 b12_p_aT_2
  have b13_p_aF_0 := cell_below hb13 b12_p_aF_0
  have b13_p_aF_1 := cell_below hb13 b12_p_aF_1
  clear b12_p_aF_0 b12_p_aF_1
  have b13_x0_0 := cell_below hb13 b12_x0_0
  have b13_x0_1 := cell_below hb13 b12_x0_1
  have b13_x0_2 := cell_below hb13 b12_x0_2
  clear b12_x0_0 b12_x0_1 b12_x0_2
  have b13_x1_0 := cell_below hb13 b12_x1_0
  have b13_x1_1 := cell_below hb13 b12_x1_1
  clear b12_x1_0 b12_x1_1
  go_wp2_with fail
  go_region_held3 (fun w' => w'.cell? ⟨w7.heap.size, 0, none⟩ = some (.int .i64 x_aT.stages) ∧ w'.cell? ⟨w7.heap.size, 1, none⟩ = some (.slice vAa_x0 vAl_x0 vAc_x0) ∧ w'.cell? ⟨w7.heap.size, 2, none⟩ = some (.slice vBa_x0 vBl_x0 vBc_x0) ∧ w'.cell? ⟨w0.heap.size, 0, none⟩ = some (.int .i64 x_aT.stages) ∧ w'.cell? ⟨w0.heap.size, 1, none⟩ = some (.slice vAa_aT vAl_aT vAc_aT) ∧ w'.cell? ⟨w0.heap.size, 2, none⟩ = some (.slice vBa_aT vBl_aT vBc_aT)) (first | exact ⟨b13_x0_0, b13_x0_1, b13_x0_2, b13_p_aT_0, b13_p_aT_1, b13_p_aT_2⟩ | exact ⟨b14_x0_0, b14_x0_1, b14_x0_2, b14_p_aT_0, b14_p_aT_1, b14_p_aT_2⟩ | exact ⟨b15_x0_0, b15_x0_1, b15_x0_2, b15_p_aT_0, b15_p_aT_1, b15_p_aT_2⟩) (first | (refine (to_Tab (.agg #[.int .i64 x_aT.stages, .slice vAa_aT vAl_aT vAc_aT, .slice vBa_aT vBl_aT vBc_aT]) x_aT _ (rd_Tab_mono c13_w.drew h_aT) fit_aT).mono ?_; rintro e w14 ⟨v14, fp14, rfl, ho14, hn14d, hb14d⟩; have hn14 : ∀ g ∈ fp14, w13.heap.size ≤ g := hn14d; have hb14 : Below w13.heap.size w13 w14 := ⟨hb14d.os, hb14d.tape, hb14d.output, hb14d.size, hb14d.block⟩; clear hn14d hb14d; have HZ14 := Lib.hid hb14.size; have c14_w := c13_w.trans (hb14.mono c13_w.size); have c14_w0 := c13_w0.trans (hb14.mono c13_w0.size); have c14_x0 := c13_x0.trans (hb14.mono c13_x0.size); have c14_x1 := c13_x1.trans (hb14.mono c13_x1.size); have c14_x2 := c13_x2.trans (hb14.mono c13_x2.size); have c14_g0 := c13_g0.trans (hb14.mono c13_g0.size); have b14_p_aT_0 := cell_below hb14 b13_p_aT_0; have b14_p_aT_1 := cell_below hb14 b13_p_aT_1; have b14_p_aT_2 := cell_below hb14 b13_p_aT_2; clear b13_p_aT_0 b13_p_aT_1 b13_p_aT_2; have b14_p_aF_0 := cell_below hb14 b13_p_aF_0; have b14_p_aF_1 := cell_below hb14 b13_p_aF_1; clear b13_p_aF_0 b13_p_aF_1; have b14_x0_0 := cell_below hb14 b13_x0_0; have b14_x0_1 := cell_below hb14 b13_x0_1; have b14_x0_2 := cell_below hb14 b13_x0_2; clear b13_x0_0 b13_x0_1 b13_x0_2; have b14_x1_0 := cell_below hb14 b13_x1_0; have b14_x1_1 := cell_below hb14 b13_x1_1; clear b13_x1_0 b13_x1_1; have new_t14 := hn14; have lt_t14 := own_Tab_lt ho14; have ho14_k := ho14; obtain ⟨vA_t14, vB_t14, fA_t14, fB_t14, rfl, hI_t14, hoA_t14, hoB_t14, hfe_t14, hfn_t14⟩ := ho14_k; obtain ⟨vAa_t14, vAl_t14, vAc_t14, rfl⟩ := rdI_slice (ownI_rd hoA_t14); obtain ⟨vBa_t14, vBl_t14, vBc_t14, rfl⟩ := rdI_slice (ownI_rd hoB_t14)) | (refine (eq_Tab (.agg #[.int .i64 x_aT.stages, .slice vAa_x0 vAl_x0 vAc_x0, .slice vBa_x0 vBl_x0 vBc_x0]) (.agg #[.int .i64 x_aT.stages, .slice vAa_t14 vAl_t14 vAc_t14, .slice vBa_t14 vBl_t14 vBc_t14]) x_aT _ (own_Tab_rd (own_Tab_only ho7 (Only.of_below (fp := []) c14_x0) (by simp))) (own_Tab_rd ho14)).mono ?_; rintro e w15 ⟨rfl, hb15⟩; have HZ15 := Lib.hid hb15.size; have c15_w := c14_w.trans (hb15.mono c14_w.size); have c15_w0 := c14_w0.trans (hb15.mono c14_w0.size); have c15_x0 := c14_x0.trans (hb15.mono c14_x0.size); have c15_x1 := c14_x1.trans (hb15.mono c14_x1.size); have c15_x2 := c14_x2.trans (hb15.mono c14_x2.size); have c15_g0 := c14_g0.trans (hb15.mono c14_g0.size); have c15_t14 := hb15; have b15_p_aT_0 := cell_below hb15 b14_p_aT_0; have b15_p_aT_1 := cell_below hb15 b14_p_aT_1; have b15_p_aT_2 := cell_below hb15 b14_p_aT_2; clear b14_p_aT_0 b14_p_aT_1 b14_p_aT_2; have b15_p_aF_0 := cell_below hb15 b14_p_aF_0; have b15_p_aF_1 := cell_below hb15 b14_p_aF_1; clear b14_p_aF_0 b14_p_aF_1; have b15_x0_0 := cell_below hb15 b14_x0_0; have b15_x0_1 := cell_below hb15 b14_x0_1; have b15_x0_2 := cell_below hb15 b14_x0_2; clear b14_x0_0 b14_x0_1 b14_x0_2; have b15_x1_0 := cell_below hb15 b14_x1_0; have b15_x1_1 := cell_below hb15 b14_x1_1; clear b14_x1_0 b14_x1_1))
  go_wp2_with fail
  go_region_held3 (fun w' => w'.cell? ⟨w9.heap.size, 0, none⟩ = some (.int .i64 x_aF.dim) ∧ w'.cell? ⟨w9.heap.size, 1, none⟩ = some (.slice vPa_x1 vPl_x1 vPc_x1) ∧ w'.cell? ⟨w0.heap.size + 1, 0, none⟩ = some (.int .i64 x_aF.dim) ∧ w'.cell? ⟨w0.heap.size + 1, 1, none⟩ = some (.slice vPa_aF vPl_aF vPc_aF)) (first | exact ⟨b15_x1_0, b15_x1_1, b15_p_aF_0, b15_p_aF_1⟩ | exact ⟨b16_x1_0, b16_x1_1, b16_p_aF_0, b16_p_aF_1⟩ | exact ⟨b17_x1_0, b17_x1_1, b17_p_aF_0, b17_p_aF_1⟩) (first | (refine (to_Fld (.agg #[.int .i64 x_aF.dim, .slice vPa_aF vPl_aF vPc_aF]) x_aF _ (rd_Fld_mono c15_w.drew h_aF) fit_aF).mono ?_; rintro e w16 ⟨v16, fp16, rfl, ho16, hn16d, hb16d⟩; have hn16 : ∀ g ∈ fp16, w15.heap.size ≤ g := hn16d; have hb16 : Below w15.heap.size w15 w16 := ⟨hb16d.os, hb16d.tape, hb16d.output, hb16d.size, hb16d.block⟩; clear hn16d hb16d; have HZ16 := Lib.hid hb16.size; have c16_w := c15_w.trans (hb16.mono c15_w.size); have c16_w0 := c15_w0.trans (hb16.mono c15_w0.size); have c16_x0 := c15_x0.trans (hb16.mono c15_x0.size); have c16_x1 := c15_x1.trans (hb16.mono c15_x1.size); have c16_x2 := c15_x2.trans (hb16.mono c15_x2.size); have c16_g0 := c15_g0.trans (hb16.mono c15_g0.size); have b16_p_aT_0 := cell_below hb16 b15_p_aT_0; have b16_p_aT_1 := cell_below hb16 b15_p_aT_1; have b16_p_aT_2 := cell_below hb16 b15_p_aT_2; clear b15_p_aT_0 b15_p_aT_1 b15_p_aT_2; have b16_p_aF_0 := cell_below hb16 b15_p_aF_0; have b16_p_aF_1 := cell_below hb16 b15_p_aF_1; clear b15_p_aF_0 b15_p_aF_1; have b16_x0_0 := cell_below hb16 b15_x0_0; have b16_x0_1 := cell_below hb16 b15_x0_1; have b16_x0_2 := cell_below hb16 b15_x0_2; clear b15_x0_0 b15_x0_1 b15_x0_2; have b16_x1_0 := cell_below hb16 b15_x1_0; have b16_x1_1 := cell_below hb16 b15_x1_1; clear b15_x1_0 b15_x1_1; have new_t16 := hn16; have lt_t16 := own_Fld_lt ho16; have ho16_k := ho16; obtain ⟨vP_t16, rfl, hI_t16, hoP_t16⟩ := ho16_k; obtain ⟨vPa_t16, vPl_t16, vPc_t16, rfl⟩ := ownMss_slice hoP_t16) | (refine (eq_Fld (.agg #[.int .i64 x_aF.dim, .slice vPa_x1 vPl_x1 vPc_x1]) (.agg #[.int .i64 x_aF.dim, .slice vPa_t16 vPl_t16 vPc_t16]) x_aF _ (own_Fld_rd (own_Fld_only ho9 (Only.of_below (fp := []) c16_x1) (by simp))) (own_Fld_rd ho16)).mono ?_; rintro e w17 ⟨rfl, hb17⟩; have HZ17 := Lib.hid hb17.size; have c17_w := c16_w.trans (hb17.mono c16_w.size); have c17_w0 := c16_w0.trans (hb17.mono c16_w0.size); have c17_x0 := c16_x0.trans (hb17.mono c16_x0.size); have c17_x1 := c16_x1.trans (hb17.mono c16_x1.size); have c17_x2 := c16_x2.trans (hb17.mono c16_x2.size); have c17_g0 := c16_g0.trans (hb17.mono c16_g0.size); have c17_t16 := hb17; have b17_p_aT_0 := cell_below hb17 b16_p_aT_0; have b17_p_aT_1 := cell_below hb17 b16_p_aT_1; have b17_p_aT_2 := cell_below hb17 b16_p_aT_2; clear b16_p_aT_0 b16_p_aT_1 b16_p_aT_2; have b17_p_aF_0 := cell_below hb17 b16_p_aF_0; have b17_p_aF_1 := cell_below hb17 b16_p_aF_1; clear b16_p_aF_0 b16_p_aF_1; have b17_x0_0 := cell_below hb17 b16_x0_0; have b17_x0_1 := cell_below hb17 b16_x0_1; have b17_x0_2 := cell_below hb17 b16_x0_2; clear b16_x0_0 b16_x0_1 b16_x0_2; have b17_x1_0 := cell_below hb17 b16_x1_0; have b17_x1_1 := cell_below hb17 b16_x1_1; clear b16_x1_0 b16_x1_1))
  go_wp2_with fail
  refine (to_II v_aPath x_aPath _ (rd_II_mono c17_w h_aPath) fit_aPath).mono ?_
  rintro e w18 ⟨v18, fp18, rfl, ho18, hn18, hb18⟩
  have HZ18 := Lib.hid hb18.size
  have c18_w := c17_w.trans (hb18.mono c17_w.size)
  have c18_w0 := c17_w0.trans (hb18.mono c17_w0.size)
  have c18_x0 := c17_x0.trans (hb18.mono c17_x0.size)
  have c18_x1 := c17_x1.trans (hb18.mono c17_x1.size)
  have c18_x2 := c17_x2.trans (hb18.mono c17_x2.size)
  have c18_g0 := c17_g0.trans (hb18.mono c17_g0.size)
  have b18_p_aT_0 := cell_below hb18 b17_p_aT_0
  have b18_p_aT_1 := cell_below hb18 b17_p_aT_1
  have b18_p_aT_2 := cell_below hb18 b17_p_aT_2
  clear b17_p_aT_0 b17_p_aT_1 b17_p_aT_2
  have b18_p_aF_0 := cell_below hb18 b17_p_aF_0
  have b18_p_aF_1 := cell_below hb18 b17_p_aF_1
  clear b17_p_aF_0 b17_p_aF_1
  have b18_x0_0 := cell_below hb18 b17_x0_0
  have b18_x0_1 := cell_below hb18 b17_x0_1
  have b18_x0_2 := cell_below hb18 b17_x0_2
  clear b17_x0_0 b17_x0_1 b17_x0_2
  have b18_x1_0 := cell_below hb18 b17_x1_0
  have b18_x1_1 := cell_below hb18 b17_x1_1
  clear b17_x1_0 b17_x1_1
  have new_t18 := hn18
  have lt_t18 := own_II_lt ho18
  go_wp2_with fail
  refine (eq_II v11 v18 x_aPath _ (own_II_rd (own_II_only ho11 (Only.of_below (fp := []) c18_x2) (by simp))) (own_II_rd ho18)).mono ?_
  rintro e w19 ⟨rfl, hb19⟩
  have HZ19 := Lib.hid hb19.size
  have c19_w := c18_w.trans (hb19.mono c18_w.size)
  have c19_w0 := c18_w0.trans (hb19.mono c18_w0.size)
  have c19_x0 := c18_x0.trans (hb19.mono c18_x0.size)
  have c19_x1 := c18_x1.trans (hb19.mono c18_x1.size)
  have c19_x2 := c18_x2.trans (hb19.mono c18_x2.size)
  have c19_g0 := c18_g0.trans (hb19.mono c18_g0.size)
  have c19_t18 := hb19
  have b19_p_aT_0 := cell_below hb19 b18_p_aT_0
  have b19_p_aT_1 := cell_below hb19 b18_p_aT_1
  have b19_p_aT_2 := cell_below hb19 b18_p_aT_2
  clear b18_p_aT_0 b18_p_aT_1 b18_p_aT_2
  have b19_p_aF_0 := cell_below hb19 b18_p_aF_0
  have b19_p_aF_1 := cell_below hb19 b18_p_aF_1
  clear b18_p_aF_0 b18_p_aF_1
  have b19_x0_0 := cell_below hb19 b18_x0_0
  have b19_x0_1 := cell_below hb19 b18_x0_1
  have b19_x0_2 := cell_below hb19 b18_x0_2
  clear b18_x0_0 b18_x0_1 b18_x0_2
  have b19_x1_0 := cell_below hb19 b18_x1_0
  have b19_x1_1 := cell_below hb19 b18_x1_1
  clear b18_x1_0 b18_x1_1
  have hc_x0 := cnt_Tab_le fit_aT
  go_wp2_with fail
  refine (mark_Tab (.agg #[.int .i64 x_aT.stages, .slice vAa_x0 vAl_x0 vAc_x0, .slice vBa_x0 vBl_x0 vBc_x0]) x_aT fp7 _ _ (own_Tab_only ho7 (Only.of_below (fp := []) c19_x0) (by simp)) (by omega) (by omega)).mono ?_
  rintro e w20 ⟨rfl, ho20, hb20⟩
  have HZ20 := Lib.hid hb20.size
  have c20_w := c19_w.trans (hb20.below c19_w.size (fun g hg => by have := new_x0 g hg; have := HZ1.out; have := HZ2.out; have := HZ3.out; have := HZ4.out; have := HZ5.out; have := HZ6.out; have := HZ7.out; have := HZ8.out; have := HZ9.out; have := HZ10.out; have := HZ11.out; have := HZ12.out; have := HZ13.out; have := HZ14.out; have := HZ15.out; have := HZ16.out; have := HZ17.out; have := HZ18.out; have := HZ19.out; have := HZ20.out; omega))
  have c20_w0 := c19_w0.trans (hb20.below c19_w0.size (fun g hg => by have := new_x0 g hg; have := HZ1.out; have := HZ2.out; have := HZ3.out; have := HZ4.out; have := HZ5.out; have := HZ6.out; have := HZ7.out; have := HZ8.out; have := HZ9.out; have := HZ10.out; have := HZ11.out; have := HZ12.out; have := HZ13.out; have := HZ14.out; have := HZ15.out; have := HZ16.out; have := HZ17.out; have := HZ18.out; have := HZ19.out; have := HZ20.out; omega))
  have b20_p_aT_0 := cell_only hb20 (fun hm => by have := new_x0 _ hm; have := lt_x0 _ hm; have := HZ1.out; have := HZ2.out; have := HZ3.out; have := HZ4.out; have := HZ5.out; have := HZ6.out; have := HZ7.out; have := HZ8.out; have := HZ9.out; have := HZ10.out; have := HZ11.out; have := HZ12.out; have := HZ13.out; have := HZ14.out; have := HZ15.out; have := HZ16.out; have := HZ17.out; have := HZ18.out; have := HZ19.out; have := HZ20.out; omega) b19_p_aT_0
  have b20_p_aT_1 := cell_only hb20 (fun hm => by have := new_x0 _ hm; have := lt_x0 _ hm; have := HZ1.out; have := HZ2.out; have := HZ3.out; have := HZ4.out; have := HZ5.out; have := HZ6.out; have := HZ7.out; have := HZ8.out; have := HZ9.out; have := HZ10.out; have := HZ11.out; have := HZ12.out; have := HZ13.out; have := HZ14.out; have := HZ15.out; have := HZ16.out; have := HZ17.out; have := HZ18.out; have := HZ19.out; have := HZ20.out; omega) b19_p_aT_1
  have b20_p_aT_2 := cell_only hb20 (fun hm => by have := new_x0 _ hm; have := lt_x0 _ hm; have := HZ1.out; have := HZ2.out; have := HZ3.out; have := HZ4.out; have := HZ5.out; have := HZ6.out; have := HZ7.out; have := HZ8.out; have := HZ9.out; have := HZ10.out; have := HZ11.out; have := HZ12.out; have := HZ13.out; have := HZ14.out; have := HZ15.out; have := HZ16.out; have := HZ17.out; have := HZ18.out; have := HZ19.out; have := HZ20.out; omega) b19_p_aT_2
  clear b19_p_aT_0 b19_p_aT_1 b19_p_aT_2
  have b20_p_aF_0 := cell_only hb20 (fun hm => by have := new_x0 _ hm; have := lt_x0 _ hm; have := HZ1.out; have := HZ2.out; have := HZ3.out; have := HZ4.out; have := HZ5.out; have := HZ6.out; have := HZ7.out; have := HZ8.out; have := HZ9.out; have := HZ10.out; have := HZ11.out; have := HZ12.out; have := HZ13.out; have := HZ14.out; have := HZ15.out; have := HZ16.out; have := HZ17.out; have := HZ18.out; have := HZ19.out; have := HZ20.out; omega) b19_p_aF_0
  have b20_p_aF_1 := cell_only hb20 (fun hm => by have := new_x0 _ hm; have := lt_x0 _ hm; have := HZ1.out; have := HZ2.out; have := HZ3.out; have := HZ4.out; have := HZ5.out; have := HZ6.out; have := HZ7.out; have := HZ8.out; have := HZ9.out; have := HZ10.out; have := HZ11.out; have := HZ12.out; have := HZ13.out; have := HZ14.out; have := HZ15.out; have := HZ16.out; have := HZ17.out; have := HZ18.out; have := HZ19.out; have := HZ20.out; omega) b19_p_aF_1
  clear b19_p_aF_0 b19_p_aF_1
  have b20_x0_0 := cell_only hb20 (fun hm => by have := new_x0 _ hm; have := lt_x0 _ hm; have := HZ1.out; have := HZ2.out; have := HZ3.out; have := HZ4.out; have := HZ5.out; have := HZ6.out; have := HZ7.out; have := HZ8.out; have := HZ9.out; have := HZ10.out; have := HZ11.out; have := HZ12.out; have := HZ13.out; have := HZ14.out; have := HZ15.out; have := HZ16.out; have := HZ17.out; have := HZ18.out; have := HZ19.out; have := HZ20.out; omega) b19_x0_0
  have b20_x0_1 := cell_only hb20 (fun hm => by have := new_x0 _ hm; have := lt_x0 _ hm; have := HZ1.out; have := HZ2.out; have := HZ3.out; have := HZ4.out; have := HZ5.out; have := HZ6.out; have := HZ7.out; have := HZ8.out; have := HZ9.out; have := HZ10.out; have := HZ11.out; have := HZ12.out; have := HZ13.out; have := HZ14.out; have := HZ15.out; have := HZ16.out; have := HZ17.out; have := HZ18.out; have := HZ19.out; have := HZ20.out; omega) b19_x0_1
  have b20_x0_2 := cell_only hb20 (fun hm => by have := new_x0 _ hm; have := lt_x0 _ hm; have := HZ1.out; have := HZ2.out; have := HZ3.out; have := HZ4.out; have := HZ5.out; have := HZ6.out; have := HZ7.out; have := HZ8.out; have := HZ9.out; have := HZ10.out; have := HZ11.out; have := HZ12.out; have := HZ13.out; have := HZ14.out; have := HZ15.out; have := HZ16.out; have := HZ17.out; have := HZ18.out; have := HZ19.out; have := HZ20.out; omega) b19_x0_2
  clear b19_x0_0 b19_x0_1 b19_x0_2
  have b20_x1_0 := cell_only hb20 (fun hm => by have := new_x0 _ hm; have := lt_x0 _ hm; have := HZ1.out; have := HZ2.out; have := HZ3.out; have := HZ4.out; have := HZ5.out; have := HZ6.out; have := HZ7.out; have := HZ8.out; have := HZ9.out; have := HZ10.out; have := HZ11.out; have := HZ12.out; have := HZ13.out; have := HZ14.out; have := HZ15.out; have := HZ16.out; have := HZ17.out; have := HZ18.out; have := HZ19.out; have := HZ20.out; omega) b19_x1_0
  have b20_x1_1 := cell_only hb20 (fun hm => by have := new_x0 _ hm; have := lt_x0 _ hm; have := HZ1.out; have := HZ2.out; have := HZ3.out; have := HZ4.out; have := HZ5.out; have := HZ6.out; have := HZ7.out; have := HZ8.out; have := HZ9.out; have := HZ10.out; have := HZ11.out; have := HZ12.out; have := HZ13.out; have := HZ14.out; have := HZ15.out; have := HZ16.out; have := HZ17.out; have := HZ18.out; have := HZ19.out; have := HZ20.out; omega) b19_x1_1
  clear b19_x1_0 b19_x1_1
  have ho20_x1 := own_Fld_only (own_Fld_only ho9 (Only.of_below (fp := []) c19_x1) (by simp)) hb20 (fun b hb hm => by have := new_x1 b hb; have := lt_x0 b hm; have := HZ1.out; have := HZ2.out; have := HZ3.out; have := HZ4.out; have := HZ5.out; have := HZ6.out; have := HZ7.out; have := HZ8.out; have := HZ9.out; have := HZ10.out; have := HZ11.out; have := HZ12.out; have := HZ13.out; have := HZ14.out; have := HZ15.out; have := HZ16.out; have := HZ17.out; have := HZ18.out; have := HZ19.out; have := HZ20.out; omega)
  have ho20_x2 := own_II_only (own_II_only ho11 (Only.of_below (fp := []) c19_x2) (by simp)) hb20 (fun b hb hm => by have := new_x2 b hb; have := lt_x0 b hm; have := HZ1.out; have := HZ2.out; have := HZ3.out; have := HZ4.out; have := HZ5.out; have := HZ6.out; have := HZ7.out; have := HZ8.out; have := HZ9.out; have := HZ10.out; have := HZ11.out; have := HZ12.out; have := HZ13.out; have := HZ14.out; have := HZ15.out; have := HZ16.out; have := HZ17.out; have := HZ18.out; have := HZ19.out; have := HZ20.out; omega)
  have ho20_g0 := own_II_only (own_II_only ho12 (Only.of_below (fp := []) c19_g0) (by simp)) hb20 (fun b hb hm => by have := new_g0 b hb; have := lt_x0 b hm; have := HZ1.out; have := HZ2.out; have := HZ3.out; have := HZ4.out; have := HZ5.out; have := HZ6.out; have := HZ7.out; have := HZ8.out; have := HZ9.out; have := HZ10.out; have := HZ11.out; have := HZ12.out; have := HZ13.out; have := HZ14.out; have := HZ15.out; have := HZ16.out; have := HZ17.out; have := HZ18.out; have := HZ19.out; have := HZ20.out; omega)
  have hc_x1 := cnt_Fld_le fit_aF
  go_wp2_with fail
  refine (mark_Fld (.agg #[.int .i64 x_aF.dim, .slice vPa_x1 vPl_x1 vPc_x1]) x_aF fp9 _ _ ho20_x1 (by omega) (by omega)).mono ?_
  rintro e w21 ⟨rfl, ho21, hb21⟩
  have HZ21 := Lib.hid hb21.size
  have c21_w := c20_w.trans (hb21.below c20_w.size (fun g hg => by have := new_x1 g hg; have := HZ1.out; have := HZ2.out; have := HZ3.out; have := HZ4.out; have := HZ5.out; have := HZ6.out; have := HZ7.out; have := HZ8.out; have := HZ9.out; have := HZ10.out; have := HZ11.out; have := HZ12.out; have := HZ13.out; have := HZ14.out; have := HZ15.out; have := HZ16.out; have := HZ17.out; have := HZ18.out; have := HZ19.out; have := HZ20.out; have := HZ21.out; omega))
  have c21_w0 := c20_w0.trans (hb21.below c20_w0.size (fun g hg => by have := new_x1 g hg; have := HZ1.out; have := HZ2.out; have := HZ3.out; have := HZ4.out; have := HZ5.out; have := HZ6.out; have := HZ7.out; have := HZ8.out; have := HZ9.out; have := HZ10.out; have := HZ11.out; have := HZ12.out; have := HZ13.out; have := HZ14.out; have := HZ15.out; have := HZ16.out; have := HZ17.out; have := HZ18.out; have := HZ19.out; have := HZ20.out; have := HZ21.out; omega))
  have b21_p_aT_0 := cell_only hb21 (fun hm => by have := new_x1 _ hm; have := lt_x1 _ hm; have := HZ1.out; have := HZ2.out; have := HZ3.out; have := HZ4.out; have := HZ5.out; have := HZ6.out; have := HZ7.out; have := HZ8.out; have := HZ9.out; have := HZ10.out; have := HZ11.out; have := HZ12.out; have := HZ13.out; have := HZ14.out; have := HZ15.out; have := HZ16.out; have := HZ17.out; have := HZ18.out; have := HZ19.out; have := HZ20.out; have := HZ21.out; omega) b20_p_aT_0
  have b21_p_aT_1 := cell_only hb21 (fun hm => by have := new_x1 _ hm; have := lt_x1 _ hm; have := HZ1.out; have := HZ2.out; have := HZ3.out; have := HZ4.out; have := HZ5.out; have := HZ6.out; have := HZ7.out; have := HZ8.out; have := HZ9.out; have := HZ10.out; have := HZ11.out; have := HZ12.out; have := HZ13.out; have := HZ14.out; have := HZ15.out; have := HZ16.out; have := HZ17.out; have := HZ18.out; have := HZ19.out; have := HZ20.out; have := HZ21.out; omega) b20_p_aT_1
  have b21_p_aT_2 := cell_only hb21 (fun hm => by have := new_x1 _ hm; have := lt_x1 _ hm; have := HZ1.out; have := HZ2.out; have := HZ3.out; have := HZ4.out; have := HZ5.out; have := HZ6.out; have := HZ7.out; have := HZ8.out; have := HZ9.out; have := HZ10.out; have := HZ11.out; have := HZ12.out; have := HZ13.out; have := HZ14.out; have := HZ15.out; have := HZ16.out; have := HZ17.out; have := HZ18.out; have := HZ19.out; have := HZ20.out; have := HZ21.out; omega) b20_p_aT_2
  clear b20_p_aT_0 b20_p_aT_1 b20_p_aT_2
  have b21_p_aF_0 := cell_only hb21 (fun hm => by have := new_x1 _ hm; have := lt_x1 _ hm; have := HZ1.out; have := HZ2.out; have := HZ3.out; have := HZ4.out; have := HZ5.out; have := HZ6.out; have := HZ7.out; have := HZ8.out; have := HZ9.out; have := HZ10.out; have := HZ11.out; have := HZ12.out; have := HZ13.out; have := HZ14.out; have := HZ15.out; have := HZ16.out; have := HZ17.out; have := HZ18.out; have := HZ19.out; have := HZ20.out; have := HZ21.out; omega) b20_p_aF_0
  have b21_p_aF_1 := cell_only hb21 (fun hm => by have := new_x1 _ hm; have := lt_x1 _ hm; have := HZ1.out; have := HZ2.out; have := HZ3.out; have := HZ4.out; have := HZ5.out; have := HZ6.out; have := HZ7.out; have := HZ8.out; have := HZ9.out; have := HZ10.out; have := HZ11.out; have := HZ12.out; have := HZ13.out; have := HZ14.out; have := HZ15.out; have := HZ16.out; have := HZ17.out; have := HZ18.out; have := HZ19.out; have := HZ20.out; have := HZ21.out; omega) b20_p_aF_1
  clear b20_p_aF_0 b20_p_aF_1
  have b21_x0_0 := cell_only hb21 (fun hm => by have := new_x1 _ hm; have := lt_x1 _ hm; have := HZ1.out; have := HZ2.out; have := HZ3.out; have := HZ4.out; have := HZ5.out; have := HZ6.out; have := HZ7.out; have := HZ8.out; have := HZ9.out; have := HZ10.out; have := HZ11.out; have := HZ12.out; have := HZ13.out; have := HZ14.out; have := HZ15.out; have := HZ16.out; have := HZ17.out; have := HZ18.out; have := HZ19.out; have := HZ20.out; have := HZ21.out; omega) b20_x0_0
  have b21_x0_1 := cell_only hb21 (fun hm => by have := new_x1 _ hm; have := lt_x1 _ hm; have := HZ1.out; have := HZ2.out; have := HZ3.out; have := HZ4.out; have := HZ5.out; have := HZ6.out; have := HZ7.out; have := HZ8.out; have := HZ9.out; have := HZ10.out; have := HZ11.out; have := HZ12.out; have := HZ13.out; have := HZ14.out; have := HZ15.out; have := HZ16.out; have := HZ17.out; have := HZ18.out; have := HZ19.out; have := HZ20.out; have := HZ21.out; omega) b20_x0_1
  have b21_x0_2 := cell_only hb21 (fun hm => by have := new_x1 _ hm; have := lt_x1 _ hm; have := HZ1.out; have := HZ2.out; have := HZ3.out; have := HZ4.out; have := HZ5.out; have := HZ6.out; have := HZ7.out; have := HZ8.out; have := HZ9.out; have := HZ10.out; have := HZ11.out; have := HZ12.out; have := HZ13.out; have := HZ14.out; have := HZ15.out; have := HZ16.out; have := HZ17.out; have := HZ18.out; have := HZ19.out; have := HZ20.out; have := HZ21.out; omega) b20_x0_2
  clear b20_x0_0 b20_x0_1 b20_x0_2
  have b21_x1_0 := cell_only hb21 (fun hm => by have := new_x1 _ hm; have := lt_x1 _ hm; have := HZ1.out; have := HZ2.out; have := HZ3.out; have := HZ4.out; have := HZ5.out; have := HZ6.out; have := HZ7.out; have := HZ8.out; have := HZ9.out; have := HZ10.out; have := HZ11.out; have := HZ12.out; have := HZ13.out; have := HZ14.out; have := HZ15.out; have := HZ16.out; have := HZ17.out; have := HZ18.out; have := HZ19.out; have := HZ20.out; have := HZ21.out; omega) b20_x1_0
  have b21_x1_1 := cell_only hb21 (fun hm => by have := new_x1 _ hm; have := lt_x1 _ hm; have := HZ1.out; have := HZ2.out; have := HZ3.out; have := HZ4.out; have := HZ5.out; have := HZ6.out; have := HZ7.out; have := HZ8.out; have := HZ9.out; have := HZ10.out; have := HZ11.out; have := HZ12.out; have := HZ13.out; have := HZ14.out; have := HZ15.out; have := HZ16.out; have := HZ17.out; have := HZ18.out; have := HZ19.out; have := HZ20.out; have := HZ21.out; omega) b20_x1_1
  clear b20_x1_0 b20_x1_1
  have ho21_x2 := own_II_only ho20_x2 hb21 (fun b hb hm => by have := new_x2 b hb; have := lt_x1 b hm; have := HZ1.out; have := HZ2.out; have := HZ3.out; have := HZ4.out; have := HZ5.out; have := HZ6.out; have := HZ7.out; have := HZ8.out; have := HZ9.out; have := HZ10.out; have := HZ11.out; have := HZ12.out; have := HZ13.out; have := HZ14.out; have := HZ15.out; have := HZ16.out; have := HZ17.out; have := HZ18.out; have := HZ19.out; have := HZ20.out; have := HZ21.out; omega)
  have ho21_g0 := own_II_only ho20_g0 hb21 (fun b hb hm => by have := new_g0 b hb; have := lt_x1 b hm; have := HZ1.out; have := HZ2.out; have := HZ3.out; have := HZ4.out; have := HZ5.out; have := HZ6.out; have := HZ7.out; have := HZ8.out; have := HZ9.out; have := HZ10.out; have := HZ11.out; have := HZ12.out; have := HZ13.out; have := HZ14.out; have := HZ15.out; have := HZ16.out; have := HZ17.out; have := HZ18.out; have := HZ19.out; have := HZ20.out; have := HZ21.out; omega)
  have hc_x2 := cnt_II_le fit_aPath
  go_wp2_with fail
  refine (mark_II v11 x_aPath fp11 _ _ ho21_x2 (by omega) (by omega)).mono ?_
  rintro e w22 ⟨rfl, ho22, hb22⟩
  have HZ22 := Lib.hid hb22.size
  have c22_w := c21_w.trans (hb22.below c21_w.size (fun g hg => by have := new_x2 g hg; have := HZ1.out; have := HZ2.out; have := HZ3.out; have := HZ4.out; have := HZ5.out; have := HZ6.out; have := HZ7.out; have := HZ8.out; have := HZ9.out; have := HZ10.out; have := HZ11.out; have := HZ12.out; have := HZ13.out; have := HZ14.out; have := HZ15.out; have := HZ16.out; have := HZ17.out; have := HZ18.out; have := HZ19.out; have := HZ20.out; have := HZ21.out; have := HZ22.out; omega))
  have c22_w0 := c21_w0.trans (hb22.below c21_w0.size (fun g hg => by have := new_x2 g hg; have := HZ1.out; have := HZ2.out; have := HZ3.out; have := HZ4.out; have := HZ5.out; have := HZ6.out; have := HZ7.out; have := HZ8.out; have := HZ9.out; have := HZ10.out; have := HZ11.out; have := HZ12.out; have := HZ13.out; have := HZ14.out; have := HZ15.out; have := HZ16.out; have := HZ17.out; have := HZ18.out; have := HZ19.out; have := HZ20.out; have := HZ21.out; have := HZ22.out; omega))
  have b22_p_aT_0 := cell_only hb22 (fun hm => by have := new_x2 _ hm; have := lt_x2 _ hm; have := HZ1.out; have := HZ2.out; have := HZ3.out; have := HZ4.out; have := HZ5.out; have := HZ6.out; have := HZ7.out; have := HZ8.out; have := HZ9.out; have := HZ10.out; have := HZ11.out; have := HZ12.out; have := HZ13.out; have := HZ14.out; have := HZ15.out; have := HZ16.out; have := HZ17.out; have := HZ18.out; have := HZ19.out; have := HZ20.out; have := HZ21.out; have := HZ22.out; omega) b21_p_aT_0
  have b22_p_aT_1 := cell_only hb22 (fun hm => by have := new_x2 _ hm; have := lt_x2 _ hm; have := HZ1.out; have := HZ2.out; have := HZ3.out; have := HZ4.out; have := HZ5.out; have := HZ6.out; have := HZ7.out; have := HZ8.out; have := HZ9.out; have := HZ10.out; have := HZ11.out; have := HZ12.out; have := HZ13.out; have := HZ14.out; have := HZ15.out; have := HZ16.out; have := HZ17.out; have := HZ18.out; have := HZ19.out; have := HZ20.out; have := HZ21.out; have := HZ22.out; omega) b21_p_aT_1
  have b22_p_aT_2 := cell_only hb22 (fun hm => by have := new_x2 _ hm; have := lt_x2 _ hm; have := HZ1.out; have := HZ2.out; have := HZ3.out; have := HZ4.out; have := HZ5.out; have := HZ6.out; have := HZ7.out; have := HZ8.out; have := HZ9.out; have := HZ10.out; have := HZ11.out; have := HZ12.out; have := HZ13.out; have := HZ14.out; have := HZ15.out; have := HZ16.out; have := HZ17.out; have := HZ18.out; have := HZ19.out; have := HZ20.out; have := HZ21.out; have := HZ22.out; omega) b21_p_aT_2
  clear b21_p_aT_0 b21_p_aT_1 b21_p_aT_2
  have b22_p_aF_0 := cell_only hb22 (fun hm => by have := new_x2 _ hm; have := lt_x2 _ hm; have := HZ1.out; have := HZ2.out; have := HZ3.out; have := HZ4.out; have := HZ5.out; have := HZ6.out; have := HZ7.out; have := HZ8.out; have := HZ9.out; have := HZ10.out; have := HZ11.out; have := HZ12.out; have := HZ13.out; have := HZ14.out; have := HZ15.out; have := HZ16.out; have := HZ17.out; have := HZ18.out; have := HZ19.out; have := HZ20.out; have := HZ21.out; have := HZ22.out; omega) b21_p_aF_0
  have b22_p_aF_1 := cell_only hb22 (fun hm => by have := new_x2 _ hm; have := lt_x2 _ hm; have := HZ1.out; have := HZ2.out; have := HZ3.out; have := HZ4.out; have := HZ5.out; have := HZ6.out; have := HZ7.out; have := HZ8.out; have := HZ9.out; have := HZ10.out; have := HZ11.out; have := HZ12.out; have := HZ13.out; have := HZ14.out; have := HZ15.out; have := HZ16.out; have := HZ17.out; have := HZ18.out; have := HZ19.out; have := HZ20.out; have := HZ21.out; have := HZ22.out; omega) b21_p_aF_1
  clear b21_p_aF_0 b21_p_aF_1
  have b22_x0_0 := cell_only hb22 (fun hm => by have := new_x2 _ hm; have := lt_x2 _ hm; have := HZ1.out; have := HZ2.out; have := HZ3.out; have := HZ4.out; have := HZ5.out; have := HZ6.out; have := HZ7.out; have := HZ8.out; have := HZ9.out; have := HZ10.out; have := HZ11.out; have := HZ12.out; have := HZ13.out; have := HZ14.out; have := HZ15.out; have := HZ16.out; have := HZ17.out; have := HZ18.out; have := HZ19.out; have := HZ20.out; have := HZ21.out; have := HZ22.out; omega) b21_x0_0
  have b22_x0_1 := cell_only hb22 (fun hm => by have := new_x2 _ hm; have := lt_x2 _ hm; have := HZ1.out; have := HZ2.out; have := HZ3.out; have := HZ4.out; have := HZ5.out; have := HZ6.out; have := HZ7.out; have := HZ8.out; have := HZ9.out; have := HZ10.out; have := HZ11.out; have := HZ12.out; have := HZ13.out; have := HZ14.out; have := HZ15.out; have := HZ16.out; have := HZ17.out; have := HZ18.out; have := HZ19.out; have := HZ20.out; have := HZ21.out; have := HZ22.out; omega) b21_x0_1
  have b22_x0_2 := cell_only hb22 (fun hm => by have := new_x2 _ hm; have := lt_x2 _ hm; have := HZ1.out; have := HZ2.out; have := HZ3.out; have := HZ4.out; have := HZ5.out; have := HZ6.out; have := HZ7.out; have := HZ8.out; have := HZ9.out; have := HZ10.out; have := HZ11.out; have := HZ12.out; have := HZ13.out; have := HZ14.out; have := HZ15.out; have := HZ16.out; have := HZ17.out; have := HZ18.out; have := HZ19.out; have := HZ20.out; have := HZ21.out; have := HZ22.out; omega) b21_x0_2
  clear b21_x0_0 b21_x0_1 b21_x0_2
  have b22_x1_0 := cell_only hb22 (fun hm => by have := new_x2 _ hm; have := lt_x2 _ hm; have := HZ1.out; have := HZ2.out; have := HZ3.out; have := HZ4.out; have := HZ5.out; have := HZ6.out; have := HZ7.out; have := HZ8.out; have := HZ9.out; have := HZ10.out; have := HZ11.out; have := HZ12.out; have := HZ13.out; have := HZ14.out; have := HZ15.out; have := HZ16.out; have := HZ17.out; have := HZ18.out; have := HZ19.out; have := HZ20.out; have := HZ21.out; have := HZ22.out; omega) b21_x1_0
  have b22_x1_1 := cell_only hb22 (fun hm => by have := new_x2 _ hm; have := lt_x2 _ hm; have := HZ1.out; have := HZ2.out; have := HZ3.out; have := HZ4.out; have := HZ5.out; have := HZ6.out; have := HZ7.out; have := HZ8.out; have := HZ9.out; have := HZ10.out; have := HZ11.out; have := HZ12.out; have := HZ13.out; have := HZ14.out; have := HZ15.out; have := HZ16.out; have := HZ17.out; have := HZ18.out; have := HZ19.out; have := HZ20.out; have := HZ21.out; have := HZ22.out; omega) b21_x1_1
  clear b21_x1_0 b21_x1_1
  have ho22_g0 := own_II_only ho21_g0 hb22 (fun b hb hm => by have := new_g0 b hb; have := lt_x2 b hm; have := HZ1.out; have := HZ2.out; have := HZ3.out; have := HZ4.out; have := HZ5.out; have := HZ6.out; have := HZ7.out; have := HZ8.out; have := HZ9.out; have := HZ10.out; have := HZ11.out; have := HZ12.out; have := HZ13.out; have := HZ14.out; have := HZ15.out; have := HZ16.out; have := HZ17.out; have := HZ18.out; have := HZ19.out; have := HZ20.out; have := HZ21.out; have := HZ22.out; omega)
  go_wp2_with fail
  refine (eq_II v12 v6 (stepL x_aT x_aF x_aPath) _ (own_II_rd ho22_g0) (own_II_rd (own_II_only ho6 (Only.of_below (fp := []) c22_w0) (by simp)))).mono ?_
  rintro e w23 ⟨rfl, hb23⟩
  have HZ23 := Lib.hid hb23.size
  have c23_w := c22_w.trans (hb23.mono c22_w.size)
  have c23_w0 := c22_w0.trans (hb23.mono c22_w0.size)
  have c23_g0 := hb23
  have b23_p_aT_0 := cell_below hb23 b22_p_aT_0
  have b23_p_aT_1 := cell_below hb23 b22_p_aT_1
  have b23_p_aT_2 := cell_below hb23 b22_p_aT_2
  clear b22_p_aT_0 b22_p_aT_1 b22_p_aT_2
  have b23_p_aF_0 := cell_below hb23 b22_p_aF_0
  have b23_p_aF_1 := cell_below hb23 b22_p_aF_1
  clear b22_p_aF_0 b22_p_aF_1
  have b23_x0_0 := cell_below hb23 b22_x0_0
  have b23_x0_1 := cell_below hb23 b22_x0_1
  have b23_x0_2 := cell_below hb23 b22_x0_2
  clear b22_x0_0 b22_x0_1 b22_x0_2
  have b23_x1_0 := cell_below hb23 b22_x1_0
  have b23_x1_1 := cell_below hb23 b22_x1_1
  clear b22_x1_0 b22_x1_1
  have hc_g0 : cnt_II (stepL x_aT x_aF x_aPath) ≤ 10000000000000 := stepL_cnt _ _ _
  go_wp2_with fail
  refine (mark_II v12 (stepL x_aT x_aF x_aPath) fp12 _ _ (own_II_only ho22_g0 (Only.of_below (fp := []) c23_g0) (by simp)) (by omega) (by omega)).mono ?_
  rintro e w24 ⟨rfl, ho24, hb24⟩
  have HZ24 := Lib.hid hb24.size
  have c24_w := c23_w.trans (hb24.below c23_w.size (fun g hg => by have := new_g0 g hg; have := HZ1.out; have := HZ2.out; have := HZ3.out; have := HZ4.out; have := HZ5.out; have := HZ6.out; have := HZ7.out; have := HZ8.out; have := HZ9.out; have := HZ10.out; have := HZ11.out; have := HZ12.out; have := HZ13.out; have := HZ14.out; have := HZ15.out; have := HZ16.out; have := HZ17.out; have := HZ18.out; have := HZ19.out; have := HZ20.out; have := HZ21.out; have := HZ22.out; have := HZ23.out; have := HZ24.out; omega))
  have c24_w0 := c23_w0.trans (hb24.below c23_w0.size (fun g hg => by have := new_g0 g hg; have := HZ1.out; have := HZ2.out; have := HZ3.out; have := HZ4.out; have := HZ5.out; have := HZ6.out; have := HZ7.out; have := HZ8.out; have := HZ9.out; have := HZ10.out; have := HZ11.out; have := HZ12.out; have := HZ13.out; have := HZ14.out; have := HZ15.out; have := HZ16.out; have := HZ17.out; have := HZ18.out; have := HZ19.out; have := HZ20.out; have := HZ21.out; have := HZ22.out; have := HZ23.out; have := HZ24.out; omega))
  have b24_p_aT_0 := cell_only hb24 (fun hm => by have := new_g0 _ hm; have := lt_g0 _ hm; have := HZ1.out; have := HZ2.out; have := HZ3.out; have := HZ4.out; have := HZ5.out; have := HZ6.out; have := HZ7.out; have := HZ8.out; have := HZ9.out; have := HZ10.out; have := HZ11.out; have := HZ12.out; have := HZ13.out; have := HZ14.out; have := HZ15.out; have := HZ16.out; have := HZ17.out; have := HZ18.out; have := HZ19.out; have := HZ20.out; have := HZ21.out; have := HZ22.out; have := HZ23.out; have := HZ24.out; omega) b23_p_aT_0
  have b24_p_aT_1 := cell_only hb24 (fun hm => by have := new_g0 _ hm; have := lt_g0 _ hm; have := HZ1.out; have := HZ2.out; have := HZ3.out; have := HZ4.out; have := HZ5.out; have := HZ6.out; have := HZ7.out; have := HZ8.out; have := HZ9.out; have := HZ10.out; have := HZ11.out; have := HZ12.out; have := HZ13.out; have := HZ14.out; have := HZ15.out; have := HZ16.out; have := HZ17.out; have := HZ18.out; have := HZ19.out; have := HZ20.out; have := HZ21.out; have := HZ22.out; have := HZ23.out; have := HZ24.out; omega) b23_p_aT_1
  have b24_p_aT_2 := cell_only hb24 (fun hm => by have := new_g0 _ hm; have := lt_g0 _ hm; have := HZ1.out; have := HZ2.out; have := HZ3.out; have := HZ4.out; have := HZ5.out; have := HZ6.out; have := HZ7.out; have := HZ8.out; have := HZ9.out; have := HZ10.out; have := HZ11.out; have := HZ12.out; have := HZ13.out; have := HZ14.out; have := HZ15.out; have := HZ16.out; have := HZ17.out; have := HZ18.out; have := HZ19.out; have := HZ20.out; have := HZ21.out; have := HZ22.out; have := HZ23.out; have := HZ24.out; omega) b23_p_aT_2
  clear b23_p_aT_0 b23_p_aT_1 b23_p_aT_2
  have b24_p_aF_0 := cell_only hb24 (fun hm => by have := new_g0 _ hm; have := lt_g0 _ hm; have := HZ1.out; have := HZ2.out; have := HZ3.out; have := HZ4.out; have := HZ5.out; have := HZ6.out; have := HZ7.out; have := HZ8.out; have := HZ9.out; have := HZ10.out; have := HZ11.out; have := HZ12.out; have := HZ13.out; have := HZ14.out; have := HZ15.out; have := HZ16.out; have := HZ17.out; have := HZ18.out; have := HZ19.out; have := HZ20.out; have := HZ21.out; have := HZ22.out; have := HZ23.out; have := HZ24.out; omega) b23_p_aF_0
  have b24_p_aF_1 := cell_only hb24 (fun hm => by have := new_g0 _ hm; have := lt_g0 _ hm; have := HZ1.out; have := HZ2.out; have := HZ3.out; have := HZ4.out; have := HZ5.out; have := HZ6.out; have := HZ7.out; have := HZ8.out; have := HZ9.out; have := HZ10.out; have := HZ11.out; have := HZ12.out; have := HZ13.out; have := HZ14.out; have := HZ15.out; have := HZ16.out; have := HZ17.out; have := HZ18.out; have := HZ19.out; have := HZ20.out; have := HZ21.out; have := HZ22.out; have := HZ23.out; have := HZ24.out; omega) b23_p_aF_1
  clear b23_p_aF_0 b23_p_aF_1
  have b24_x0_0 := cell_only hb24 (fun hm => by have := new_g0 _ hm; have := lt_g0 _ hm; have := HZ1.out; have := HZ2.out; have := HZ3.out; have := HZ4.out; have := HZ5.out; have := HZ6.out; have := HZ7.out; have := HZ8.out; have := HZ9.out; have := HZ10.out; have := HZ11.out; have := HZ12.out; have := HZ13.out; have := HZ14.out; have := HZ15.out; have := HZ16.out; have := HZ17.out; have := HZ18.out; have := HZ19.out; have := HZ20.out; have := HZ21.out; have := HZ22.out; have := HZ23.out; have := HZ24.out; omega) b23_x0_0
  have b24_x0_1 := cell_only hb24 (fun hm => by have := new_g0 _ hm; have := lt_g0 _ hm; have := HZ1.out; have := HZ2.out; have := HZ3.out; have := HZ4.out; have := HZ5.out; have := HZ6.out; have := HZ7.out; have := HZ8.out; have := HZ9.out; have := HZ10.out; have := HZ11.out; have := HZ12.out; have := HZ13.out; have := HZ14.out; have := HZ15.out; have := HZ16.out; have := HZ17.out; have := HZ18.out; have := HZ19.out; have := HZ20.out; have := HZ21.out; have := HZ22.out; have := HZ23.out; have := HZ24.out; omega) b23_x0_1
  have b24_x0_2 := cell_only hb24 (fun hm => by have := new_g0 _ hm; have := lt_g0 _ hm; have := HZ1.out; have := HZ2.out; have := HZ3.out; have := HZ4.out; have := HZ5.out; have := HZ6.out; have := HZ7.out; have := HZ8.out; have := HZ9.out; have := HZ10.out; have := HZ11.out; have := HZ12.out; have := HZ13.out; have := HZ14.out; have := HZ15.out; have := HZ16.out; have := HZ17.out; have := HZ18.out; have := HZ19.out; have := HZ20.out; have := HZ21.out; have := HZ22.out; have := HZ23.out; have := HZ24.out; omega) b23_x0_2
  clear b23_x0_0 b23_x0_1 b23_x0_2
  have b24_x1_0 := cell_only hb24 (fun hm => by have := new_g0 _ hm; have := lt_g0 _ hm; have := HZ1.out; have := HZ2.out; have := HZ3.out; have := HZ4.out; have := HZ5.out; have := HZ6.out; have := HZ7.out; have := HZ8.out; have := HZ9.out; have := HZ10.out; have := HZ11.out; have := HZ12.out; have := HZ13.out; have := HZ14.out; have := HZ15.out; have := HZ16.out; have := HZ17.out; have := HZ18.out; have := HZ19.out; have := HZ20.out; have := HZ21.out; have := HZ22.out; have := HZ23.out; have := HZ24.out; omega) b23_x1_0
  have b24_x1_1 := cell_only hb24 (fun hm => by have := new_g0 _ hm; have := lt_g0 _ hm; have := HZ1.out; have := HZ2.out; have := HZ3.out; have := HZ4.out; have := HZ5.out; have := HZ6.out; have := HZ7.out; have := HZ8.out; have := HZ9.out; have := HZ10.out; have := HZ11.out; have := HZ12.out; have := HZ13.out; have := HZ14.out; have := HZ15.out; have := HZ16.out; have := HZ17.out; have := HZ18.out; have := HZ19.out; have := HZ20.out; have := HZ21.out; have := HZ22.out; have := HZ23.out; have := HZ24.out; omega) b23_x1_1
  clear b23_x1_0 b23_x1_1
  go_wp2_with fail
  refine (held_II v12 (stepL x_aT x_aF x_aPath) 1 _ (own_II_rd ho24) (by omega) (by omega)).mono ?_
  rintro e w25 ⟨rfl, hb25⟩
  have HZ25 := Lib.hid hb25.size
  have c25_w := c24_w.trans (hb25.mono c24_w.size)
  have c25_w0 := c24_w0.trans (hb25.mono c24_w0.size)
  have c25_g0 := hb25
  have b25_p_aT_0 := cell_below hb25 b24_p_aT_0
  have b25_p_aT_1 := cell_below hb25 b24_p_aT_1
  have b25_p_aT_2 := cell_below hb25 b24_p_aT_2
  clear b24_p_aT_0 b24_p_aT_1 b24_p_aT_2
  have b25_p_aF_0 := cell_below hb25 b24_p_aF_0
  have b25_p_aF_1 := cell_below hb25 b24_p_aF_1
  clear b24_p_aF_0 b24_p_aF_1
  have b25_x0_0 := cell_below hb25 b24_x0_0
  have b25_x0_1 := cell_below hb25 b24_x0_1
  have b25_x0_2 := cell_below hb25 b24_x0_2
  clear b24_x0_0 b24_x0_1 b24_x0_2
  have b25_x1_0 := cell_below hb25 b24_x1_0
  have b25_x1_1 := cell_below hb25 b24_x1_1
  clear b24_x1_0 b24_x1_1
  go_wp2_with fail
  have hq0 : Below w25.heap.size w25 w25.drew := below_drew _
  have HSL := Lib.hid (fun (x : World) (hx : Below w25.heap.size w25 x) => show x.cell? ⟨w0.heap.size, 0, none⟩ = some (.int .i64 x_aT.stages) ∧ x.cell? ⟨w0.heap.size, 1, none⟩ = some (.slice vAa_aT vAl_aT vAc_aT) ∧ x.cell? ⟨w0.heap.size, 2, none⟩ = some (.slice vBa_aT vBl_aT vBc_aT) ∧ x.cell? ⟨w0.heap.size + 1, 0, none⟩ = some (.int .i64 x_aF.dim) ∧ x.cell? ⟨w0.heap.size + 1, 1, none⟩ = some (.slice vPa_aF vPl_aF vPc_aF) from ⟨cell_below hx b25_p_aT_0, cell_below hx b25_p_aT_1, cell_below hx b25_p_aT_2, cell_below hx b25_p_aF_0, cell_below hx b25_p_aF_1⟩)
  have TO_aT := Lib.hid (fun (x : World) (hx : Below w25.heap.size w25 x) => to_Tab (.agg #[.int .i64 x_aT.stages, .slice vAa_aT vAl_aT vAc_aT, .slice vBa_aT vBl_aT vBc_aT]) x_aT x (rd_Tab_mono (c25_w.trans (hx.mono c25_w.size)) h_aT) fit_aT)
  have TO_aF := Lib.hid (fun (x : World) (hx : Below w25.heap.size w25 x) => to_Fld (.agg #[.int .i64 x_aF.dim, .slice vPa_aF vPl_aF vPc_aF]) x_aF x (rd_Fld_mono (c25_w.trans (hx.mono c25_w.size)) h_aF) fit_aF)
  have TO_aPath := Lib.hid (fun (x : World) (hx : Below w25.heap.size w25 x) => to_II v_aPath x_aPath x (rd_II_mono (c25_w.trans (hx.mono c25_w.size)) h_aPath) fit_aPath)
  go_cut [16] from 96 (fun sq wx => ∃ (vq : Value) (fq : List Nat), sq = vq ∧ Own_II wx vq (stepL x_aT x_aF x_aPath) fq ∧ (∀ g ∈ fq, w25.heap.size ≤ g) ∧ Below w25.heap.size w25 wx)
  case first =>
    go_region_held3 (fun w' => w'.cell? ⟨w0.heap.size, 0, none⟩ = some (.int .i64 x_aT.stages) ∧ w'.cell? ⟨w0.heap.size, 1, none⟩ = some (.slice vAa_aT vAl_aT vAc_aT) ∧ w'.cell? ⟨w0.heap.size, 2, none⟩ = some (.slice vBa_aT vBl_aT vBc_aT) ∧ w'.cell? ⟨w0.heap.size + 1, 0, none⟩ = some (.int .i64 x_aF.dim) ∧ w'.cell? ⟨w0.heap.size + 1, 1, none⟩ = some (.slice vPa_aF vPl_aF vPc_aF)) (first | exact HSL.out _ hqe | exact HSL.out _ hq3 | exact HSL.out _ hq2 | exact HSL.out _ hq1 | exact HSL.out _ hq0) (first | (go_at_call 54; first | ((with_reducible refine (TO_aT.out _ hq2).mono ?_); rintro e y3 ⟨u_aT, fu_aT, rfl, o_aT, nn_aT, hy3⟩; have hq3 := hq2.trans (hy3.mono hq2.size)) | ((with_reducible refine (TO_aT.out _ hq1).mono ?_); rintro e y2 ⟨u_aT, fu_aT, rfl, o_aT, nn_aT, hy2⟩; have hq2 := hq1.trans (hy2.mono hq1.size)) | ((with_reducible refine (TO_aT.out _ hq0).mono ?_); rintro e y1 ⟨u_aT, fu_aT, rfl, o_aT, nn_aT, hy1⟩; have hq1 := hq0.trans (hy1.mono hq0.size))) | (go_at_call 25; first | ((with_reducible refine (TO_aF.out _ hq2).mono ?_); rintro e y3 ⟨u_aF, fu_aF, rfl, o_aF, nn_aF, hy3⟩; have hq3 := hq2.trans (hy3.mono hq2.size)) | ((with_reducible refine (TO_aF.out _ hq1).mono ?_); rintro e y2 ⟨u_aF, fu_aF, rfl, o_aF, nn_aF, hy2⟩; have hq2 := hq1.trans (hy2.mono hq1.size)) | ((with_reducible refine (TO_aF.out _ hq0).mono ?_); rintro e y1 ⟨u_aF, fu_aF, rfl, o_aF, nn_aF, hy1⟩; have hq1 := hq0.trans (hy1.mono hq0.size))) | (go_at_call 16; first | ((with_reducible refine (TO_aPath.out _ hq2).mono ?_); rintro e y3 ⟨u_aPath, fu_aPath, rfl, o_aPath, nn_aPath, hy3⟩; have hq3 := hq2.trans (hy3.mono hq2.size)) | ((with_reducible refine (TO_aPath.out _ hq1).mono ?_); rintro e y2 ⟨u_aPath, fu_aPath, rfl, o_aPath, nn_aPath, hy2⟩; have hq2 := hq1.trans (hy2.mono hq1.size)) | ((with_reducible refine (TO_aPath.out _ hq0).mono ?_); rintro e y1 ⟨u_aPath, fu_aPath, rfl, o_aPath, nn_aPath, hy1⟩; have hq1 := hq0.trans (hy1.mono hq0.size))) | (go_at_call 55; (with_reducible refine (stepAlong_c _ x_aT _ x_aF _ x_aPath _ (by first | exact own_Tab_rd o_aT | exact rd_Tab_mono hy3 (own_Tab_rd o_aT) | exact rd_Tab_mono (hy2.trans (hy3.mono hy2.size)) (own_Tab_rd o_aT)) (by first | exact own_Fld_rd o_aF | exact rd_Fld_mono hy3 (own_Fld_rd o_aF) | exact rd_Fld_mono (hy2.trans (hy3.mono hy2.size)) (own_Fld_rd o_aF)) (by first | exact own_II_rd o_aPath | exact rd_II_mono hy3 (own_II_rd o_aPath) | exact rd_II_mono (hy2.trans (hy3.mono hy2.size)) (own_II_rd o_aPath)) fit_aF).mono ?_); rintro e ye ⟨ve, fe, rfl, oe, ne, hye⟩; have hqe := hq3.trans (hye.mono hq3.size)))
    all_goals (
      go_wp2_with fail
      go_meet
      exact ⟨ve, fe, rfl, oe, (fun g hg => by have h1 := ne g hg; have h2 := hq3.size; omega), hqe⟩)
  case rest =>
  obtain ⟨w26, rfl⟩ : ∃ W, W = wc := ⟨_, rfl⟩
  obtain ⟨v26, fp26, hv26, ho26, hn26, hb26⟩ := hcut
  replace hv26 := hv26.symm
  subst hv26
  clear HSL hq0 TO_aT TO_aF TO_aPath
  have HZ26 := Lib.hid hb26.size
  have c26_w := c25_w.trans (hb26.mono c25_w.size)
  have c26_w0 := c25_w0.trans (hb26.mono c25_w0.size)
  have c26_g0 := c25_g0.trans (hb26.mono c25_g0.size)
  have b26_p_aT_0 := cell_below hb26 b25_p_aT_0
  have b26_p_aT_1 := cell_below hb26 b25_p_aT_1
  have b26_p_aT_2 := cell_below hb26 b25_p_aT_2
  clear b25_p_aT_0 b25_p_aT_1 b25_p_aT_2
  have b26_p_aF_0 := cell_below hb26 b25_p_aF_0
  have b26_p_aF_1 := cell_below hb26 b25_p_aF_1
  clear b25_p_aF_0 b25_p_aF_1
  have b26_x0_0 := cell_below hb26 b25_x0_0
  have b26_x0_1 := cell_below hb26 b25_x0_1
  have b26_x0_2 := cell_below hb26 b25_x0_2
  clear b25_x0_0 b25_x0_1 b25_x0_2
  have b26_x1_0 := cell_below hb26 b25_x1_0
  have b26_x1_1 := cell_below hb26 b25_x1_1
  clear b25_x1_0 b25_x1_1
  have new_h0 := hn26
  have lt_h0 := own_II_lt ho26
  go_wp2_with fail
  refine (eq_II v26 v6 (stepL x_aT x_aF x_aPath) _ (own_II_rd ho26) (own_II_rd (own_II_only ho6 (Only.of_below (fp := []) c26_w0) (by simp)))).mono ?_
  rintro e w27 ⟨rfl, hb27⟩
  have HZ27 := Lib.hid hb27.size
  have c27_w := c26_w.trans (hb27.mono c26_w.size)
  have c27_w0 := c26_w0.trans (hb27.mono c26_w0.size)
  have c27_g0 := c26_g0.trans (hb27.mono c26_g0.size)
  have c27_h0 := hb27
  have b27_p_aT_0 := cell_below hb27 b26_p_aT_0
  have b27_p_aT_1 := cell_below hb27 b26_p_aT_1
  have b27_p_aT_2 := cell_below hb27 b26_p_aT_2
  clear b26_p_aT_0 b26_p_aT_1 b26_p_aT_2
  have b27_p_aF_0 := cell_below hb27 b26_p_aF_0
  have b27_p_aF_1 := cell_below hb27 b26_p_aF_1
  clear b26_p_aF_0 b26_p_aF_1
  have b27_x0_0 := cell_below hb27 b26_x0_0
  have b27_x0_1 := cell_below hb27 b26_x0_1
  have b27_x0_2 := cell_below hb27 b26_x0_2
  clear b26_x0_0 b26_x0_1 b26_x0_2
  have b27_x1_0 := cell_below hb27 b26_x1_0
  have b27_x1_1 := cell_below hb27 b26_x1_1
  clear b26_x1_0 b26_x1_1
  go_wp2_with fail
  refine (held_II v12 (stepL x_aT x_aF x_aPath) 1 _ (own_II_rd (own_II_only ho24 (Only.of_below (fp := []) c27_g0) (by simp))) (by omega) (by omega)).mono ?_
  rintro e w28 ⟨rfl, hb28⟩
  have HZ28 := Lib.hid hb28.size
  have c28_w := c27_w.trans (hb28.mono c27_w.size)
  have c28_w0 := c27_w0.trans (hb28.mono c27_w0.size)
  have c28_g0 := c27_g0.trans (hb28.mono c27_g0.size)
  have c28_h0 := c27_h0.trans (hb28.mono c27_h0.size)
  have b28_p_aT_0 := cell_below hb28 b27_p_aT_0
  have b28_p_aT_1 := cell_below hb28 b27_p_aT_1
  have b28_p_aT_2 := cell_below hb28 b27_p_aT_2
  clear b27_p_aT_0 b27_p_aT_1 b27_p_aT_2
  have b28_p_aF_0 := cell_below hb28 b27_p_aF_0
  have b28_p_aF_1 := cell_below hb28 b27_p_aF_1
  clear b27_p_aF_0 b27_p_aF_1
  have b28_x0_0 := cell_below hb28 b27_x0_0
  have b28_x0_1 := cell_below hb28 b27_x0_1
  have b28_x0_2 := cell_below hb28 b27_x0_2
  clear b27_x0_0 b27_x0_1 b27_x0_2
  have b28_x1_0 := cell_below hb28 b27_x1_0
  have b28_x1_1 := cell_below hb28 b27_x1_1
  clear b27_x1_0 b27_x1_1
  go_wp2
  go_ret
  exact ⟨rfl, c28_w⟩

set_option maxRecDepth 100000 in
theorem fnExactStepAlong_lifted (os : Os) (started : os.Started) (H : Type) (enc : TypeId × Value → H) :
    ReturnsInHanded {} Try.checked os 13 .any (Rows.fnExactStepAlongSpec.pre6 enc Try.prog Try.f13 Rows.fnExactStepAlongRow.domain false) (Rows.fnExactStepAlongSpec.post enc Try.prog Try.f13 false true false false) := by
  refine returnsInHanded_of_change (C := Try.checked) Try.own started (by kernel_rfl) Try.func13
    (ChangeSpec.witness6 (enc := enc) (C := Try.checked) false ⟨#[], #[.agg #[.int .i64 0, .slice none 0 0, .slice none 0 0], .agg #[.int .i64 0, .slice none 0 0], .slice none 0 0], []⟩ 8 (by kernel_rfl) (by kernel_rfl) (by kernel_rfl) (by kernel_rfl)) ?_
  intro W base args ds gs before hval0 hW hcnd _
  have hval : ∀ (j : Nat) t v, Try.f13.params[j]? = some t → args[j]? = some v → Value.okWide Try.prog W .any base t v := hval0
  have hW' := hW
  obtain ⟨p, q, hA0, hV, rfl, hfz, hnd⟩ := hW
  have hA : DataW.TrodAll enc Try.prog W 0 (fun _ => true) true Try.f13.params.toList args.toList ds p := hA0
  rw [Try.params13] at hA hval
  obtain ⟨v0, vs0, d0, ds0, p0, q0, hargs, rfl, rfl, h0, r0⟩ := trodAll_cons hA
  obtain ⟨v1, vs1, d1, ds1, p1, q1, rfl, rfl, rfl, h1, r1⟩ := trodAll_cons r0
  obtain ⟨v2, vs2, d2, ds2, p2, q2, rfl, rfl, rfl, h2, r2⟩ := trodAll_cons r1
  obtain ⟨rfl, rfl, rfl⟩ := trodAll_nil r2
  obtain rfl : args = #[v0, v1, v2] := by cases args; simp_all
  obtain ⟨rfl, rfl⟩ := trodVars_none hV
  have lt0 : ∀ x ∈ p0, x.block < W.heap.size := by obtain ⟨m, hm⟩ := h0; exact DataW.trod_lt m _ _ _ hm
  have k0 := h0
  obtain ⟨x0, w0⟩ := tab_arg (hval 0 65 v0 rfl rfl) h0
  have lt1 : ∀ x ∈ p1, x.block < W.heap.size := by obtain ⟨m, hm⟩ := h1; exact DataW.trod_lt m _ _ _ hm
  have k1 := h1
  obtain ⟨x1, w1⟩ := fld_arg (hval 1 32 v1 rfl rfl) h1
  have lt2 : ∀ x ∈ p2, x.block < W.heap.size := by obtain ⟨m, hm⟩ := h2; exact DataW.trod_lt m _ _ _ hm
  have k2 := h2
  obtain ⟨x2, w2⟩ := rdS_of_arg Try.underlying22 Try.cells_ints (by omega) (elII_of_trod Try.underlying24 Try.underlying3 Try.cells_int) (hval 2 22 v2 rfl rfl) h2
  clear hA0 hval0
  refine (fnExactStepAlong_walk v0 x0 v1 x1 v2 x2 W w0 w1 w2).mono fun e W' ⟨he, bel⟩ => ?_
  subst he
  exact ⟨_, rfl, _, _, _, [], _, [], hW', trodAll_mk1 (shut_bool Try.underlying4 _), (trodAll_cons_mk (Below.trod Try.laidOut (by kernel_rfl) (of_decide_eq_true (by kernel_rfl)) k0 bel lt0) (trodAll_cons_mk (Below.trod Try.laidOut (by kernel_rfl) (of_decide_eq_true (by kernel_rfl)) k1 bel lt1) (trodAll_cons_mk (Below.trod Try.laidOut (by kernel_rfl) (of_decide_eq_true (by kernel_rfl)) k2 bel lt2) trodAll_mk0))), rfl, bel.frame _, fun h => by cases h⟩

theorem fnExactStepAlong_holds : Rows.FnExactStepAlongSaid :=
  OpenClaim.holds_of_wide 13 Try.f13 rfl rfl rfl rfl rfl rfl rfl ⟨rfl, rfl, rfl, rfl, rfl⟩ rfl rfl rfl rfl rfl (by kernel_rfl) Try.func13 (by kernel_rfl)
    (of_decide_eq_true (by kernel_rfl)) (by unfold Func.isWrapper; first | (rw [if_pos (by decide +kernel)]; kernel_rfl) | (rw [if_neg (by decide +kernel)]; exact ⟨rfl, rfl⟩))
    (fun os started H enc _ => fnExactStepAlong_lifted os started H enc)

#print axioms fnExactStepAlong_holds
end Go.Proofs.Ytdaaamdighojdaa
