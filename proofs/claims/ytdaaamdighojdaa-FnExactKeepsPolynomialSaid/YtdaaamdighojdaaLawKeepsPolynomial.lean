/- The law FnExactKeepsPolynomial returns true for every field and polynomial, and changes nothing that was there. Conditions: none. -/
import Derived.Test.YtdaaamdighojdaaSKeep
import Derived.Test.YtdaaamdighojdaaKinds
import Derived.Test.YtdaaamdighojdaaOpenF
set_option linter.unusedSimpArgs false
set_option linter.unusedVariables false
namespace Go.Proofs.Ytdaaamdighojdaa
open Go.ChangeShapes Go.WideShapes Go.ChangeAt Go.RowKit

theorem sKeepsPolynomial_c (vf : Value) (f : FldZ) (vh : Value) (h : List MonZ) (w : World) (hf : Rd_Fld w vf f) (hh : Rd_Ms w vh h) :
    Calls Try.prog 46 #[vf, vh] w fun e w' => e = .returned (.bool (keepsB f h)) ∧ Below w.heap.size w w' := sKeeps_any vf vh f h w hf hh
theorem keepsPolynomial_c (vf : Value) (f : FldZ) (vh : Value) (h : List MonZ) (w : World) (hf : Rd_Fld w vf f) (hh : Rd_Ms w vh h) (hff : Fit_Fld f) (hfh : Fit_Ms h) :
    Calls Try.prog 47 #[vf, vh] w fun e w' => e = .returned (.bool (keepsB f h)) ∧ Below w.heap.size w w' := keeps_any vf vh f h w hf hh (fun p hp m hm => (hff.2.1 p hp).2 m hm) hfh.2

set_option maxRecDepth 100000 in
set_option maxHeartbeats 4000000 in
theorem fnExactKeepsPolynomial_walk (v_aF : Value) (x_aF : FldZ) (v_aH : Value) (x_aH : List MonZ) (w0 : World) (h_aF : Rd_Fld w0 v_aF x_aF) (h_aH : Rd_Ms w0 v_aH x_aH) :
    Calls Try.prog 10 #[v_aF, v_aH] w0 fun e w' => e = .returned (.bool true) ∧ Below w0.heap.size w0 w' := by
  have h_aF_k := h_aF
  obtain ⟨vP_aF, rfl, hI_aF, hP_aF⟩ := h_aF_k
  obtain ⟨vPa_aF, vPl_aF, vPc_aF, rfl⟩ := rdMss_slice hP_aF
  go_enter Try.func10, Try.ntmps10
  go_wp2_with fail
  obtain ⟨w1, hw1⟩ : ∃ W, W = w0.alloc (.cells #[.int .i64 x_aF.dim, .slice vPa_aF vPl_aF vPc_aF] 32) := ⟨_, rfl⟩
  rw [← hw1]
  have hb1 : Below w0.heap.size w0 w1 := hw1 ▸ (Below.refl _ _).alloc (Nat.le_refl _) _
  have HZ1 : Hid (w0.heap.size + 1 ≤ w1.heap.size) := Lib.hid (by rw [hw1]; simp)
  have HE1 : Hid (w1.heap.size = w0.heap.size + 1) := Lib.hid (by rw [hw1]; simp)
  have b1_p_aF_0 : w1.cell? ⟨w0.heap.size, 0, none⟩ = some (.int .i64 x_aF.dim) := by rw [hw1]; simp
  have b1_p_aF_1 : w1.cell? ⟨w0.heap.size, 1, none⟩ = some (.slice vPa_aF vPl_aF vPc_aF) := by rw [hw1]; simp
  clear hw1
  have c1_w := hb1
  go_wp2_with fail
  refine (sz_Fld (.agg #[.int .i64 x_aF.dim, .slice vPa_aF vPl_aF vPc_aF]) x_aF 1048576 _ (rd_Fld_mono c1_w h_aF) (by omega) (by omega)).mono ?_
  rintro e w2 ⟨r2, rfl, hr2, hb2⟩
  have HZ2 := Lib.hid hb2.size
  have c2_w := c1_w.trans (hb2.mono c1_w.size)
  have b2_p_aF_0 := cell_below hb2 b1_p_aF_0
  have b2_p_aF_1 := cell_below hb2 b1_p_aF_1
  clear b1_p_aF_0 b1_p_aF_1
  rcases hr2 with rfl | ⟨hra2, hrb2, fit_aF⟩
  · go_wp2
    go_ret
    exact ⟨rfl, c2_w⟩
  go_wp2_with fail
  refine (sz_Ms v_aH x_aH r2 _ (rd_Ms_mono c2_w h_aH) (by omega) (by omega)).mono ?_
  rintro e w3 ⟨r3, rfl, hr3, hb3⟩
  have HZ3 := Lib.hid hb3.size
  have c3_w := c2_w.trans (hb3.mono c2_w.size)
  have b3_p_aF_0 := cell_below hb3 b2_p_aF_0
  have b3_p_aF_1 := cell_below hb3 b2_p_aF_1
  clear b2_p_aF_0 b2_p_aF_1
  rcases hr3 with rfl | ⟨hra3, hrb3, fit_aH⟩
  · go_wp2
    go_ret
    exact ⟨rfl, c3_w⟩
  go_wp2_with fail
  refine (to_Fld (.agg #[.int .i64 x_aF.dim, .slice vPa_aF vPl_aF vPc_aF]) x_aF _ (rd_Fld_mono c3_w h_aF) fit_aF).mono ?_
  rintro e w4 ⟨v4, fp4, rfl, ho4, hn4, hb4⟩
  have HZ4 := Lib.hid hb4.size
  have c4_w := c3_w.trans (hb4.mono c3_w.size)
  have b4_p_aF_0 := cell_below hb4 b3_p_aF_0
  have b4_p_aF_1 := cell_below hb4 b3_p_aF_1
  clear b3_p_aF_0 b3_p_aF_1
  have new_t4 := hn4
  have lt_t4 := own_Fld_lt ho4
  have ho4_k := ho4
  obtain ⟨vP_t4, rfl, hI_t4, hoP_t4⟩ := ho4_k
  obtain ⟨vPa_t4, vPl_t4, vPc_t4, rfl⟩ := ownMss_slice hoP_t4
  go_wp2_with fail
  refine (to_Ms v_aH x_aH _ (rd_Ms_mono c4_w h_aH) fit_aH).mono ?_
  rintro e w5 ⟨v5, fp5, rfl, ho5, hn5, hb5⟩
  have HZ5 := Lib.hid hb5.size
  have c5_w := c4_w.trans (hb5.mono c4_w.size)
  have c5_t4 := hb5
  have b5_p_aF_0 := cell_below hb5 b4_p_aF_0
  have b5_p_aF_1 := cell_below hb5 b4_p_aF_1
  clear b4_p_aF_0 b4_p_aF_1
  have new_t5 := hn5
  have lt_t5 := own_Ms_lt ho5
  go_wp2_with fail
  refine (sKeepsPolynomial_c (.agg #[.int .i64 x_aF.dim, .slice vPa_t4 vPl_t4 vPc_t4]) x_aF v5 x_aH _ (own_Fld_rd (own_Fld_only ho4 (Only.of_below (fp := []) c5_t4) (by simp))) (own_Ms_rd ho5) ).mono ?_
  rintro e w6 ⟨rfl, hb6⟩
  have HZ6 := Lib.hid hb6.size
  have c6_w := c5_w.trans (hb6.mono c5_w.size)
  have c6_t4 := c5_t4.trans (hb6.mono c5_t4.size)
  have c6_t5 := hb6
  have b6_p_aF_0 := cell_below hb6 b5_p_aF_0
  have b6_p_aF_1 := cell_below hb6 b5_p_aF_1
  clear b5_p_aF_0 b5_p_aF_1
  go_wp2_with fail
  refine (to_Fld (.agg #[.int .i64 x_aF.dim, .slice vPa_aF vPl_aF vPc_aF]) x_aF _ (rd_Fld_mono c6_w h_aF) fit_aF).mono ?_
  rintro e w7 ⟨v7, fp7, rfl, ho7, hn7, hb7⟩
  have HZ7 := Lib.hid hb7.size
  have c7_w := c6_w.trans (hb7.mono c6_w.size)
  have b7_p_aF_0 := cell_below hb7 b6_p_aF_0
  have b7_p_aF_1 := cell_below hb7 b6_p_aF_1
  clear b6_p_aF_0 b6_p_aF_1
  have new_x0 := hn7
  have lt_x0 := own_Fld_lt ho7
  have ho7_k := ho7
  obtain ⟨vP_x0, rfl, hI_x0, hoP_x0⟩ := ho7_k
  obtain ⟨vPa_x0, vPl_x0, vPc_x0, rfl⟩ := ownMss_slice hoP_x0
  have q8_p_aF_0 := cell_below (w := w7) ((Below.refl _ _).alloc (Nat.le_refl _) (.cells #[.int .i64 x_aF.dim, .slice vPa_x0 vPl_x0 vPc_x0] 37)) b7_p_aF_0
  have q8_p_aF_1 := cell_below (w := w7) ((Below.refl _ _).alloc (Nat.le_refl _) (.cells #[.int .i64 x_aF.dim, .slice vPa_x0 vPl_x0 vPc_x0] 37)) b7_p_aF_1
  go_wp2_with fail
  clear q8_p_aF_0 q8_p_aF_1
  obtain ⟨w8, hw8⟩ : ∃ W, W = w7.alloc (.cells #[.int .i64 x_aF.dim, .slice vPa_x0 vPl_x0 vPc_x0] 37) := ⟨_, rfl⟩
  rw [← hw8]
  have hb8 : Below w7.heap.size w7 w8 := hw8 ▸ (Below.refl _ _).alloc (Nat.le_refl _) _
  have HZ8 : Hid (w7.heap.size + 1 ≤ w8.heap.size) := Lib.hid (by rw [hw8]; simp)
  have b8_x0_0 : w8.cell? ⟨w7.heap.size, 0, none⟩ = some (.int .i64 x_aF.dim) := by rw [hw8]; simp
  have b8_x0_1 : w8.cell? ⟨w7.heap.size, 1, none⟩ = some (.slice vPa_x0 vPl_x0 vPc_x0) := by rw [hw8]; simp
  clear hw8
  have c8_w := c7_w.trans (hb8.mono c7_w.size)
  have c8_x0 := hb8
  have b8_p_aF_0 := cell_below hb8 b7_p_aF_0
  have b8_p_aF_1 := cell_below hb8 b7_p_aF_1
  clear b7_p_aF_0 b7_p_aF_1
  go_wp2_with fail
  refine (to_Ms v_aH x_aH _ (rd_Ms_mono c8_w h_aH) fit_aH).mono ?_
  rintro e w9 ⟨v9, fp9, rfl, ho9, hn9, hb9⟩
  have HZ9 := Lib.hid hb9.size
  have c9_w := c8_w.trans (hb9.mono c8_w.size)
  have c9_x0 := c8_x0.trans (hb9.mono c8_x0.size)
  have b9_p_aF_0 := cell_below hb9 b8_p_aF_0
  have b9_p_aF_1 := cell_below hb9 b8_p_aF_1
  clear b8_p_aF_0 b8_p_aF_1
  have b9_x0_0 := cell_below hb9 b8_x0_0
  have b9_x0_1 := cell_below hb9 b8_x0_1
  clear b8_x0_0 b8_x0_1
  have new_x1 := hn9
  have lt_x1 := own_Ms_lt ho9
  go_wp2_with fail
  refine (keepsPolynomial_c (.agg #[.int .i64 x_aF.dim, .slice vPa_x0 vPl_x0 vPc_x0]) x_aF v9 x_aH _ (own_Fld_rd (own_Fld_only ho7 (Only.of_below (fp := []) c9_x0) (by simp))) (own_Ms_rd ho9) fit_aF fit_aH).mono ?_
  rintro e w10 ⟨rfl, hb10⟩
  have HZ10 := Lib.hid hb10.size
  have c10_w := c9_w.trans (hb10.mono c9_w.size)
  have c10_x0 := c9_x0.trans (hb10.mono c9_x0.size)
  have c10_x1 := hb10
  have b10_p_aF_0 := cell_below hb10 b9_p_aF_0
  have b10_p_aF_1 := cell_below hb10 b9_p_aF_1
  clear b9_p_aF_0 b9_p_aF_1
  have b10_x0_0 := cell_below hb10 b9_x0_0
  have b10_x0_1 := cell_below hb10 b9_x0_1
  clear b9_x0_0 b9_x0_1
  go_wp2_with fail
  go_region_held3 (fun w' => w'.cell? ⟨w7.heap.size, 0, none⟩ = some (.int .i64 x_aF.dim) ∧ w'.cell? ⟨w7.heap.size, 1, none⟩ = some (.slice vPa_x0 vPl_x0 vPc_x0) ∧ w'.cell? ⟨w0.heap.size, 0, none⟩ = some (.int .i64 x_aF.dim) ∧ w'.cell? ⟨w0.heap.size, 1, none⟩ = some (.slice vPa_aF vPl_aF vPc_aF)) (first | exact ⟨b10_x0_0, b10_x0_1, b10_p_aF_0, b10_p_aF_1⟩ | exact ⟨b11_x0_0, b11_x0_1, b11_p_aF_0, b11_p_aF_1⟩ | exact ⟨b12_x0_0, b12_x0_1, b12_p_aF_0, b12_p_aF_1⟩) (first | (refine (to_Fld (.agg #[.int .i64 x_aF.dim, .slice vPa_aF vPl_aF vPc_aF]) x_aF _ (rd_Fld_mono c10_w.drew h_aF) fit_aF).mono ?_; rintro e w11 ⟨v11, fp11, rfl, ho11, hn11d, hb11d⟩; have hn11 : ∀ g ∈ fp11, w10.heap.size ≤ g := hn11d; have hb11 : Below w10.heap.size w10 w11 := ⟨hb11d.os, hb11d.tape, hb11d.output, hb11d.size, hb11d.block⟩; clear hn11d hb11d; have HZ11 := Lib.hid hb11.size; have c11_w := c10_w.trans (hb11.mono c10_w.size); have c11_x0 := c10_x0.trans (hb11.mono c10_x0.size); have c11_x1 := c10_x1.trans (hb11.mono c10_x1.size); have b11_p_aF_0 := cell_below hb11 b10_p_aF_0; have b11_p_aF_1 := cell_below hb11 b10_p_aF_1; clear b10_p_aF_0 b10_p_aF_1; have b11_x0_0 := cell_below hb11 b10_x0_0; have b11_x0_1 := cell_below hb11 b10_x0_1; clear b10_x0_0 b10_x0_1; have new_t11 := hn11; have lt_t11 := own_Fld_lt ho11; have ho11_k := ho11; obtain ⟨vP_t11, rfl, hI_t11, hoP_t11⟩ := ho11_k; obtain ⟨vPa_t11, vPl_t11, vPc_t11, rfl⟩ := ownMss_slice hoP_t11) | (refine (eq_Fld (.agg #[.int .i64 x_aF.dim, .slice vPa_x0 vPl_x0 vPc_x0]) (.agg #[.int .i64 x_aF.dim, .slice vPa_t11 vPl_t11 vPc_t11]) x_aF _ (own_Fld_rd (own_Fld_only ho7 (Only.of_below (fp := []) c11_x0) (by simp))) (own_Fld_rd ho11)).mono ?_; rintro e w12 ⟨rfl, hb12⟩; have HZ12 := Lib.hid hb12.size; have c12_w := c11_w.trans (hb12.mono c11_w.size); have c12_x0 := c11_x0.trans (hb12.mono c11_x0.size); have c12_x1 := c11_x1.trans (hb12.mono c11_x1.size); have c12_t11 := hb12; have b12_p_aF_0 := cell_below hb12 b11_p_aF_0; have b12_p_aF_1 := cell_below hb12 b11_p_aF_1; clear b11_p_aF_0 b11_p_aF_1; have b12_x0_0 := cell_below hb12 b11_x0_0; have b12_x0_1 := cell_below hb12 b11_x0_1; clear b11_x0_0 b11_x0_1))
  go_wp2_with fail
  refine (to_Ms v_aH x_aH _ (rd_Ms_mono c12_w h_aH) fit_aH).mono ?_
  rintro e w13 ⟨v13, fp13, rfl, ho13, hn13, hb13⟩
  have HZ13 := Lib.hid hb13.size
  have c13_w := c12_w.trans (hb13.mono c12_w.size)
  have c13_x0 := c12_x0.trans (hb13.mono c12_x0.size)
  have c13_x1 := c12_x1.trans (hb13.mono c12_x1.size)
  have b13_p_aF_0 := cell_below hb13 b12_p_aF_0
  have b13_p_aF_1 := cell_below hb13 b12_p_aF_1
  clear b12_p_aF_0 b12_p_aF_1
  have b13_x0_0 := cell_below hb13 b12_x0_0
  have b13_x0_1 := cell_below hb13 b12_x0_1
  clear b12_x0_0 b12_x0_1
  have new_t13 := hn13
  have lt_t13 := own_Ms_lt ho13
  go_wp2_with fail
  refine (eq_Ms v9 v13 x_aH _ (own_Ms_rd (own_Ms_only ho9 (Only.of_below (fp := []) c13_x1) (by simp))) (own_Ms_rd ho13)).mono ?_
  rintro e w14 ⟨rfl, hb14⟩
  have HZ14 := Lib.hid hb14.size
  have c14_w := c13_w.trans (hb14.mono c13_w.size)
  have c14_x0 := c13_x0.trans (hb14.mono c13_x0.size)
  have c14_x1 := c13_x1.trans (hb14.mono c13_x1.size)
  have c14_t13 := hb14
  have b14_p_aF_0 := cell_below hb14 b13_p_aF_0
  have b14_p_aF_1 := cell_below hb14 b13_p_aF_1
  clear b13_p_aF_0 b13_p_aF_1
  have b14_x0_0 := cell_below hb14 b13_x0_0
  have b14_x0_1 := cell_below hb14 b13_x0_1
  clear b13_x0_0 b13_x0_1
  go_wp2
  go_ret
  exact ⟨rfl, c14_w⟩

set_option maxRecDepth 100000 in
theorem fnExactKeepsPolynomial_lifted (os : Os) (started : os.Started) (H : Type) (enc : TypeId × Value → H) :
    ReturnsInHanded {} Try.checked os 10 .any (Rows.fnExactKeepsPolynomialSpec.pre6 enc Try.prog Try.f10 Rows.fnExactKeepsPolynomialRow.domain false) (Rows.fnExactKeepsPolynomialSpec.post enc Try.prog Try.f10 false true false false) := by
  refine returnsInHanded_of_change (C := Try.checked) Try.own started (by kernel_rfl) Try.func10
    (ChangeSpec.witness6 (enc := enc) (C := Try.checked) false ⟨#[], #[.agg #[.int .i64 0, .slice none 0 0], .slice none 0 0], []⟩ 8 (by kernel_rfl) (by kernel_rfl) (by kernel_rfl) (by kernel_rfl)) ?_
  intro W base args ds gs before hval0 hW hcnd _
  have hval : ∀ (j : Nat) t v, Try.f10.params[j]? = some t → args[j]? = some v → Value.okWide Try.prog W .any base t v := hval0
  have hW' := hW
  obtain ⟨p, q, hA0, hV, rfl, hfz, hnd⟩ := hW
  have hA : DataW.TrodAll enc Try.prog W 0 (fun _ => true) true Try.f10.params.toList args.toList ds p := hA0
  rw [Try.params10] at hA hval
  obtain ⟨v0, vs0, d0, ds0, p0, q0, hargs, rfl, rfl, h0, r0⟩ := trodAll_cons hA
  obtain ⟨v1, vs1, d1, ds1, p1, q1, rfl, rfl, rfl, h1, r1⟩ := trodAll_cons r0
  obtain ⟨rfl, rfl, rfl⟩ := trodAll_nil r1
  obtain rfl : args = #[v0, v1] := by cases args; simp_all
  obtain ⟨rfl, rfl⟩ := trodVars_none hV
  have lt0 : ∀ x ∈ p0, x.block < W.heap.size := by obtain ⟨m, hm⟩ := h0; exact DataW.trod_lt m _ _ _ hm
  have k0 := h0
  obtain ⟨x0, w0⟩ := fld_arg (hval 0 32 v0 rfl rfl) h0
  have lt1 : ∀ x ∈ p1, x.block < W.heap.size := by obtain ⟨m, hm⟩ := h1; exact DataW.trod_lt m _ _ _ hm
  have k1 := h1
  obtain ⟨x1, w1⟩ := ms_arg (hval 1 41 v1 rfl rfl) h1
  clear hA0 hval0
  refine (fnExactKeepsPolynomial_walk v0 x0 v1 x1 W w0 w1).mono fun e W' ⟨he, bel⟩ => ?_
  subst he
  exact ⟨_, rfl, _, _, _, [], _, [], hW', trodAll_mk1 (shut_bool Try.underlying4 _), (trodAll_cons_mk (Below.trod Try.laidOut (by kernel_rfl) (of_decide_eq_true (by kernel_rfl)) k0 bel lt0) (trodAll_cons_mk (Below.trod Try.laidOut (by kernel_rfl) (of_decide_eq_true (by kernel_rfl)) k1 bel lt1) trodAll_mk0)), rfl, bel.frame _, fun h => by cases h⟩

theorem fnExactKeepsPolynomial_holds : Rows.FnExactKeepsPolynomialSaid :=
  OpenClaim.holds_of_wide 10 Try.f10 rfl rfl rfl rfl rfl rfl rfl ⟨rfl, rfl, rfl, rfl, rfl⟩ rfl rfl rfl rfl rfl (by kernel_rfl) Try.func10 (by kernel_rfl)
    (of_decide_eq_true (by kernel_rfl)) (by unfold Func.isWrapper; first | (rw [if_pos (by decide +kernel)]; kernel_rfl) | (rw [if_neg (by decide +kernel)]; exact ⟨rfl, rfl⟩))
    (fun os started H enc _ => fnExactKeepsPolynomial_lifted os started H enc)

#print axioms fnExactKeepsPolynomial_holds
end Go.Proofs.Ytdaaamdighojdaa
