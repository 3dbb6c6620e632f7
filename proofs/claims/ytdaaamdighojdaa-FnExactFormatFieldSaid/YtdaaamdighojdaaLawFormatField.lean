/- The law FnExactFormatField returns true for every field, and changes nothing that was there. Conditions: none. -/
import Derived.Test.YtdaaamdighojdaaFmtF
import Derived.Test.YtdaaamdighojdaaKinds
import Derived.Test.YtdaaamdighojdaaOpenF
set_option linter.unusedSimpArgs false
set_option linter.unusedVariables false
namespace Go.Proofs.Ytdaaamdighojdaa
open Go.ChangeShapes Go.WideShapes Go.ChangeAt Go.RowKit

/-- The text of a field as a string of the program. -/
@[irreducible] def fldS (f : FldZ) : ByteArray := ByteArray.mk (fldT f).toArray
theorem fldS_txt (f : FldZ) : Value.string (fldS f) = txt (fldT f) := by unfold fldS; rfl
theorem sFormatField_c (v : Value) (f : FldZ) (w : World) (h : Rd_Fld w v f) :
    Calls Try.prog 38 #[v] w fun e w' => e = .returned (.string (fldS f)) ∧ Below w.heap.size w w' := by rw [fldS_txt]; exact sFmtFld_any v f w h
theorem formatField_c (v : Value) (f : FldZ) (w : World) (h : Rd_Fld w v f) (hfit : Fit_Fld f) :
    Calls Try.prog 39 #[v] w fun e w' => e = .returned (.string (fldS f)) ∧ Below w.heap.size w w' := by rw [fldS_txt]; exact fmtFld_any v f w h (fun p hp m hm => (hfit.2.1 p hp).2 m hm)

set_option maxRecDepth 100000 in
set_option maxHeartbeats 4000000 in
theorem fnExactFormatField_walk (v_aF : Value) (x_aF : FldZ) (w0 : World) (h_aF : Rd_Fld w0 v_aF x_aF) :
    Calls Try.prog 7 #[v_aF] w0 fun e w' => e = .returned (.bool true) ∧ Below w0.heap.size w0 w' := by
  have h_aF_k := h_aF
  obtain ⟨vP_aF, rfl, hI_aF, hP_aF⟩ := h_aF_k
  obtain ⟨vPa_aF, vPl_aF, vPc_aF, rfl⟩ := rdMss_slice hP_aF
  go_enter Try.func7, Try.ntmps7
  go_wp2_with fail
  obtain ⟨w1, hw1⟩ : ∃ W, W = w0.alloc (.cells #[.int .i64 x_aF.dim, .slice vPa_aF vPl_aF vPc_aF] 32) := ⟨_, rfl⟩
  rw [← hw1]
  have hb1 : Below w0.heap.size w0 w1 := hw1 ▸ (Below.refl _ _).alloc (Nat.le_refl _) _
  have HZ1 : Hid (w0.heap.size + 1 ≤ w1.heap.size) := Lib.hid (by rw [hw1]; simp)
  have HE1 : Hid (w1.heap.size = w0.heap.size + 1) := Lib.hid (by rw [hw1]; simp)
  have b1_p_aF_0 : w1.cell? ⟨w0.heap.size, 0, none⟩ = some (.int .i64 x_aF.dim) := by rw [hw1]; simp
  have b1_p_aF_1 : w1.cell? ⟨w0.heap.size, 1, none⟩ = some (.slice vPa_aF vPl_aF vPc_aF) := by rw [hw1]; simp
  clear hw1
  have c1_w := hb1
  go_wp2_with fail
  refine (sz_Fld (.agg #[.int .i64 x_aF.dim, .slice vPa_aF vPl_aF vPc_aF]) x_aF 1048576 _ (rd_Fld_mono c1_w h_aF) (by omega) (by omega)).mono ?_
  rintro e w2 ⟨r2, rfl, hr2, hb2⟩
  have HZ2 := Lib.hid hb2.size
  have c2_w := c1_w.trans (hb2.mono c1_w.size)
  have b2_p_aF_0 := cell_below hb2 b1_p_aF_0
  have b2_p_aF_1 := cell_below hb2 b1_p_aF_1
  clear b1_p_aF_0 b1_p_aF_1
  rcases hr2 with rfl | ⟨hra2, hrb2, fit_aF⟩
  · go_wp2
    go_ret
    exact ⟨rfl, c2_w⟩
  go_wp2_with fail
  refine (to_Fld (.agg #[.int .i64 x_aF.dim, .slice vPa_aF vPl_aF vPc_aF]) x_aF _ (rd_Fld_mono c2_w h_aF) fit_aF).mono ?_
  rintro e w3 ⟨v3, fp3, rfl, ho3, hn3, hb3⟩
  have HZ3 := Lib.hid hb3.size
  have c3_w := c2_w.trans (hb3.mono c2_w.size)
  have b3_p_aF_0 := cell_below hb3 b2_p_aF_0
  have b3_p_aF_1 := cell_below hb3 b2_p_aF_1
  clear b2_p_aF_0 b2_p_aF_1
  have new_t3 := hn3
  have lt_t3 := own_Fld_lt ho3
  have ho3_k := ho3
  obtain ⟨vP_t3, rfl, hI_t3, hoP_t3⟩ := ho3_k
  obtain ⟨vPa_t3, vPl_t3, vPc_t3, rfl⟩ := ownMss_slice hoP_t3
  go_wp2_with fail
  refine (sFormatField_c (.agg #[.int .i64 x_aF.dim, .slice vPa_t3 vPl_t3 vPc_t3]) x_aF _ (own_Fld_rd ho3) ).mono ?_
  rintro e w4 ⟨rfl, hb4⟩
  have HZ4 := Lib.hid hb4.size
  have c4_w := c3_w.trans (hb4.mono c3_w.size)
  have c4_t3 := hb4
  have b4_p_aF_0 := cell_below hb4 b3_p_aF_0
  have b4_p_aF_1 := cell_below hb4 b3_p_aF_1
  clear b3_p_aF_0 b3_p_aF_1
  go_wp2_with fail
  refine (to_Fld (.agg #[.int .i64 x_aF.dim, .slice vPa_aF vPl_aF vPc_aF]) x_aF _ (rd_Fld_mono c4_w h_aF) fit_aF).mono ?_
  rintro e w5 ⟨v5, fp5, rfl, ho5, hn5, hb5⟩
  have HZ5 := Lib.hid hb5.size
  have c5_w := c4_w.trans (hb5.mono c4_w.size)
  have b5_p_aF_0 := cell_below hb5 b4_p_aF_0
  have b5_p_aF_1 := cell_below hb5 b4_p_aF_1
  clear b4_p_aF_0 b4_p_aF_1
  have new_x0 := hn5
  have lt_x0 := own_Fld_lt ho5
  have ho5_k := ho5
  obtain ⟨vP_x0, rfl, hI_x0, hoP_x0⟩ := ho5_k
  obtain ⟨vPa_x0, vPl_x0, vPc_x0, rfl⟩ := ownMss_slice hoP_x0
  have q6_p_aF_0 := cell_below (w := w5) ((Below.refl _ _).alloc (Nat.le_refl _) (.cells #[.int .i64 x_aF.dim, .slice vPa_x0 vPl_x0 vPc_x0] 37)) b5_p_aF_0
  have q6_p_aF_1 := cell_below (w := w5) ((Below.refl _ _).alloc (Nat.le_refl _) (.cells #[.int .i64 x_aF.dim, .slice vPa_x0 vPl_x0 vPc_x0] 37)) b5_p_aF_1
  go_wp2_with fail
  clear q6_p_aF_0 q6_p_aF_1
  obtain ⟨w6, hw6⟩ : ∃ W, W = w5.alloc (.cells #[.int .i64 x_aF.dim, .slice vPa_x0 vPl_x0 vPc_x0] 37) := ⟨_, rfl⟩
  rw [← hw6]
  have hb6 : Below w5.heap.size w5 w6 := hw6 ▸ (Below.refl _ _).alloc (Nat.le_refl _) _
  have HZ6 : Hid (w5.heap.size + 1 ≤ w6.heap.size) := Lib.hid (by rw [hw6]; simp)
  have b6_x0_0 : w6.cell? ⟨w5.heap.size, 0, none⟩ = some (.int .i64 x_aF.dim) := by rw [hw6]; simp
  have b6_x0_1 : w6.cell? ⟨w5.heap.size, 1, none⟩ = some (.slice vPa_x0 vPl_x0 vPc_x0) := by rw [hw6]; simp
  clear hw6
  have c6_w := c5_w.trans (hb6.mono c5_w.size)
  have c6_x0 := hb6
  have b6_p_aF_0 := cell_below hb6 b5_p_aF_0
  have b6_p_aF_1 := cell_below hb6 b5_p_aF_1
  clear b5_p_aF_0 b5_p_aF_1
  go_wp2_with fail
  refine (formatField_c (.agg #[.int .i64 x_aF.dim, .slice vPa_x0 vPl_x0 vPc_x0]) x_aF _ (own_Fld_rd (own_Fld_only ho5 (Only.of_below (fp := []) c6_x0) (by simp))) fit_aF).mono ?_
  rintro e w7 ⟨rfl, hb7⟩
  have HZ7 := Lib.hid hb7.size
  have c7_w := c6_w.trans (hb7.mono c6_w.size)
  have c7_x0 := c6_x0.trans (hb7.mono c6_x0.size)
  have b7_p_aF_0 := cell_below hb7 b6_p_aF_0
  have b7_p_aF_1 := cell_below hb7 b6_p_aF_1
  clear b6_p_aF_0 b6_p_aF_1
  have b7_x0_0 := cell_below hb7 b6_x0_0
  have b7_x0_1 := cell_below hb7 b6_x0_1
  clear b6_x0_0 b6_x0_1
  go_wp2_with fail
  go_region_held3 (fun w' => w'.cell? ⟨w5.heap.size, 0, none⟩ = some (.int .i64 x_aF.dim) ∧ w'.cell? ⟨w5.heap.size, 1, none⟩ = some (.slice vPa_x0 vPl_x0 vPc_x0) ∧ w'.cell? ⟨w0.heap.size, 0, none⟩ = some (.int .i64 x_aF.dim) ∧ w'.cell? ⟨w0.heap.size, 1, none⟩ = some (.slice vPa_aF vPl_aF vPc_aF)) (first | exact ⟨b7_x0_0, b7_x0_1, b7_p_aF_0, b7_p_aF_1⟩ | exact ⟨b8_x0_0, b8_x0_1, b8_p_aF_0, b8_p_aF_1⟩ | exact ⟨b9_x0_0, b9_x0_1, b9_p_aF_0, b9_p_aF_1⟩) (first | (refine (to_Fld (.agg #[.int .i64 x_aF.dim, .slice vPa_aF vPl_aF vPc_aF]) x_aF _ (rd_Fld_mono c7_w.drew h_aF) fit_aF).mono ?_; rintro e w8 ⟨v8, fp8, rfl, ho8, hn8d, hb8d⟩; have hn8 : ∀ g ∈ fp8, w7.heap.size ≤ g := hn8d; have hb8 : Below w7.heap.size w7 w8 := ⟨hb8d.os, hb8d.tape, hb8d.output, hb8d.size, hb8d.block⟩; clear hn8d hb8d; have HZ8 := Lib.hid hb8.size; have c8_w := c7_w.trans (hb8.mono c7_w.size); have c8_x0 := c7_x0.trans (hb8.mono c7_x0.size); have b8_p_aF_0 := cell_below hb8 b7_p_aF_0; have b8_p_aF_1 := cell_below hb8 b7_p_aF_1; clear b7_p_aF_0 b7_p_aF_1; have b8_x0_0 := cell_below hb8 b7_x0_0; have b8_x0_1 := cell_below hb8 b7_x0_1; clear b7_x0_0 b7_x0_1; have new_t8 := hn8; have lt_t8 := own_Fld_lt ho8; have ho8_k := ho8; obtain ⟨vP_t8, rfl, hI_t8, hoP_t8⟩ := ho8_k; obtain ⟨vPa_t8, vPl_t8, vPc_t8, rfl⟩ := ownMss_slice hoP_t8) | (refine (eq_Fld (.agg #[.int .i64 x_aF.dim, .slice vPa_x0 vPl_x0 vPc_x0]) (.agg #[.int .i64 x_aF.dim, .slice vPa_t8 vPl_t8 vPc_t8]) x_aF _ (own_Fld_rd (own_Fld_only ho5 (Only.of_below (fp := []) c8_x0) (by simp))) (own_Fld_rd ho8)).mono ?_; rintro e w9 ⟨rfl, hb9⟩; have HZ9 := Lib.hid hb9.size; have c9_w := c8_w.trans (hb9.mono c8_w.size); have c9_x0 := c8_x0.trans (hb9.mono c8_x0.size); have c9_t8 := hb9; have b9_p_aF_0 := cell_below hb9 b8_p_aF_0; have b9_p_aF_1 := cell_below hb9 b8_p_aF_1; clear b8_p_aF_0 b8_p_aF_1; have b9_x0_0 := cell_below hb9 b8_x0_0; have b9_x0_1 := cell_below hb9 b8_x0_1; clear b8_x0_0 b8_x0_1))
  go_wp2
  go_ret
  exact ⟨rfl, c9_w⟩

set_option maxRecDepth 100000 in
theorem fnExactFormatField_lifted (os : Os) (started : os.Started) (H : Type) (enc : TypeId × Value → H) :
    ReturnsInHanded {} Try.checked os 7 .any (Rows.fnExactFormatFieldSpec.pre6 enc Try.prog Try.f7 Rows.fnExactFormatFieldRow.domain false) (Rows.fnExactFormatFieldSpec.post enc Try.prog Try.f7 false true false false) := by
  refine returnsInHanded_of_change (C := Try.checked) Try.own started (by kernel_rfl) Try.func7
    (ChangeSpec.witness6 (enc := enc) (C := Try.checked) false ⟨#[], #[.agg #[.int .i64 0, .slice none 0 0]], []⟩ 8 (by kernel_rfl) (by kernel_rfl) (by kernel_rfl) (by kernel_rfl)) ?_
  intro W base args ds gs before hval0 hW hcnd _
  have hval : ∀ (j : Nat) t v, Try.f7.params[j]? = some t → args[j]? = some v → Value.okWide Try.prog W .any base t v := hval0
  have hW' := hW
  obtain ⟨p, q, hA0, hV, rfl, hfz, hnd⟩ := hW
  have hA : DataW.TrodAll enc Try.prog W 0 (fun _ => true) true Try.f7.params.toList args.toList ds p := hA0
  rw [Try.params7] at hA hval
  obtain ⟨v0, vs0, d0, ds0, p0, q0, hargs, rfl, rfl, h0, r0⟩ := trodAll_cons hA
  obtain ⟨rfl, rfl, rfl⟩ := trodAll_nil r0
  obtain rfl : args = #[v0] := by cases args; simp_all
  obtain ⟨rfl, rfl⟩ := trodVars_none hV
  have lt0 : ∀ x ∈ p0, x.block < W.heap.size := by obtain ⟨m, hm⟩ := h0; exact DataW.trod_lt m _ _ _ hm
  have k0 := h0
  obtain ⟨x0, w0⟩ := fld_arg (hval 0 32 v0 rfl rfl) h0
  clear hA0 hval0
  refine (fnExactFormatField_walk v0 x0 W w0).mono fun e W' ⟨he, bel⟩ => ?_
  subst he
  exact ⟨_, rfl, _, _, _, [], _, [], hW', trodAll_mk1 (shut_bool Try.underlying4 _), (trodAll_cons_mk (Below.trod Try.laidOut (by kernel_rfl) (of_decide_eq_true (by kernel_rfl)) k0 bel lt0) trodAll_mk0), rfl, bel.frame _, fun h => by cases h⟩

theorem fnExactFormatField_holds : Rows.FnExactFormatFieldSaid :=
  OpenClaim.holds_of_wide 7 Try.f7 rfl rfl rfl rfl rfl rfl rfl ⟨rfl, rfl, rfl, rfl, rfl⟩ rfl rfl rfl rfl rfl (by kernel_rfl) Try.func7 (by kernel_rfl)
    (of_decide_eq_true (by kernel_rfl)) (by unfold Func.isWrapper; first | (rw [if_pos (by decide +kernel)]; kernel_rfl) | (rw [if_neg (by decide +kernel)]; exact ⟨rfl, rfl⟩))
    (fun os started H enc _ => fnExactFormatField_lifted os started H enc)

#print axioms fnExactFormatField_holds
end Go.Proofs.Ytdaaamdighojdaa
