/- The law FnExactPathAt returns true for every path and number, and changes nothing that was there. Conditions: none. -/
import Derived.Test.YtkmcpcbfoiflbaaPathAt
import Derived.Test.YtkmcpcbfoiflbaaKinds
import Derived.Test.YtkmcpcbfoiflbaaShut
namespace Go.Proofs.Ytkmcpcbfoiflbaa
open Go.ChangeShapes Go.WideShapes Go.ChangeAt Go.RowKit

theorem pathAtL_cnt (xs : List (List Int)) (h : Int) : cnt_I (pathAtL xs h) ≤ 10000000000000 := by
  unfold cnt_I pathAtL
  split
  · rename_i hd
    rw [pathAtZ_len]
    cases xs with
    | nil => simp
    | cons y ys =>
      simp [pathDimB] at hd
      have := hd.1.2
      simp
      omega
  · simp
theorem sPathAt_c (v : Value) (xs : List (List Int)) (h0 : Int) (w : World) (h : Rd_II w v xs) :
    Calls Try.prog 26 #[v, .int .i64 h0] w (Gives (fun w' v fp => Own_I w' v (pathAtL xs h0) fp) w) := sPathAt_any v xs h0 w h
theorem pathAt_c (v : Value) (xs : List (List Int)) (h0 : Int) (w : World) (h : Rd_II w v xs) :
    Calls Try.prog 27 #[v, .int .i64 h0] w (Gives (fun w' v fp => Own_I w' v (pathAtL xs h0) fp) w) := pathAt_any v xs h0 w h

set_option maxRecDepth 100000 in
set_option maxHeartbeats 4000000 in
theorem fnExactPathAt_walk (v_aPath : Value) (x_aPath : List (List Int)) (n_aH : Int) (w : World) (h_aPath : Rd_II w v_aPath x_aPath) (i_aH : I64 n_aH) :
    Calls Try.prog 7 #[v_aPath, .int .i64 n_aH] w fun e w' => e = .returned (.bool true) ∧ Below w.heap.size w w' := by
  go_enter Try.func7, Try.ntmps7
  go_wp2_with fail
  refine (sz_II v_aPath x_aPath 1048576 _ (rd_II_mono (Below.refl w.heap.size w) h_aPath) (by omega) (by omega)).mono ?_
  rintro e w1 ⟨r1, rfl, hr1, hb1⟩
  have c1_w := hb1
  rcases hr1 with rfl | ⟨hra1, hrb1, fit_aPath⟩
  · go_wp2
    go_ret
    exact ⟨rfl, c1_w⟩
  go_wp2_with fail
  refine (to_II v_aPath x_aPath _ (rd_II_mono c1_w h_aPath) fit_aPath).mono ?_
  rintro e w2 ⟨v2, fp2, rfl, ho2, hn2, hb2⟩
  have sz_w_t2 : ∀ g ∈ fp2, w.heap.size ≤ g := fun g hg => Nat.le_trans c1_w.size (hn2 g hg)
  have c2_w := c1_w.trans (hb2.mono c1_w.size)
  go_wp2_with fail
  refine (sPathAt_c v2 x_aPath n_aH _ (own_II_rd ho2) ).mono ?_
  rintro e w3 ⟨v3, fp3, rfl, ho3, hn3, hb3⟩
  have sz_w_w0 : ∀ g ∈ fp3, w.heap.size ≤ g := fun g hg => Nat.le_trans c2_w.size (hn3 g hg)
  have sz_t2_w0 : ∀ g ∈ fp3, w2.heap.size ≤ g := fun g hg => Nat.le_trans (Nat.le_refl _) (hn3 g hg)
  have c3_w := c2_w.trans (hb3.mono c2_w.size)
  have c3_t2 := hb3
  go_wp2_with fail
  refine (to_II v_aPath x_aPath _ (rd_II_mono c3_w h_aPath) fit_aPath).mono ?_
  rintro e w4 ⟨v4, fp4, rfl, ho4, hn4, hb4⟩
  have sz_w_x0 : ∀ g ∈ fp4, w.heap.size ≤ g := fun g hg => Nat.le_trans c3_w.size (hn4 g hg)
  have sz_t2_x0 : ∀ g ∈ fp4, w2.heap.size ≤ g := fun g hg => Nat.le_trans c3_t2.size (hn4 g hg)
  have sz_w0_x0 : ∀ g ∈ fp4, w3.heap.size ≤ g := fun g hg => Nat.le_trans (Nat.le_refl _) (hn4 g hg)
  have c4_w := c3_w.trans (hb4.mono c3_w.size)
  have c4_t2 := c3_t2.trans (hb4.mono c3_t2.size)
  have c4_w0 := hb4
  go_wp2_with fail
  refine (pathAt_c v4 x_aPath n_aH _ (own_II_rd ho4) ).mono ?_
  rintro e w5 ⟨v5, fp5, rfl, ho5, hn5, hb5⟩
  have sz_w_g0 : ∀ g ∈ fp5, w.heap.size ≤ g := fun g hg => Nat.le_trans c4_w.size (hn5 g hg)
  have sz_t2_g0 : ∀ g ∈ fp5, w2.heap.size ≤ g := fun g hg => Nat.le_trans c4_t2.size (hn5 g hg)
  have sz_w0_g0 : ∀ g ∈ fp5, w3.heap.size ≤ g := fun g hg => Nat.le_trans c4_w0.size (hn5 g hg)
  have sz_x0_g0 : ∀ g ∈ fp5, w4.heap.size ≤ g := fun g hg => Nat.le_trans (Nat.le_refl _) (hn5 g hg)
  have c5_w := c4_w.trans (hb5.mono c4_w.size)
  have c5_t2 := c4_t2.trans (hb5.mono c4_t2.size)
  have c5_w0 := c4_w0.trans (hb5.mono c4_w0.size)
  have c5_x0 := hb5
  go_wp2_with fail
  refine (eq_I v5 v3 (pathAtL x_aPath n_aH) _ (own_I_rd ho5) (own_I_rd (own_I_only ho3 (Only.of_below (fp := []) c5_w0) (by simp)))).mono ?_
  rintro e w6 ⟨rfl, hb6⟩
  have c6_w := c5_w.trans (hb6.mono c5_w.size)
  have c6_t2 := c5_t2.trans (hb6.mono c5_t2.size)
  have c6_w0 := c5_w0.trans (hb6.mono c5_w0.size)
  have c6_x0 := c5_x0.trans (hb6.mono c5_x0.size)
  have c6_g0 := hb6
  go_wp2_with fail
  refine (to_II v_aPath x_aPath _ (rd_II_mono c6_w h_aPath) fit_aPath).mono ?_
  rintro e w7 ⟨v7, fp7, rfl, ho7, hn7, hb7⟩
  have sz_w_t7 : ∀ g ∈ fp7, w.heap.size ≤ g := fun g hg => Nat.le_trans c6_w.size (hn7 g hg)
  have sz_t2_t7 : ∀ g ∈ fp7, w2.heap.size ≤ g := fun g hg => Nat.le_trans c6_t2.size (hn7 g hg)
  have sz_w0_t7 : ∀ g ∈ fp7, w3.heap.size ≤ g := fun g hg => Nat.le_trans c6_w0.size (hn7 g hg)
  have sz_x0_t7 : ∀ g ∈ fp7, w4.heap.size ≤ g := fun g hg => Nat.le_trans c6_x0.size (hn7 g hg)
  have sz_g0_t7 : ∀ g ∈ fp7, w5.heap.size ≤ g := fun g hg => Nat.le_trans c6_g0.size (hn7 g hg)
  have c7_w := c6_w.trans (hb7.mono c6_w.size)
  have c7_t2 := c6_t2.trans (hb7.mono c6_t2.size)
  have c7_w0 := c6_w0.trans (hb7.mono c6_w0.size)
  have c7_x0 := c6_x0.trans (hb7.mono c6_x0.size)
  have c7_g0 := c6_g0.trans (hb7.mono c6_g0.size)
  go_wp2_with fail
  refine (eq_II v4 v7 x_aPath _ (own_II_rd (own_II_only ho4 (Only.of_below (fp := []) c7_x0) (by simp))) (own_II_rd ho7)).mono ?_
  rintro e w8 ⟨rfl, hb8⟩
  have c8_w := c7_w.trans (hb8.mono c7_w.size)
  have c8_t2 := c7_t2.trans (hb8.mono c7_t2.size)
  have c8_w0 := c7_w0.trans (hb8.mono c7_w0.size)
  have c8_x0 := c7_x0.trans (hb8.mono c7_x0.size)
  have c8_g0 := c7_g0.trans (hb8.mono c7_g0.size)
  have c8_t7 := hb8
  have hc_x0 := cnt_II_le fit_aPath
  go_wp2_with fail
  refine (mark_II v4 x_aPath fp4 _ _ (own_II_only ho4 (Only.of_below (fp := []) c8_x0) (by simp)) (by omega) (by omega)).mono ?_
  rintro e w9 ⟨rfl, ho9, hon9⟩
  have c9_w := c8_w.trans (hon9.below c8_w.size sz_w_x0)
  have c9_t2 := c8_t2.trans (hon9.below c8_t2.size sz_t2_x0)
  have c9_w0 := c8_w0.trans (hon9.below c8_w0.size sz_w0_x0)
  have ho9_g0 := own_I_only (own_I_only ho5 (Only.of_below (fp := []) c8_g0) (by simp)) hon9 (fun b hb hm => by have := own_II_lt ho4 b hm; have := sz_x0_g0 b hb; omega)
  go_wp2_with fail
  refine (eq_I v5 v3 (pathAtL x_aPath n_aH) _ (own_I_rd ho9_g0) (own_I_rd (own_I_only ho3 (Only.of_below (fp := []) c9_w0) (by simp)))).mono ?_
  rintro e w10 ⟨rfl, hb10⟩
  have c10_w := c9_w.trans (hb10.mono c9_w.size)
  have c10_t2 := c9_t2.trans (hb10.mono c9_t2.size)
  have c10_w0 := c9_w0.trans (hb10.mono c9_w0.size)
  have c10_g0 := hb10
  have hc_g0 : cnt_I (pathAtL x_aPath n_aH) ≤ 10000000000000 := pathAtL_cnt _ _
  go_wp2_with fail
  refine (mark_I v5 (pathAtL x_aPath n_aH) fp5 _ _ (own_I_only ho9_g0 (Only.of_below (fp := []) c10_g0) (by simp)) (by omega) (by omega)).mono ?_
  rintro e w11 ⟨rfl, ho11, hon11⟩
  have c11_w := c10_w.trans (hon11.below c10_w.size sz_w_g0)
  have c11_t2 := c10_t2.trans (hon11.below c10_t2.size sz_t2_g0)
  have c11_w0 := c10_w0.trans (hon11.below c10_w0.size sz_w0_g0)
  go_wp2_with fail
  refine (held_I v5 (pathAtL x_aPath n_aH) 1 _ (own_I_rd ho11) (by omega) (by omega)).mono ?_
  rintro e w12 ⟨rfl, hb12⟩
  have c12_w := c11_w.trans (hb12.mono c11_w.size)
  have c12_t2 := c11_t2.trans (hb12.mono c11_t2.size)
  have c12_w0 := c11_w0.trans (hb12.mono c11_w0.size)
  have c12_g0 := hb12
  go_wp2_with fail
  refine (to_II v_aPath x_aPath _ (rd_II_mono c12_w h_aPath) fit_aPath).mono ?_
  rintro e w13 ⟨v13, fp13, rfl, ho13, hn13, hb13⟩
  have sz_w_t13 : ∀ g ∈ fp13, w.heap.size ≤ g := fun g hg => Nat.le_trans c12_w.size (hn13 g hg)
  have sz_t2_t13 : ∀ g ∈ fp13, w2.heap.size ≤ g := fun g hg => Nat.le_trans c12_t2.size (hn13 g hg)
  have sz_w0_t13 : ∀ g ∈ fp13, w3.heap.size ≤ g := fun g hg => Nat.le_trans c12_w0.size (hn13 g hg)
  have sz_g0_t13 : ∀ g ∈ fp13, w11.heap.size ≤ g := fun g hg => Nat.le_trans c12_g0.size (hn13 g hg)
  have c13_w := c12_w.trans (hb13.mono c12_w.size)
  have c13_t2 := c12_t2.trans (hb13.mono c12_t2.size)
  have c13_w0 := c12_w0.trans (hb13.mono c12_w0.size)
  have c13_g0 := c12_g0.trans (hb13.mono c12_g0.size)
  go_wp2_with fail
  refine (pathAt_c v13 x_aPath n_aH _ (own_II_rd ho13) ).mono ?_
  rintro e w14 ⟨v14, fp14, rfl, ho14, hn14, hb14⟩
  have sz_w_h0 : ∀ g ∈ fp14, w.heap.size ≤ g := fun g hg => Nat.le_trans c13_w.size (hn14 g hg)
  have sz_t2_h0 : ∀ g ∈ fp14, w2.heap.size ≤ g := fun g hg => Nat.le_trans c13_t2.size (hn14 g hg)
  have sz_w0_h0 : ∀ g ∈ fp14, w3.heap.size ≤ g := fun g hg => Nat.le_trans c13_w0.size (hn14 g hg)
  have sz_g0_h0 : ∀ g ∈ fp14, w11.heap.size ≤ g := fun g hg => Nat.le_trans c13_g0.size (hn14 g hg)
  have sz_t13_h0 : ∀ g ∈ fp14, w13.heap.size ≤ g := fun g hg => Nat.le_trans (Nat.le_refl _) (hn14 g hg)
  have c14_w := c13_w.trans (hb14.mono c13_w.size)
  have c14_t2 := c13_t2.trans (hb14.mono c13_t2.size)
  have c14_w0 := c13_w0.trans (hb14.mono c13_w0.size)
  have c14_g0 := c13_g0.trans (hb14.mono c13_g0.size)
  have c14_t13 := hb14
  go_wp2_with fail
  refine (eq_I v14 v3 (pathAtL x_aPath n_aH) _ (own_I_rd ho14) (own_I_rd (own_I_only ho3 (Only.of_below (fp := []) c14_w0) (by simp)))).mono ?_
  rintro e w15 ⟨rfl, hb15⟩
  have c15_w := c14_w.trans (hb15.mono c14_w.size)
  have c15_t2 := c14_t2.trans (hb15.mono c14_t2.size)
  have c15_w0 := c14_w0.trans (hb15.mono c14_w0.size)
  have c15_g0 := c14_g0.trans (hb15.mono c14_g0.size)
  have c15_t13 := c14_t13.trans (hb15.mono c14_t13.size)
  have c15_h0 := hb15
  go_wp2_with fail
  refine (held_I v5 (pathAtL x_aPath n_aH) 1 _ (own_I_rd (own_I_only ho11 (Only.of_below (fp := []) c15_g0) (by simp))) (by omega) (by omega)).mono ?_
  rintro e w16 ⟨rfl, hb16⟩
  have c16_w := c15_w.trans (hb16.mono c15_w.size)
  have c16_t2 := c15_t2.trans (hb16.mono c15_t2.size)
  have c16_w0 := c15_w0.trans (hb16.mono c15_w0.size)
  have c16_g0 := c15_g0.trans (hb16.mono c15_g0.size)
  have c16_t13 := c15_t13.trans (hb16.mono c15_t13.size)
  have c16_h0 := c15_h0.trans (hb16.mono c15_h0.size)
  go_wp2
  go_ret
  exact ⟨rfl, c16_w⟩

set_option maxRecDepth 100000 in
theorem fnExactPathAt_lifted (os : Os) (started : os.Started) (H : Type) (enc : TypeId × Value → H) :
    ReturnsInHanded {} Try.checked os 7 .any (Rows.fnExactPathAtSpec.pre6 enc Try.prog Try.f7 Rows.fnExactPathAtRow.domain false) (Rows.fnExactPathAtSpec.post enc Try.prog Try.f7 false true false false) := by
  refine returnsInHanded_of_change (C := Try.checked) Try.own started (by kernel_rfl) Try.func7
    (ChangeSpec.witness6 (enc := enc) (C := Try.checked) false ⟨#[], #[.slice none 0 0, .int .i64 0], []⟩ 8 (by kernel_rfl) (by kernel_rfl) (by kernel_rfl) (by kernel_rfl)) ?_
  intro W base args ds gs before hval0 hW hcnd _
  have hval : ∀ (j : Nat) t v, Try.f7.params[j]? = some t → args[j]? = some v → Value.okWide Try.prog W .any base t v := hval0
  have hW' := hW
  obtain ⟨p, q, hA0, hV, rfl, hfz, hnd⟩ := hW
  have hA : DataW.TrodAll enc Try.prog W 0 (fun _ => true) true Try.f7.params.toList args.toList ds p := hA0
  rw [Try.params7] at hA hval
  obtain ⟨v0, vs0, d0, ds0, p0, q0, hargs, rfl, rfl, h0, r0⟩ := trodAll_cons hA
  obtain ⟨v1, vs1, d1, ds1, p1, q1, rfl, rfl, rfl, h1, r1⟩ := trodAll_cons r0
  obtain ⟨rfl, rfl, rfl⟩ := trodAll_nil r1
  obtain rfl : args = #[v0, v1] := by cases args; simp_all
  obtain ⟨rfl, rfl⟩ := trodVars_none hV
  have lt0 : ∀ x ∈ p0, x.block < W.heap.size := by obtain ⟨m, hm⟩ := h0; exact DataW.trod_lt m _ _ _ hm
  have k0 := h0
  obtain ⟨x0, w0⟩ := rdS_of_arg Try.underlying22 Try.cells_ints (by omega) (elII_of_trod Try.underlying27 Try.underlying3 Try.cells_int) (hval 0 22 v0 rfl rfl) h0
  have lt1 : ∀ x ∈ p1, x.block < W.heap.size := by obtain ⟨m, hm⟩ := h1; exact DataW.trod_lt m _ _ _ hm
  have k1 := h1
  obtain ⟨x1, rfl, w1⟩ := int_of_arg Try.underlying3 (hval 1 3 v1 rfl rfl) h1
  clear hA0 hval0
  refine (fnExactPathAt_walk v0 x0 x1 W w0 w1).mono fun e W' ⟨he, bel⟩ => ?_
  subst he
  exact ⟨_, rfl, _, _, _, [], _, [], hW', trodAll_mk1 (shut_bool Try.underlying4 _), (trodAll_cons_mk (Below.trod Try.laidOut (by kernel_rfl) (of_decide_eq_true (by kernel_rfl)) k0 bel lt0) (trodAll_cons_mk (Below.trod Try.laidOut (by kernel_rfl) (of_decide_eq_true (by kernel_rfl)) k1 bel lt1) trodAll_mk0)), rfl, bel.frame _, fun h => by cases h⟩

theorem fnExactPathAt_holds : Rows.FnExactPathAtSaid :=
  OpenClaim.holds_of_wide 7 Try.f7 rfl rfl rfl rfl rfl rfl rfl ⟨rfl, rfl, rfl, rfl, rfl⟩ rfl rfl rfl rfl rfl (by kernel_rfl) Try.func7 (by kernel_rfl)
    (of_decide_eq_true (by kernel_rfl)) (by unfold Func.isWrapper; first | (rw [if_pos (by decide +kernel)]; kernel_rfl) | (rw [if_neg (by decide +kernel)]; exact ⟨rfl, rfl⟩))
    (fun os started H enc _ => fnExactPathAt_lifted os started H enc)

#print axioms fnExactPathAt_holds
end Go.Proofs.Ytkmcpcbfoiflbaa
