/- The law FnExactPolynomialOk returns true for every polynomial and dimension, and changes nothing that was there. Conditions: none. -/
import Derived.Test.YtkmcpcbfoiflbaaSPoly
import Derived.Test.YtkmcpcbfoiflbaaKinds
import Derived.Test.YtkmcpcbfoiflbaaShut
import Derived.Test.YtkmcpcbfoiflbaaOpenF
namespace Go.Proofs.Ytkmcpcbfoiflbaa
open Go.ChangeShapes Go.WideShapes Go.ChangeAt Go.RowKit

theorem sPolynomialOk_c (v : Value) (xs : List MonZ) (dim : Int) (w : World) (h : Rd_Ms w v xs) :
    Calls Try.prog 33 #[v, .int .i64 dim] w fun e w' => e = .returned (.bool (polyOkB xs dim)) ∧ Below w.heap.size w w' := qt_below (sPolyOk_any v xs dim w h)
theorem polynomialOk_c (v : Value) (xs : List MonZ) (dim : Int) (w : World) (h : Rd_Ms w v xs) (hfit : ∀ m ∈ xs, Fit_Mon m) :
    Calls Try.prog 35 #[v, .int .i64 dim] w fun e w' => e = .returned (.bool (polyOkB xs dim)) ∧ Below w.heap.size w w' := polyOk_any v xs dim w h hfit

set_option maxRecDepth 100000 in
set_option maxHeartbeats 4000000 in
theorem fnExactPolynomialOk_walk (v_aP : Value) (x_aP : List MonZ) (n_aDim : Int) (w : World) (h_aP : Rd_Ms w v_aP x_aP) (i_aDim : I64 n_aDim) :
    Calls Try.prog 8 #[v_aP, .int .i64 n_aDim] w fun e w' => e = .returned (.bool true) ∧ Below w.heap.size w w' := by
  go_enter Try.func8, Try.ntmps8
  go_wp2_with fail
  refine (sz_Ms v_aP x_aP 1048576 _ (rd_Ms_mono (Below.refl w.heap.size w) h_aP) (by omega) (by omega)).mono ?_
  rintro e w1 ⟨r1, rfl, hr1, hb1⟩
  have c1_w := hb1
  rcases hr1 with rfl | ⟨hra1, hrb1, fit_aP⟩
  · go_wp2
    go_ret
    exact ⟨rfl, c1_w⟩
  go_wp2_with fail
  refine (to_Ms v_aP x_aP _ (rd_Ms_mono c1_w h_aP) fit_aP).mono ?_
  rintro e w2 ⟨v2, fp2, rfl, ho2, hn2, hb2⟩
  have sz_w_t2 : ∀ g ∈ fp2, w.heap.size ≤ g := fun g hg => Nat.le_trans c1_w.size (hn2 g hg)
  have c2_w := c1_w.trans (hb2.mono c1_w.size)
  go_wp2_with fail
  refine (sPolynomialOk_c v2 x_aP n_aDim _ (own_Ms_rd ho2) ).mono ?_
  rintro e w3 ⟨rfl, hb3⟩
  have c3_w := c2_w.trans (hb3.mono c2_w.size)
  have c3_t2 := hb3
  go_wp2_with fail
  refine (to_Ms v_aP x_aP _ (rd_Ms_mono c3_w h_aP) fit_aP).mono ?_
  rintro e w4 ⟨v4, fp4, rfl, ho4, hn4, hb4⟩
  have sz_w_x0 : ∀ g ∈ fp4, w.heap.size ≤ g := fun g hg => Nat.le_trans c3_w.size (hn4 g hg)
  have sz_t2_x0 : ∀ g ∈ fp4, w2.heap.size ≤ g := fun g hg => Nat.le_trans c3_t2.size (hn4 g hg)
  have c4_w := c3_w.trans (hb4.mono c3_w.size)
  have c4_t2 := c3_t2.trans (hb4.mono c3_t2.size)
  go_wp2_with fail
  refine (polynomialOk_c v4 x_aP n_aDim _ (own_Ms_rd ho4) (fun m hm => fit_aP.2 m hm)).mono ?_
  rintro e w5 ⟨rfl, hb5⟩
  have c5_w := c4_w.trans (hb5.mono c4_w.size)
  have c5_t2 := c4_t2.trans (hb5.mono c4_t2.size)
  have c5_x0 := hb5
  go_wp2_with fail
  refine (to_Ms v_aP x_aP _ (rd_Ms_mono c5_w h_aP) fit_aP).mono ?_
  rintro e w6 ⟨v6, fp6, rfl, ho6, hn6, hb6⟩
  have sz_w_t6 : ∀ g ∈ fp6, w.heap.size ≤ g := fun g hg => Nat.le_trans c5_w.size (hn6 g hg)
  have sz_t2_t6 : ∀ g ∈ fp6, w2.heap.size ≤ g := fun g hg => Nat.le_trans c5_t2.size (hn6 g hg)
  have sz_x0_t6 : ∀ g ∈ fp6, w4.heap.size ≤ g := fun g hg => Nat.le_trans c5_x0.size (hn6 g hg)
  have c6_w := c5_w.trans (hb6.mono c5_w.size)
  have c6_t2 := c5_t2.trans (hb6.mono c5_t2.size)
  have c6_x0 := c5_x0.trans (hb6.mono c5_x0.size)
  go_wp2_with fail
  refine (eq_Ms v4 v6 x_aP _ (own_Ms_rd (own_Ms_only ho4 (Only.of_below (fp := []) c6_x0) (by simp))) (own_Ms_rd ho6)).mono ?_
  rintro e w7 ⟨rfl, hb7⟩
  have c7_w := c6_w.trans (hb7.mono c6_w.size)
  have c7_t2 := c6_t2.trans (hb7.mono c6_t2.size)
  have c7_x0 := c6_x0.trans (hb7.mono c6_x0.size)
  have c7_t6 := hb7
  go_wp2
  go_ret
  exact ⟨rfl, c7_w⟩

set_option maxRecDepth 100000 in
theorem fnExactPolynomialOk_lifted (os : Os) (started : os.Started) (H : Type) (enc : TypeId × Value → H) :
    ReturnsInHanded {} Try.checked os 8 .any (Rows.fnExactPolynomialOkSpec.pre6 enc Try.prog Try.f8 Rows.fnExactPolynomialOkRow.domain false) (Rows.fnExactPolynomialOkSpec.post enc Try.prog Try.f8 false true false false) := by
  refine returnsInHanded_of_change (C := Try.checked) Try.own started (by kernel_rfl) Try.func8
    (ChangeSpec.witness6 (enc := enc) (C := Try.checked) false ⟨#[], #[.slice none 0 0, .int .i64 0], []⟩ 8 (by kernel_rfl) (by kernel_rfl) (by kernel_rfl) (by kernel_rfl)) ?_
  intro W base args ds gs before hval0 hW hcnd _
  have hval : ∀ (j : Nat) t v, Try.f8.params[j]? = some t → args[j]? = some v → Value.okWide Try.prog W .any base t v := hval0
  have hW' := hW
  obtain ⟨p, q, hA0, hV, rfl, hfz, hnd⟩ := hW
  have hA : DataW.TrodAll enc Try.prog W 0 (fun _ => true) true Try.f8.params.toList args.toList ds p := hA0
  rw [Try.params8] at hA hval
  obtain ⟨v0, vs0, d0, ds0, p0, q0, hargs, rfl, rfl, h0, r0⟩ := trodAll_cons hA
  obtain ⟨v1, vs1, d1, ds1, p1, q1, rfl, rfl, rfl, h1, r1⟩ := trodAll_cons r0
  obtain ⟨rfl, rfl, rfl⟩ := trodAll_nil r1
  obtain rfl : args = #[v0, v1] := by cases args; simp_all
  obtain ⟨rfl, rfl⟩ := trodVars_none hV
  have lt0 : ∀ x ∈ p0, x.block < W.heap.size := by obtain ⟨m, hm⟩ := h0; exact DataW.trod_lt m _ _ _ hm
  have k0 := h0
  obtain ⟨x0, w0⟩ := ms_arg (hval 0 46 v0 rfl rfl) h0
  have lt1 : ∀ x ∈ p1, x.block < W.heap.size := by obtain ⟨m, hm⟩ := h1; exact DataW.trod_lt m _ _ _ hm
  have k1 := h1
  obtain ⟨x1, rfl, w1⟩ := int_of_arg Try.underlying3 (hval 1 3 v1 rfl rfl) h1
  clear hA0 hval0
  refine (fnExactPolynomialOk_walk v0 x0 x1 W w0 w1).mono fun e W' ⟨he, bel⟩ => ?_
  subst he
  exact ⟨_, rfl, _, _, _, [], _, [], hW', trodAll_mk1 (shut_bool Try.underlying4 _), (trodAll_cons_mk (Below.trod Try.laidOut (by kernel_rfl) (of_decide_eq_true (by kernel_rfl)) k0 bel lt0) (trodAll_cons_mk (Below.trod Try.laidOut (by kernel_rfl) (of_decide_eq_true (by kernel_rfl)) k1 bel lt1) trodAll_mk0)), rfl, bel.frame _, fun h => by cases h⟩

theorem fnExactPolynomialOk_holds : Rows.FnExactPolynomialOkSaid :=
  OpenClaim.holds_of_wide 8 Try.f8 rfl rfl rfl rfl rfl rfl rfl ⟨rfl, rfl, rfl, rfl, rfl⟩ rfl rfl rfl rfl rfl (by kernel_rfl) Try.func8 (by kernel_rfl)
    (of_decide_eq_true (by kernel_rfl)) (by unfold Func.isWrapper; first | (rw [if_pos (by decide +kernel)]; kernel_rfl) | (rw [if_neg (by decide +kernel)]; exact ⟨rfl, rfl⟩))
    (fun os started H enc _ => fnExactPolynomialOk_lifted os started H enc)

#print axioms fnExactPolynomialOk_holds
end Go.Proofs.Ytkmcpcbfoiflbaa
