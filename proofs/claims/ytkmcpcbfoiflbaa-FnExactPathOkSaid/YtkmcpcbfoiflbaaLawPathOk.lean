/- The law FnExactPathOk returns true for every path and dimension, and changes nothing that was there. Conditions: none. -/
import Derived.Test.YtkmcpcbfoiflbaaPath
import Derived.Test.YtkmcpcbfoiflbaaShut
namespace Go.Proofs.Ytkmcpcbfoiflbaa
open Go.ChangeShapes Go.WideShapes Go.ChangeAt Go.RowKit

set_option maxHeartbeats 800000 in
theorem fnExactPathOk_walk (v : Value) (xs : List (List Int)) (dim : Int) (w : World) (h : RdII w v xs) (_ : I64 dim) :
    Calls Try.prog 3 #[v, .int .i64 dim] w fun e w' => e = .returned (.bool true) ∧ Below w.heap.size w w' := by
  go_enter Try.func3, Try.ntmps3
  go_wp2_with fail
  refine (szIntSS_any v xs 1048576 _ h (by omega) (by omega)).mono ?_
  rintro e w1 ⟨r, rfl, hr, hb1⟩
  rcases hr with rfl | ⟨hr0, hr1, hfit⟩
  · go_wp2
    go_ret
    exact ⟨rfl, hb1⟩
  have h1 := rdII_mono hb1 h
  go_wp2_with fail
  refine (toIntSS_any v xs _ h1 hfit).mono ?_
  rintro e w2 ⟨v2, fp2, rfl, ho2, hn2, hb2⟩
  have h2 := rdII_mono hb2 h1
  have hb02 := hb1.trans (hb2.mono hb1.size)
  go_wp2_with fail
  refine (sPathOk_any v2 xs dim _ (ownII_rd ho2)).mono ?_
  rintro e w3 ⟨rfl, rfl⟩
  go_wp2_with fail
  refine (toIntSS_any v xs _ h2 hfit).mono ?_
  rintro e w4 ⟨v4, fp4, rfl, ho4, hn4, hb4⟩
  have h4 := rdII_mono hb4 h2
  have hr4 := ownII_rd ho4
  have hb04 := hb02.trans (hb4.mono hb02.size)
  go_wp2_with fail
  refine (pathOk_any v4 xs dim _ hr4).mono ?_
  rintro e w5 ⟨rfl, rfl⟩
  go_wp2_with fail
  refine (toIntSS_any v xs _ h4 hfit).mono ?_
  rintro e w6 ⟨v6, fp6, rfl, ho6, hn6, hb6⟩
  have hb06 := hb04.trans (hb6.mono hb04.size)
  go_wp2_with fail
  refine (eqIntSS_same v4 v6 xs _ (rdII_mono hb6 hr4) (ownII_rd ho6)).mono ?_
  rintro e w7 ⟨rfl, m, rfl⟩
  go_wp2
  go_ret
  exact ⟨rfl, blw_drewN hb06 m⟩

set_option maxRecDepth 100000 in
theorem fnExactPathOk_lifted (os : Os) (started : os.Started) (H : Type) (enc : TypeId × Value → H) :
    ReturnsInHanded {} Try.checked os 3 .any (Rows.fnExactPathOkSpec.pre6 enc Try.prog Try.f3 Rows.fnExactPathOkRow.domain false) (Rows.fnExactPathOkSpec.post enc Try.prog Try.f3 false true false false) := by
  refine returnsInHanded_of_change (C := Try.checked) Try.own started (by kernel_rfl) Try.func3
    (ChangeSpec.witness6 (enc := enc) (C := Try.checked) false ⟨#[], #[.slice none 0 0, .int .i64 0], []⟩ 8 (by kernel_rfl) (by kernel_rfl) (by kernel_rfl) (by kernel_rfl)) ?_
  intro W base args ds gs before hval0 hW hcnd _
  have hval : ∀ (j : Nat) t v, Try.f3.params[j]? = some t → args[j]? = some v → Value.okWide Try.prog W .any base t v := hval0
  have hW' := hW
  obtain ⟨p, q, hA0, hV, rfl, hfz, hnd⟩ := hW
  have hA : DataW.TrodAll enc Try.prog W 0 (fun _ => true) true Try.f3.params.toList args.toList ds p := hA0
  rw [Try.params3] at hA hval
  obtain ⟨v0, vs0, d0, ds0, p0, q0, hargs, rfl, rfl, h0, r0⟩ := trodAll_cons hA
  obtain ⟨v1, vs1, d1, ds1, p1, q1, rfl, rfl, rfl, h1, r1⟩ := trodAll_cons r0
  obtain ⟨rfl, rfl, rfl⟩ := trodAll_nil r1
  obtain rfl : args = #[v0, v1] := by cases args; simp_all
  obtain ⟨rfl, rfl⟩ := trodVars_none hV
  have lt0 : ∀ x ∈ p0, x.block < W.heap.size := by obtain ⟨m, hm⟩ := h0; exact DataW.trod_lt m _ _ _ hm
  have k0 := h0
  obtain ⟨x0, w0⟩ := rdS_of_arg Try.underlying22 Try.cells_ints (by omega) (elII_of_trod Try.underlying27 Try.underlying3 Try.cells_int) (hval 0 22 v0 rfl rfl) h0
  have lt1 : ∀ x ∈ p1, x.block < W.heap.size := by obtain ⟨m, hm⟩ := h1; exact DataW.trod_lt m _ _ _ hm
  have k1 := h1
  obtain ⟨x1, rfl, w1⟩ := int_of_arg Try.underlying3 (hval 1 3 v1 rfl rfl) h1
  clear hA0 hval0
  refine (fnExactPathOk_walk v0 x0 x1 W w0 w1).mono fun e W' ⟨he, bel⟩ => ?_
  subst he
  exact ⟨_, rfl, _, _, _, [], _, [], hW', trodAll_mk1 (shut_bool Try.underlying4 _), (trodAll_cons_mk (Below.trod Try.laidOut (by kernel_rfl) (of_decide_eq_true (by kernel_rfl)) k0 bel lt0) (trodAll_cons_mk (Below.trod Try.laidOut (by kernel_rfl) (of_decide_eq_true (by kernel_rfl)) k1 bel lt1) trodAll_mk0)), rfl, bel.frame _, fun h => by cases h⟩

theorem fnExactPathOk_holds : Rows.FnExactPathOkSaid :=
  OpenClaim.holds_of_wide 3 Try.f3 rfl rfl rfl rfl rfl rfl rfl ⟨rfl, rfl, rfl, rfl, rfl⟩ rfl rfl rfl rfl rfl (by kernel_rfl) Try.func3 (by kernel_rfl)
    (of_decide_eq_true (by kernel_rfl)) (by unfold Func.isWrapper; first | (rw [if_pos (by decide +kernel)]; kernel_rfl) | (rw [if_neg (by decide +kernel)]; exact ⟨rfl, rfl⟩))
    (fun os started H enc _ => fnExactPathOk_lifted os started H enc)

#print axioms fnExactPathOk_holds
end Go.Proofs.Ytkmcpcbfoiflbaa
