/- The reference's test that two lists are the same. Conditions: none. -/
import Derived.Test.YtdaaamdighojdaaColP
import Derived.Test.YtdaaamdighojdaaSPoly
set_option linter.unusedSimpArgs false
set_option linter.unusedVariables false
namespace Go.Proofs.Ytdaaamdighojdaa
open Go.RowKit Go.Sort

theorem same_ltL {a b : List Int} : decide (a = b) = (!ltL a b && !ltL b a) := by
  by_cases h : a = b
  · subst h; simp [ltL_irr]
  · rw [decide_eq_false h]
    cases h1 : ltL a b with
    | true => rfl
    | false =>
      cases h2 : ltL b a with
      | true => rfl
      | false => exact absurd (ltL_tri h1 h2) h
theorem same_any (va vb : Value) (xs ys : List Int) (w : World) (ha : RdI w va xs) (hb : RdI w vb ys) :
    Calls Try.prog 137 #[va, vb] w (Qt (.bool (decide (xs = ys))) w) := by
  cases h1 : ltL xs ys with
  | true =>
    have HN := Lib.hid (show decide (xs = ys) = false by rw [same_ltL, h1]; rfl)
    go_enter Try.func137, Try.ntmps137
    go_wp2_with fail
    refine (l2Less_eq _ _ xs ys _ ha hb h1).mono ?_
    rintro e w1 ⟨rfl, m, rfl⟩
    go_wp2
    go_ret
    exact ⟨ret_bool HN.out.symm, m, rfl⟩
  | false =>
    cases h2 : ltL ys xs with
    | true =>
      have HN := Lib.hid (show decide (xs = ys) = false by rw [same_ltL, h1, h2]; rfl)
      go_enter Try.func137, Try.ntmps137
      go_wp2_with fail
      refine (l2Less_eq _ _ xs ys _ ha hb h1).mono ?_
      rintro e w1 ⟨rfl, m, rfl⟩
      go_wp2_with fail
      refine (l2Less_eq _ _ ys xs _ (rdI_drewN m hb) (rdI_drewN m ha) h2).mono ?_
      rintro e w1 ⟨rfl, m2, rfl⟩
      go_wp2
      go_ret
      exact ⟨ret_bool HN.out.symm, _, rfl⟩
    | false =>
      have HN := Lib.hid (show decide (xs = ys) = true by rw [same_ltL, h1, h2]; rfl)
      go_enter Try.func137, Try.ntmps137
      go_wp2_with fail
      refine (l2Less_eq _ _ xs ys _ ha hb h1).mono ?_
      rintro e w1 ⟨rfl, m, rfl⟩
      go_wp2_with fail
      refine (l2Less_eq _ _ ys xs _ (rdI_drewN m hb) (rdI_drewN m ha) h2).mono ?_
      rintro e w1 ⟨rfl, m2, rfl⟩
      go_wp2
      go_ret
      exact ⟨ret_bool HN.out.symm, _, rfl⟩
theorem same_eq {c : Bool} (va vb : Value) (xs ys : List Int) (w : World) (ha : RdI w va xs) (hb : RdI w vb ys) (h : decide (xs = ys) = c) :
    Calls Try.prog 137 #[va, vb] w (Qt (.bool c) w) := h ▸ same_any va vb xs ys w ha hb
end Go.Proofs.Ytdaaamdighojdaa
