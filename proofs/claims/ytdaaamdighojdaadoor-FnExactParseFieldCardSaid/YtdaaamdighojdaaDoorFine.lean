/- What a valid polynomial or field holds. Conditions: none. -/
import Derived.Test.YtdaaamdighojdaaDoorFOk
set_option linter.unusedSimpArgs false
set_option linter.unusedVariables false
namespace Go.Proofs.YtdaaamdighojdaaDoor
open Go.RowKit Go.Sort

/-- What the walk needs of a monomial. -/
def MonFine (n : Nat) (m : MonZ) : Prop := (0 ≤ m.coef ∧ m.coef ≤ 1000000270) ∧ m.pows.length = n ∧ 0 ≤ degZ m.pows ∧ ∀ x ∈ m.pows, 0 ≤ x ∧ x ≤ 5
theorem polyOk_facts {p : List MonZ} {n : Nat} (h : polyOkB p n = true) : 1 ≤ n ∧ n ≤ 6 ∧ p.length ≤ 12 ∧ ∀ m ∈ p, MonFine n m := by
  simp only [polyOkB, Bool.and_eq_true, decide_eq_true_eq, List.all_eq_true, List.mem_range, dimB] at h
  obtain ⟨⟨⟨h1, h2⟩, h3⟩, h4⟩ := h
  refine ⟨by omega, by omega, h3, fun m hm => ?_⟩
  obtain ⟨i, hi, rfl⟩ := List.getElem_of_mem hm
  have h5 := h4 i hi
  have hm' : monOkB (n : Int) p[i] = true := by
    cases hb : monOkB (n : Int) p[i] with
    | true => rfl
    | false => rw [stepOk_mon (List.getElem?_eq_getElem hi) hb] at h5; exact absurd h5 (by simp)
  simp only [monOkB, Bool.and_eq_true, decide_eq_true_eq, isNumB] at hm'
  obtain ⟨⟨⟨h6, h7⟩, h8⟩, h9, h10⟩ := hm'
  refine ⟨by omega, by omega, h9, fun x hx => ?_⟩
  unfold degZ at h9
  split at h9
  · rename_i hall
    have := List.all_eq_true.1 hall x hx
    simpa [powIn] using this
  · omega
theorem fldOk_parts {f : FldZ} (h : fldOkB f = true) : ∃ n : Nat, f.dim = n ∧ f.parts.length = n ∧ 1 ≤ n ∧ n ≤ 6 ∧ ∀ p ∈ f.parts, p.length ≤ 12 ∧ ∀ m ∈ p, MonFine n m := by
  simp only [fldOkB, Bool.and_eq_true, decide_eq_true_eq, dimB, List.all_eq_true] at h
  obtain ⟨⟨⟨h1, h2⟩, h3⟩, h4⟩ := h
  refine ⟨f.parts.length, h3.symm, rfl, by omega, by omega, fun p hp => ?_⟩
  have h5 := h4 p hp
  rw [← h3] at h5
  have := polyOk_facts h5
  exact ⟨this.2.2.1, this.2.2.2⟩
end Go.Proofs.YtdaaamdighojdaaDoor
