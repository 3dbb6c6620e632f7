/- The adjoint of a tableau, in plain lists. Conditions: none. -/
import Derived.Test.YtkmcpcbfoiflbaaTOk
set_option linter.unusedSimpArgs false
set_option linter.unusedVariables false
namespace Go.Proofs.Ytkmcpcbfoiflbaa
open Go.RowKit Go.Sort

/-- A of the adjoint, for n stages -/
def adjA (n : Nat) (A B : List Int) : List Int := (List.range (n * n)).map fun k => minusZ (atZ B (n - 1 - k % n)) (atZ A (n * n - 1 - k))
theorem adjA_len (n : Nat) (A B : List Int) : (adjA n A B).length = n * n := by simp [adjA]
theorem adjA_nums (n : Nat) (A B : List Int) : ∀ x ∈ adjA n A B, 0 ≤ x ∧ x ≤ 1000000270 := by
  intro x hx
  simp only [adjA, List.mem_map] at hx
  obtain ⟨k, _, rfl⟩ := hx
  exact minusZ_bd _ _
/-- the place that the program fills from i and j -/
theorem adj_place {n i j : Nat} (hi : i < n) (hj : j < n) : (n - 1 - i) * n + (n - 1 - j) < n * n ∧ ((n - 1 - i) * n + (n - 1 - j)) % n = n - 1 - j ∧ n * n - 1 - ((n - 1 - i) * n + (n - 1 - j)) = i * n + j := by
  have h1 : (n - 1 - i) * n + (i + 1) * n = n * n := by
    rw [← Nat.add_mul]
    congr 1
    omega
  have h2 : (i + 1) * n = i * n + n := Nat.succ_mul _ _
  refine ⟨by omega, ?_, by omega⟩
  rw [Nat.add_comm, Nat.mul_comm, Nat.add_mul_mod_self_left, Nat.mod_eq_of_lt (by omega)]
theorem adjA_at {n i j : Nat} (hi : i < n) (hj : j < n) (A B : List Int) : (adjA n A B)[(n - 1 - i) * n + (n - 1 - j)]? = some (minusZ (atZ B j) (atZ A (i * n + j))) := by
  obtain ⟨h1, h2, h3⟩ := adj_place hi hj
  rw [adjA, List.getElem?_map, List.getElem?_range h1]
  simp only [Option.map_some, h2, h3]
  congr 2
  congr 1
  omega
def symB (t : TabZ) : Bool := tabOkB t && decide (adjA t.B.length t.A t.B = t.A) && decide (t.B.reverse = t.B)
/-- a list filled from the right: the last m are done -/
def fromR (l : List Int) (m : Nat) : List Int := List.replicate (l.length - m) 0 ++ l.drop (l.length - m)
theorem fromR_len (l : List Int) (m : Nat) : (fromR l m).length = l.length := by simp [fromR]
theorem fromR_zero (l : List Int) : fromR l 0 = List.replicate l.length 0 := by simp [fromR]
theorem fromR_done (l : List Int) : fromR l l.length = l := by simp [fromR]
theorem fromR_next {l : List Int} {m : Nat} (hm : m < l.length) {x : Int} (hx : l[l.length - 1 - m]? = some x) : (fromR l m).set (l.length - 1 - m) x = fromR l (m + 1) := by
  have e : l.length - m = (l.length - 1 - m) + 1 := by omega
  have e2 : l.length - (m + 1) = l.length - 1 - m := by omega
  unfold fromR
  rw [e2, e, List.replicate_succ', List.append_assoc, List.set_append_right _ _ (by simp)]
  simp only [List.length_replicate, Nat.sub_self, List.cons_append, List.nil_append, List.set_cons_zero]
  obtain ⟨h, rfl⟩ := List.getElem?_eq_some_iff.1 hx
  rw [List.drop_eq_getElem_cons h]
end Go.Proofs.Ytkmcpcbfoiflbaa
