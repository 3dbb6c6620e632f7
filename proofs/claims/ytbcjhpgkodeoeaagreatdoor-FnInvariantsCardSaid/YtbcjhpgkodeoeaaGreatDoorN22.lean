/- The reference's reduction of rows. Conditions: rows of one length, of numbers. -/
import Derived.Deep.Cut
import Derived.Deep.CutRange
import Derived.Test.YtbcjhpgkodeoeaaGreatDoorN21
import Derived.Test.YtbcjhpgkodeoeaaGreatDoorN04
set_option linter.unusedSimpArgs false
set_option linter.unusedVariables false

namespace Go.Proofs.YtbcjhpgkodeoeaaGreatDoor
open Go.RowKit

def natsZ (l : List Nat) : List Int := l.map fun (n : Nat) => (n : Int)
/-- What a reduction leaves. -/
def Reduced (rows : List (List Int)) (cols : Nat) (v : Value) (fp : List Nat) (w : World) : Ending → World → Prop := fun e w' =>
  ∃ va fa fp', e = .returned va ∧ OwnI 3 w' va (natsZ (redS rows cols).2) fa ∧ OwnII 35 3 w' v (redS rows cols).1 fp' ∧ (∀ b ∈ fp', b ∈ fp) ∧ (∀ b ∈ fa, w.heap.size ≤ b) ∧ Only fp w w'
theorem rows_get {c : Nat} {m : List (List Int)} (h : RowsOk c m) {i : Nat} (hi : i < m.length) : m[i]? = some (atL m i) ∧ (atL m i).length = c ∧ Nums (atL m i) := by
  have := List.getElem?_eq_getElem hi
  rw [atL_get this]
  have h2 := h i hi
  rw [atL_get this] at h2
  exact ⟨this, h2⟩
theorem set_atL {m : List (List Int)} {i : Nat} (h : i < m.length) : m.set i (atL m i) = m := by
  have := List.getElem?_eq_getElem h
  rw [atL_get this]
  exact List.set_getElem_self h
theorem row_get {r : List Int} {k : Nat} (hk : k < r.length) : r[k]? = some (atZ r k) := by
  rw [atZ_get (List.getElem?_eq_getElem hk)]
  exact List.getElem?_eq_getElem hk

end Go.Proofs.YtbcjhpgkodeoeaaGreatDoor
