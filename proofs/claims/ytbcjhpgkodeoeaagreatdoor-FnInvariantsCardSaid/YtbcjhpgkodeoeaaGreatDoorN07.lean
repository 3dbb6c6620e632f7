/- Drawn tableaus with elements below the diagonal, or everywhere. Conditions: a cursor. -/
import Derived.Deep.RegionLaw
import Derived.Test.YtbcjhpgkodeoeaaGreatDoorN06
import Derived.Test.YtbcjhpgkodeoeaaGreatDoorN05
set_option linter.unusedSimpArgs false
set_option linter.unusedVariables false

namespace Go.Proofs.YtbcjhpgkodeoeaaGreatDoor
open Go.RowKit

theorem Drawn.newer {g : Nat} {f : List Nat} {a b c : World} (hd : Drawn g a b) (hg : g < a.heap.size) (ho : Only f b c) (hf : ∀ x ∈ f, a.heap.size ≤ x) : Drawn g a c :=
  ⟨Only.newer hd.only ho hf, hd.cur.only ho (fun hm => by have := hf g hm; omega) (fun b hb => by have := hf b hb; omega)⟩
end Go.Proofs.YtbcjhpgkodeoeaaGreatDoor
