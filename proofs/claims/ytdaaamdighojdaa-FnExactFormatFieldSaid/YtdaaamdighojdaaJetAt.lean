/- Jets of a path, the number of coordinates in any spelling. Conditions: as for the jets. -/
import Derived.Test.YtdaaamdighojdaaJet
set_option linter.unusedSimpArgs false
set_option linter.unusedVariables false
namespace Go.Proofs.Ytdaaamdighojdaa
open Go.RowKit Go.Sort

theorem jets_at (v : Value) (xs : List (List Int)) (n : Nat) (nz : Int) (w : World) (hz : nz = (n : Int)) (h : RdII w v xs) (hn : n ≤ 2097152) (hx7 : xs.length ≤ 7) (hrow : ∀ y ∈ xs, y.length = n) :
    Calls Try.prog 64 #[v, .int .i64 nz] w (Gives (fun w' v fp => OwnII 78 3 w' v (turnZ xs n) fp) w) := by
  subst hz
  exact jets_any v xs n w h hn hx7 hrow

end Go.Proofs.Ytdaaamdighojdaa
