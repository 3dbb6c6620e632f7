/-
  No cell of these rows narrows 'for every input' (looked for: loops, veiled, ifaces, maps, wideKeys, modest, calm, conditions, laid).
  DERIVED. THE GIVEN ROWS OF THIS SEAT. 6 by the template 'for every input the law returns true; each argument reads behind the call as it read before'; 0 by the template 'total and deterministic' (their statements: YtkmcpcbfoiflbaaTotals.lean).
  GIVEN WITH THE SEED: the statements are not yours to turn. If you find one false, say at which input.
  Laid BY PROGRAM, IN A SANDBOX (cutbox-rows.mjs): the forced cells as the released guide's own fill.sh prints them over the translation e0bfba1725ded87a… (all of the seat's roots in one cut). By AI agents, Wed Nov 11 2026. No macro, syntax, notation, axiom, sorry.
-/
import Derived.Test.YtkmcpcbfoiflbaaChecked
import GoSem.Claim
import GoSem.ClaimJoined
import GoSem.ClaimMapViews
import Derived.JoinedTies
import Derived.KernelRfl
namespace Go.Proofs.Ytkmcpcbfoiflbaa
/- THE CELL 'sum', in the pinned program and in every row, IS THE sha256 OF THE DUMP (.gsa) THAT YtkmcpcbfoiflbaaProg.lean LOADS. Nothing in Lean hashes anything: it is a label: what it is worth is what the hold of that sum in a sandbox is worth. -/
noncomputable def Try.pinned : Pinned := { name := "ytkmcpcbfoiflbaa", sum := "e0bfba1725ded87a5c704ed3a55be6f0f91cab63d717628407e7b91d3db351d8", checked := Try.checked }
namespace Rows
def none {H : Type} : Left H := { results := [], args := [] }

/-- 'laws.FnExactPathOk': WHATEVER THE INPUT: true; the input reads as it did. -/
def fnExactPathOkSpec : ChangeSpec := { name := "fnExactPathOk", fn := fun _ => fun
  | [d1, d2] => { results := [.lit (.bool true)], args := [d1, d2] }
  | _ => none }
def fnExactPathOkRow : OpenClaim := { program := "ytkmcpcbfoiflbaa", sum := "e0bfba1725ded87a5c704ed3a55be6f0f91cab63d717628407e7b91d3db351d8", func := "loop.example/g03110/laws.FnExactPathOk", spec := "fnExactPathOk", apart := false }
def FnExactPathOkSaid : Prop := fnExactPathOkRow.holds Try.pinned (OpenSpec.ofChange fnExactPathOkSpec)

/-- ITS FALSE NEIGHBOUR: 'it returns false'. Refute it at one input. -/
def fnExactPathOkWrong : ChangeSpec := { name := "fnExactPathOk", fn := fun _ => fun
  | [d1, d2] => { results := [.lit (.bool false)], args := [d1, d2] }
  | _ => none }
def FnExactPathOkWrongFalsely : Prop := fnExactPathOkRow.holds Try.pinned (OpenSpec.ofChange fnExactPathOkWrong)

/-- 'laws.FnExactIsSymplecticTableau': WHATEVER THE INPUT: true; the input reads as it did. -/
def fnExactIsSymplecticTableauSpec : ChangeSpec := { name := "fnExactIsSymplecticTableau", fn := fun _ => fun
  | [d] => { results := [.lit (.bool true)], args := [d] }
  | _ => none }
def fnExactIsSymplecticTableauRow : OpenClaim := { program := "ytkmcpcbfoiflbaa", sum := "e0bfba1725ded87a5c704ed3a55be6f0f91cab63d717628407e7b91d3db351d8", func := "loop.example/g03110/laws.FnExactIsSymplecticTableau", spec := "fnExactIsSymplecticTableau", apart := false }
def FnExactIsSymplecticTableauSaid : Prop := fnExactIsSymplecticTableauRow.holds Try.pinned (OpenSpec.ofChange fnExactIsSymplecticTableauSpec)

/-- ITS FALSE NEIGHBOUR: 'it returns false'. Refute it at one input. -/
def fnExactIsSymplecticTableauWrong : ChangeSpec := { name := "fnExactIsSymplecticTableau", fn := fun _ => fun
  | [d] => { results := [.lit (.bool false)], args := [d] }
  | _ => none }
def FnExactIsSymplecticTableauWrongFalsely : Prop := fnExactIsSymplecticTableauRow.holds Try.pinned (OpenSpec.ofChange fnExactIsSymplecticTableauWrong)

/-- 'laws.FnExactRotorField': WHATEVER THE INPUT: true; the input reads as it did. -/
def fnExactRotorFieldSpec : ChangeSpec := { name := "fnExactRotorField", fn := fun _ => fun
  | [d1, d2, d3] => { results := [.lit (.bool true)], args := [d1, d2, d3] }
  | _ => none }
def fnExactRotorFieldRow : OpenClaim := { program := "ytkmcpcbfoiflbaa", sum := "e0bfba1725ded87a5c704ed3a55be6f0f91cab63d717628407e7b91d3db351d8", func := "loop.example/g03110/laws.FnExactRotorField", spec := "fnExactRotorField", apart := false }
def FnExactRotorFieldSaid : Prop := fnExactRotorFieldRow.holds Try.pinned (OpenSpec.ofChange fnExactRotorFieldSpec)

/-- ITS FALSE NEIGHBOUR: 'it returns false'. Refute it at one input. -/
def fnExactRotorFieldWrong : ChangeSpec := { name := "fnExactRotorField", fn := fun _ => fun
  | [d1, d2, d3] => { results := [.lit (.bool false)], args := [d1, d2, d3] }
  | _ => none }
def FnExactRotorFieldWrongFalsely : Prop := fnExactRotorFieldRow.holds Try.pinned (OpenSpec.ofChange fnExactRotorFieldWrong)

/-- 'laws.FnExactIsSymmetricTableau': WHATEVER THE INPUT: true; the input reads as it did. -/
def fnExactIsSymmetricTableauSpec : ChangeSpec := { name := "fnExactIsSymmetricTableau", fn := fun _ => fun
  | [d] => { results := [.lit (.bool true)], args := [d] }
  | _ => none }
def fnExactIsSymmetricTableauRow : OpenClaim := { program := "ytkmcpcbfoiflbaa", sum := "e0bfba1725ded87a5c704ed3a55be6f0f91cab63d717628407e7b91d3db351d8", func := "loop.example/g03110/laws.FnExactIsSymmetricTableau", spec := "fnExactIsSymmetricTableau", apart := false }
def FnExactIsSymmetricTableauSaid : Prop := fnExactIsSymmetricTableauRow.holds Try.pinned (OpenSpec.ofChange fnExactIsSymmetricTableauSpec)

/-- ITS FALSE NEIGHBOUR: 'it returns false'. Refute it at one input. -/
def fnExactIsSymmetricTableauWrong : ChangeSpec := { name := "fnExactIsSymmetricTableau", fn := fun _ => fun
  | [d] => { results := [.lit (.bool false)], args := [d] }
  | _ => none }
def FnExactIsSymmetricTableauWrongFalsely : Prop := fnExactIsSymmetricTableauRow.holds Try.pinned (OpenSpec.ofChange fnExactIsSymmetricTableauWrong)

/-- 'laws.FnExactPathAt': WHATEVER THE INPUT: true; the input reads as it did. -/
def fnExactPathAtSpec : ChangeSpec := { name := "fnExactPathAt", fn := fun _ => fun
  | [d1, d2] => { results := [.lit (.bool true)], args := [d1, d2] }
  | _ => none }
def fnExactPathAtRow : OpenClaim := { program := "ytkmcpcbfoiflbaa", sum := "e0bfba1725ded87a5c704ed3a55be6f0f91cab63d717628407e7b91d3db351d8", func := "loop.example/g03110/laws.FnExactPathAt", spec := "fnExactPathAt", apart := false }
def FnExactPathAtSaid : Prop := fnExactPathAtRow.holds Try.pinned (OpenSpec.ofChange fnExactPathAtSpec)

/-- ITS FALSE NEIGHBOUR: 'it returns false'. Refute it at one input. -/
def fnExactPathAtWrong : ChangeSpec := { name := "fnExactPathAt", fn := fun _ => fun
  | [d1, d2] => { results := [.lit (.bool false)], args := [d1, d2] }
  | _ => none }
def FnExactPathAtWrongFalsely : Prop := fnExactPathAtRow.holds Try.pinned (OpenSpec.ofChange fnExactPathAtWrong)

/-- 'laws.FnExactPolynomialOk': WHATEVER THE INPUT: true; the input reads as it did. -/
def fnExactPolynomialOkSpec : ChangeSpec := { name := "fnExactPolynomialOk", fn := fun _ => fun
  | [d1, d2] => { results := [.lit (.bool true)], args := [d1, d2] }
  | _ => none }
def fnExactPolynomialOkRow : OpenClaim := { program := "ytkmcpcbfoiflbaa", sum := "e0bfba1725ded87a5c704ed3a55be6f0f91cab63d717628407e7b91d3db351d8", func := "loop.example/g03110/laws.FnExactPolynomialOk", spec := "fnExactPolynomialOk", apart := false }
def FnExactPolynomialOkSaid : Prop := fnExactPolynomialOkRow.holds Try.pinned (OpenSpec.ofChange fnExactPolynomialOkSpec)

/-- ITS FALSE NEIGHBOUR: 'it returns false'. Refute it at one input. -/
def fnExactPolynomialOkWrong : ChangeSpec := { name := "fnExactPolynomialOk", fn := fun _ => fun
  | [d1, d2] => { results := [.lit (.bool false)], args := [d1, d2] }
  | _ => none }
def FnExactPolynomialOkWrongFalsely : Prop := fnExactPolynomialOkRow.holds Try.pinned (OpenSpec.ofChange fnExactPolynomialOkWrong)

/- THE SECOND FORM. 'bulk': how many values and letters a reading holds, each counted each time it is reached (what is shared counts as often as it is met; a slice's spare places count too). A statement '..UptoSaid' is the law's where the arguments, and the package variables that the reading takes, are together of bulk at most 1048576: NARROWER than '..Said'. Prove '..Said' where nothing that the law and all that it calls make is longer than what came in: it says more and counts as full. Else prove '..UptoSaid'. A law counts once. -/
mutual
def uptoBulk {H : Type} : DataW H → Nat
  | .lit (.string bytes) => bytes.length + 1
  | .lit _ => 1
  | .nil => 1
  | .ptr d => uptoBulk d + 1
  | .slice elems spare => uptoBulkAll elems + uptoBulkAll spare + 1
  | .agg parts => uptoBulkAll parts + 1
  | .iface _ d => uptoBulk d + 1
  | .map entries => uptoBulkEntries entries + 1
  | .held _ => 1
def uptoBulkAll {H : Type} : List (DataW H) → Nat
  | [] => 0
  | d :: r => uptoBulk d + uptoBulkAll r
def uptoBulkEntries {H : Type} : List (Lit × DataW H) → Nat
  | [] => 0
  | x :: r => uptoBulkEntry x + uptoBulkEntries r
def uptoBulkEntry {H : Type} : Lit × DataW H → Nat
  | (.string bytes, d) => bytes.length + uptoBulk d + 1
  | (_, d) => uptoBulk d + 1
 end
def uptoSmall : (H : Type) → List (DataW H) → Bool := fun _ ds => decide (uptoBulkAll ds ≤ 1048576)
def OpenSpec.upto (s : _root_.Go.ChangeSpec) : _root_.Go.OpenSpec := { _root_.Go.OpenSpec.ofChange s with cond := some uptoSmall }

/-- 'laws.FnExactPathOk', WHERE WHAT IT READS IS OF BULK AT MOST 1048576: true; the input reads as it did. -/
def fnExactPathOkUptoRow : OpenClaim := { program := "ytkmcpcbfoiflbaa", sum := "e0bfba1725ded87a5c704ed3a55be6f0f91cab63d717628407e7b91d3db351d8", func := "loop.example/g03110/laws.FnExactPathOk", spec := "fnExactPathOk", apart := false, narrowed := true }
def FnExactPathOkUptoSaid : Prop := fnExactPathOkUptoRow.holds Try.pinned (OpenSpec.upto fnExactPathOkSpec)

/-- 'laws.FnExactIsSymplecticTableau', WHERE WHAT IT READS IS OF BULK AT MOST 1048576: true; the input reads as it did. -/
def fnExactIsSymplecticTableauUptoRow : OpenClaim := { program := "ytkmcpcbfoiflbaa", sum := "e0bfba1725ded87a5c704ed3a55be6f0f91cab63d717628407e7b91d3db351d8", func := "loop.example/g03110/laws.FnExactIsSymplecticTableau", spec := "fnExactIsSymplecticTableau", apart := false, narrowed := true }
def FnExactIsSymplecticTableauUptoSaid : Prop := fnExactIsSymplecticTableauUptoRow.holds Try.pinned (OpenSpec.upto fnExactIsSymplecticTableauSpec)

/-- 'laws.FnExactRotorField', WHERE WHAT IT READS IS OF BULK AT MOST 1048576: true; the input reads as it did. -/
def fnExactRotorFieldUptoRow : OpenClaim := { program := "ytkmcpcbfoiflbaa", sum := "e0bfba1725ded87a5c704ed3a55be6f0f91cab63d717628407e7b91d3db351d8", func := "loop.example/g03110/laws.FnExactRotorField", spec := "fnExactRotorField", apart := false, narrowed := true }
def FnExactRotorFieldUptoSaid : Prop := fnExactRotorFieldUptoRow.holds Try.pinned (OpenSpec.upto fnExactRotorFieldSpec)

/-- 'laws.FnExactIsSymmetricTableau', WHERE WHAT IT READS IS OF BULK AT MOST 1048576: true; the input reads as it did. -/
def fnExactIsSymmetricTableauUptoRow : OpenClaim := { program := "ytkmcpcbfoiflbaa", sum := "e0bfba1725ded87a5c704ed3a55be6f0f91cab63d717628407e7b91d3db351d8", func := "loop.example/g03110/laws.FnExactIsSymmetricTableau", spec := "fnExactIsSymmetricTableau", apart := false, narrowed := true }
def FnExactIsSymmetricTableauUptoSaid : Prop := fnExactIsSymmetricTableauUptoRow.holds Try.pinned (OpenSpec.upto fnExactIsSymmetricTableauSpec)

/-- 'laws.FnExactPathAt', WHERE WHAT IT READS IS OF BULK AT MOST 1048576: true; the input reads as it did. -/
def fnExactPathAtUptoRow : OpenClaim := { program := "ytkmcpcbfoiflbaa", sum := "e0bfba1725ded87a5c704ed3a55be6f0f91cab63d717628407e7b91d3db351d8", func := "loop.example/g03110/laws.FnExactPathAt", spec := "fnExactPathAt", apart := false, narrowed := true }
def FnExactPathAtUptoSaid : Prop := fnExactPathAtUptoRow.holds Try.pinned (OpenSpec.upto fnExactPathAtSpec)

/-- 'laws.FnExactPolynomialOk', WHERE WHAT IT READS IS OF BULK AT MOST 1048576: true; the input reads as it did. -/
def fnExactPolynomialOkUptoRow : OpenClaim := { program := "ytkmcpcbfoiflbaa", sum := "e0bfba1725ded87a5c704ed3a55be6f0f91cab63d717628407e7b91d3db351d8", func := "loop.example/g03110/laws.FnExactPolynomialOk", spec := "fnExactPolynomialOk", apart := false, narrowed := true }
def FnExactPolynomialOkUptoSaid : Prop := fnExactPolynomialOkUptoRow.holds Try.pinned (OpenSpec.upto fnExactPolynomialOkSpec)

end Rows
end Go.Proofs.Ytkmcpcbfoiflbaa
