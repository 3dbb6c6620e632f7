/-
  No cell of these rows narrows 'for every input' (looked for: loops, veiled, ifaces, maps, wideKeys, modest, calm, conditions, laid).
  DERIVED. THE GIVEN ROWS OF THIS SEAT. 11 by the template 'for every input the law returns true; each argument reads behind the call as it read before'; 0 by the template 'total and deterministic' (their statements: YtdaaamdighojdaaTotals.lean).
  GIVEN WITH THE SEED: the statements are not yours to turn. If you find one false, say at which input.
  Laid BY PROGRAM, IN A SANDBOX (cutbox-rows.mjs): the forced cells as the released guide's own fill.sh prints them over the translation be990ea884c62c43… (all of the seat's roots in one cut). By AI agents, Wed Nov 11 2026. No macro, syntax, notation, axiom, sorry.
-/
import Derived.Test.YtdaaamdighojdaaChecked
import GoSem.Claim
import GoSem.ClaimJoined
import GoSem.ClaimMapViews
import Derived.JoinedTies
import Derived.KernelRfl
namespace Go.Proofs.Ytdaaamdighojdaa
/- THE CELL 'sum', in the pinned program and in every row, IS THE sha256 OF THE DUMP (.gsa) THAT YtdaaamdighojdaaProg.lean LOADS. Nothing in Lean hashes anything: it is a label: what it is worth is what the hold of that sum in a sandbox is worth. -/
noncomputable def Try.pinned : Pinned := { name := "ytdaaamdighojdaa", sum := "be990ea884c62c43540c24687c530348283300ca50a2b5f457216e9f4c696f87", checked := Try.checked }
namespace Rows
def none {H : Type} : Left H := { results := [], args := [] }

/-- 'laws.FnExactSymplecticForm': WHATEVER THE INPUT: true; the input reads as it did. -/
def fnExactSymplecticFormSpec : ChangeSpec := { name := "fnExactSymplecticForm", fn := fun _ => fun
  | [d1, d2] => { results := [.lit (.bool true)], args := [d1, d2] }
  | _ => none }
def fnExactSymplecticFormRow : OpenClaim := { program := "ytdaaamdighojdaa", sum := "be990ea884c62c43540c24687c530348283300ca50a2b5f457216e9f4c696f87", func := "loop.example/g03110/laws.FnExactSymplecticForm", spec := "fnExactSymplecticForm", apart := false }
def FnExactSymplecticFormSaid : Prop := fnExactSymplecticFormRow.holds Try.pinned (OpenSpec.ofChange fnExactSymplecticFormSpec)

/-- ITS FALSE NEIGHBOUR: 'it returns false'. Refute it at one input. -/
def fnExactSymplecticFormWrong : ChangeSpec := { name := "fnExactSymplecticForm", fn := fun _ => fun
  | [d1, d2] => { results := [.lit (.bool false)], args := [d1, d2] }
  | _ => none }
def FnExactSymplecticFormWrongFalsely : Prop := fnExactSymplecticFormRow.holds Try.pinned (OpenSpec.ofChange fnExactSymplecticFormWrong)

/-- 'laws.FnExactFieldOk': WHATEVER THE INPUT: true; the input reads as it did. -/
def fnExactFieldOkSpec : ChangeSpec := { name := "fnExactFieldOk", fn := fun _ => fun
  | [d] => { results := [.lit (.bool true)], args := [d] }
  | _ => none }
def fnExactFieldOkRow : OpenClaim := { program := "ytdaaamdighojdaa", sum := "be990ea884c62c43540c24687c530348283300ca50a2b5f457216e9f4c696f87", func := "loop.example/g03110/laws.FnExactFieldOk", spec := "fnExactFieldOk", apart := false }
def FnExactFieldOkSaid : Prop := fnExactFieldOkRow.holds Try.pinned (OpenSpec.ofChange fnExactFieldOkSpec)

/-- ITS FALSE NEIGHBOUR: 'it returns false'. Refute it at one input. -/
def fnExactFieldOkWrong : ChangeSpec := { name := "fnExactFieldOk", fn := fun _ => fun
  | [d] => { results := [.lit (.bool false)], args := [d] }
  | _ => none }
def FnExactFieldOkWrongFalsely : Prop := fnExactFieldOkRow.holds Try.pinned (OpenSpec.ofChange fnExactFieldOkWrong)

/-- 'laws.FnExactHamiltonField': WHATEVER THE INPUT: true; the input reads as it did. -/
def fnExactHamiltonFieldSpec : ChangeSpec := { name := "fnExactHamiltonField", fn := fun _ => fun
  | [d1, d2] => { results := [.lit (.bool true)], args := [d1, d2] }
  | _ => none }
def fnExactHamiltonFieldRow : OpenClaim := { program := "ytdaaamdighojdaa", sum := "be990ea884c62c43540c24687c530348283300ca50a2b5f457216e9f4c696f87", func := "loop.example/g03110/laws.FnExactHamiltonField", spec := "fnExactHamiltonField", apart := false }
def FnExactHamiltonFieldSaid : Prop := fnExactHamiltonFieldRow.holds Try.pinned (OpenSpec.ofChange fnExactHamiltonFieldSpec)

/-- ITS FALSE NEIGHBOUR: 'it returns false'. Refute it at one input. -/
def fnExactHamiltonFieldWrong : ChangeSpec := { name := "fnExactHamiltonField", fn := fun _ => fun
  | [d1, d2] => { results := [.lit (.bool false)], args := [d1, d2] }
  | _ => none }
def FnExactHamiltonFieldWrongFalsely : Prop := fnExactHamiltonFieldRow.holds Try.pinned (OpenSpec.ofChange fnExactHamiltonFieldWrong)

/-- 'laws.FnExactPolynomialAlong': WHATEVER THE INPUT: true; the input reads as it did. -/
def fnExactPolynomialAlongSpec : ChangeSpec := { name := "fnExactPolynomialAlong", fn := fun _ => fun
  | [d1, d2] => { results := [.lit (.bool true)], args := [d1, d2] }
  | _ => none }
def fnExactPolynomialAlongRow : OpenClaim := { program := "ytdaaamdighojdaa", sum := "be990ea884c62c43540c24687c530348283300ca50a2b5f457216e9f4c696f87", func := "loop.example/g03110/laws.FnExactPolynomialAlong", spec := "fnExactPolynomialAlong", recurses := true, apart := false }
def FnExactPolynomialAlongSaid : Prop := fnExactPolynomialAlongRow.holds Try.pinned (OpenSpec.ofChange fnExactPolynomialAlongSpec)

/-- ITS FALSE NEIGHBOUR: 'it returns false'. Refute it at one input. -/
def fnExactPolynomialAlongWrong : ChangeSpec := { name := "fnExactPolynomialAlong", fn := fun _ => fun
  | [d1, d2] => { results := [.lit (.bool false)], args := [d1, d2] }
  | _ => none }
def FnExactPolynomialAlongWrongFalsely : Prop := fnExactPolynomialAlongRow.holds Try.pinned (OpenSpec.ofChange fnExactPolynomialAlongWrong)

/-- 'laws.FnExactFormatField': WHATEVER THE INPUT: true; the input reads as it did. -/
def fnExactFormatFieldSpec : ChangeSpec := { name := "fnExactFormatField", fn := fun _ => fun
  | [d] => { results := [.lit (.bool true)], args := [d] }
  | _ => none }
def fnExactFormatFieldRow : OpenClaim := { program := "ytdaaamdighojdaa", sum := "be990ea884c62c43540c24687c530348283300ca50a2b5f457216e9f4c696f87", func := "loop.example/g03110/laws.FnExactFormatField", spec := "fnExactFormatField", inPlace := ["internal/abi.NoEscape", "internal/bytealg.MakeNoZero"], recurses := true, apart := false }
def FnExactFormatFieldSaid : Prop := fnExactFormatFieldRow.holds Try.pinned (OpenSpec.ofChange fnExactFormatFieldSpec)

/-- ITS FALSE NEIGHBOUR: 'it returns false'. Refute it at one input. -/
def fnExactFormatFieldWrong : ChangeSpec := { name := "fnExactFormatField", fn := fun _ => fun
  | [d] => { results := [.lit (.bool false)], args := [d] }
  | _ => none }
def FnExactFormatFieldWrongFalsely : Prop := fnExactFormatFieldRow.holds Try.pinned (OpenSpec.ofChange fnExactFormatFieldWrong)

/-- 'laws.FnExactValueAlong': WHATEVER THE INPUT: true; the input reads as it did. -/
def fnExactValueAlongSpec : ChangeSpec := { name := "fnExactValueAlong", fn := fun _ => fun
  | [d1, d2] => { results := [.lit (.bool true)], args := [d1, d2] }
  | _ => none }
def fnExactValueAlongRow : OpenClaim := { program := "ytdaaamdighojdaa", sum := "be990ea884c62c43540c24687c530348283300ca50a2b5f457216e9f4c696f87", func := "loop.example/g03110/laws.FnExactValueAlong", spec := "fnExactValueAlong", recurses := true, apart := false }
def FnExactValueAlongSaid : Prop := fnExactValueAlongRow.holds Try.pinned (OpenSpec.ofChange fnExactValueAlongSpec)

/-- ITS FALSE NEIGHBOUR: 'it returns false'. Refute it at one input. -/
def fnExactValueAlongWrong : ChangeSpec := { name := "fnExactValueAlong", fn := fun _ => fun
  | [d1, d2] => { results := [.lit (.bool false)], args := [d1, d2] }
  | _ => none }
def FnExactValueAlongWrongFalsely : Prop := fnExactValueAlongRow.holds Try.pinned (OpenSpec.ofChange fnExactValueAlongWrong)

/-- 'laws.FnExactDerivativeAt': WHATEVER THE INPUT: true; the input reads as it did. -/
def fnExactDerivativeAtSpec : ChangeSpec := { name := "fnExactDerivativeAt", fn := fun _ => fun
  | [d1, d2, d3] => { results := [.lit (.bool true)], args := [d1, d2, d3] }
  | _ => none }
def fnExactDerivativeAtRow : OpenClaim := { program := "ytdaaamdighojdaa", sum := "be990ea884c62c43540c24687c530348283300ca50a2b5f457216e9f4c696f87", func := "loop.example/g03110/laws.FnExactDerivativeAt", spec := "fnExactDerivativeAt", recurses := true, apart := false }
def FnExactDerivativeAtSaid : Prop := fnExactDerivativeAtRow.holds Try.pinned (OpenSpec.ofChange fnExactDerivativeAtSpec)

/-- ITS FALSE NEIGHBOUR: 'it returns false'. Refute it at one input. -/
def fnExactDerivativeAtWrong : ChangeSpec := { name := "fnExactDerivativeAt", fn := fun _ => fun
  | [d1, d2, d3] => { results := [.lit (.bool false)], args := [d1, d2, d3] }
  | _ => none }
def FnExactDerivativeAtWrongFalsely : Prop := fnExactDerivativeAtRow.holds Try.pinned (OpenSpec.ofChange fnExactDerivativeAtWrong)

/-- 'laws.FnExactKeepsPolynomial': WHATEVER THE INPUT: true; the input reads as it did. -/
def fnExactKeepsPolynomialSpec : ChangeSpec := { name := "fnExactKeepsPolynomial", fn := fun _ => fun
  | [d1, d2] => { results := [.lit (.bool true)], args := [d1, d2] }
  | _ => none }
def fnExactKeepsPolynomialRow : OpenClaim := { program := "ytdaaamdighojdaa", sum := "be990ea884c62c43540c24687c530348283300ca50a2b5f457216e9f4c696f87", func := "loop.example/g03110/laws.FnExactKeepsPolynomial", spec := "fnExactKeepsPolynomial", unfollowed := true, recurses := true, apart := false }
def FnExactKeepsPolynomialSaid : Prop := fnExactKeepsPolynomialRow.holds Try.pinned (OpenSpec.ofChange fnExactKeepsPolynomialSpec)

/-- ITS FALSE NEIGHBOUR: 'it returns false'. Refute it at one input. -/
def fnExactKeepsPolynomialWrong : ChangeSpec := { name := "fnExactKeepsPolynomial", fn := fun _ => fun
  | [d1, d2] => { results := [.lit (.bool false)], args := [d1, d2] }
  | _ => none }
def FnExactKeepsPolynomialWrongFalsely : Prop := fnExactKeepsPolynomialRow.holds Try.pinned (OpenSpec.ofChange fnExactKeepsPolynomialWrong)

/-- 'laws.FnExactExactPath': WHATEVER THE INPUT: true; the input reads as it did. -/
def fnExactExactPathSpec : ChangeSpec := { name := "fnExactExactPath", fn := fun _ => fun
  | [d1, d2, d3, d4] => { results := [.lit (.bool true)], args := [d1, d2, d3, d4] }
  | _ => none }
def fnExactExactPathRow : OpenClaim := { program := "ytdaaamdighojdaa", sum := "be990ea884c62c43540c24687c530348283300ca50a2b5f457216e9f4c696f87", func := "loop.example/g03110/laws.FnExactExactPath", spec := "fnExactExactPath", recurses := true, apart := false }
def FnExactExactPathSaid : Prop := fnExactExactPathRow.holds Try.pinned (OpenSpec.ofChange fnExactExactPathSpec)

/-- ITS FALSE NEIGHBOUR: 'it returns false'. Refute it at one input. -/
def fnExactExactPathWrong : ChangeSpec := { name := "fnExactExactPath", fn := fun _ => fun
  | [d1, d2, d3, d4] => { results := [.lit (.bool false)], args := [d1, d2, d3, d4] }
  | _ => none }
def FnExactExactPathWrongFalsely : Prop := fnExactExactPathRow.holds Try.pinned (OpenSpec.ofChange fnExactExactPathWrong)

/-- 'laws.FnExactTangentField': WHATEVER THE INPUT: true; the input reads as it did. -/
def fnExactTangentFieldSpec : ChangeSpec := { name := "fnExactTangentField", fn := fun _ => fun
  | [d] => { results := [.lit (.bool true)], args := [d] }
  | _ => none }
def fnExactTangentFieldRow : OpenClaim := { program := "ytdaaamdighojdaa", sum := "be990ea884c62c43540c24687c530348283300ca50a2b5f457216e9f4c696f87", func := "loop.example/g03110/laws.FnExactTangentField", spec := "fnExactTangentField", unfollowed := true, recurses := true, apart := false }
def FnExactTangentFieldSaid : Prop := fnExactTangentFieldRow.holds Try.pinned (OpenSpec.ofChange fnExactTangentFieldSpec)

/-- ITS FALSE NEIGHBOUR: 'it returns false'. Refute it at one input. -/
def fnExactTangentFieldWrong : ChangeSpec := { name := "fnExactTangentField", fn := fun _ => fun
  | [d] => { results := [.lit (.bool false)], args := [d] }
  | _ => none }
def FnExactTangentFieldWrongFalsely : Prop := fnExactTangentFieldRow.holds Try.pinned (OpenSpec.ofChange fnExactTangentFieldWrong)

/-- 'laws.FnExactStepAlong': WHATEVER THE INPUT: true; the input reads as it did. -/
def fnExactStepAlongSpec : ChangeSpec := { name := "fnExactStepAlong", fn := fun _ => fun
  | [d1, d2, d3] => { results := [.lit (.bool true)], args := [d1, d2, d3] }
  | _ => none }
def fnExactStepAlongRow : OpenClaim := { program := "ytdaaamdighojdaa", sum := "be990ea884c62c43540c24687c530348283300ca50a2b5f457216e9f4c696f87", func := "loop.example/g03110/laws.FnExactStepAlong", spec := "fnExactStepAlong", unfollowed := true, recurses := true, apart := false }
def FnExactStepAlongSaid : Prop := fnExactStepAlongRow.holds Try.pinned (OpenSpec.ofChange fnExactStepAlongSpec)

/-- ITS FALSE NEIGHBOUR: 'it returns false'. Refute it at one input. -/
def fnExactStepAlongWrong : ChangeSpec := { name := "fnExactStepAlong", fn := fun _ => fun
  | [d1, d2, d3] => { results := [.lit (.bool false)], args := [d1, d2, d3] }
  | _ => none }
def FnExactStepAlongWrongFalsely : Prop := fnExactStepAlongRow.holds Try.pinned (OpenSpec.ofChange fnExactStepAlongWrong)

/- THE SECOND FORM. 'bulk': how many values and letters a reading holds, each counted each time it is reached (what is shared counts as often as it is met; a slice's spare places count too). A statement '..UptoSaid' is the law's where the arguments, and the package variables that the reading takes, are together of bulk at most 1048576: NARROWER than '..Said'. Prove '..Said' where nothing that the law and all that it calls make is longer than what came in: it says more and counts as full. Else prove '..UptoSaid'. A law counts once. -/
mutual
def uptoBulk {H : Type} : DataW H → Nat
  | .lit (.string bytes) => bytes.length + 1
  | .lit _ => 1
  | .nil => 1
  | .ptr d => uptoBulk d + 1
  | .slice elems spare => uptoBulkAll elems + uptoBulkAll spare + 1
  | .agg parts => uptoBulkAll parts + 1
  | .iface _ d => uptoBulk d + 1
  | .map entries => uptoBulkEntries entries + 1
  | .held _ => 1
def uptoBulkAll {H : Type} : List (DataW H) → Nat
  | [] => 0
  | d :: r => uptoBulk d + uptoBulkAll r
def uptoBulkEntries {H : Type} : List (Lit × DataW H) → Nat
  | [] => 0
  | x :: r => uptoBulkEntry x + uptoBulkEntries r
def uptoBulkEntry {H : Type} : Lit × DataW H → Nat
  | (.string bytes, d) => bytes.length + uptoBulk d + 1
  | (_, d) => uptoBulk d + 1
 end
def uptoSmall : (H : Type) → List (DataW H) → Bool := fun _ ds => decide (uptoBulkAll ds ≤ 1048576)
def OpenSpec.upto (s : _root_.Go.ChangeSpec) : _root_.Go.OpenSpec := { _root_.Go.OpenSpec.ofChange s with cond := some uptoSmall }

/-- 'laws.FnExactSymplecticForm', WHERE WHAT IT READS IS OF BULK AT MOST 1048576: true; the input reads as it did. -/
def fnExactSymplecticFormUptoRow : OpenClaim := { program := "ytdaaamdighojdaa", sum := "be990ea884c62c43540c24687c530348283300ca50a2b5f457216e9f4c696f87", func := "loop.example/g03110/laws.FnExactSymplecticForm", spec := "fnExactSymplecticForm", apart := false, narrowed := true }
def FnExactSymplecticFormUptoSaid : Prop := fnExactSymplecticFormUptoRow.holds Try.pinned (OpenSpec.upto fnExactSymplecticFormSpec)

/-- 'laws.FnExactFieldOk', WHERE WHAT IT READS IS OF BULK AT MOST 1048576: true; the input reads as it did. -/
def fnExactFieldOkUptoRow : OpenClaim := { program := "ytdaaamdighojdaa", sum := "be990ea884c62c43540c24687c530348283300ca50a2b5f457216e9f4c696f87", func := "loop.example/g03110/laws.FnExactFieldOk", spec := "fnExactFieldOk", apart := false, narrowed := true }
def FnExactFieldOkUptoSaid : Prop := fnExactFieldOkUptoRow.holds Try.pinned (OpenSpec.upto fnExactFieldOkSpec)

/-- 'laws.FnExactHamiltonField', WHERE WHAT IT READS IS OF BULK AT MOST 1048576: true; the input reads as it did. -/
def fnExactHamiltonFieldUptoRow : OpenClaim := { program := "ytdaaamdighojdaa", sum := "be990ea884c62c43540c24687c530348283300ca50a2b5f457216e9f4c696f87", func := "loop.example/g03110/laws.FnExactHamiltonField", spec := "fnExactHamiltonField", apart := false, narrowed := true }
def FnExactHamiltonFieldUptoSaid : Prop := fnExactHamiltonFieldUptoRow.holds Try.pinned (OpenSpec.upto fnExactHamiltonFieldSpec)

/-- 'laws.FnExactPolynomialAlong', WHERE WHAT IT READS IS OF BULK AT MOST 1048576: true; the input reads as it did. -/
def fnExactPolynomialAlongUptoRow : OpenClaim := { program := "ytdaaamdighojdaa", sum := "be990ea884c62c43540c24687c530348283300ca50a2b5f457216e9f4c696f87", func := "loop.example/g03110/laws.FnExactPolynomialAlong", spec := "fnExactPolynomialAlong", recurses := true, apart := false, narrowed := true }
def FnExactPolynomialAlongUptoSaid : Prop := fnExactPolynomialAlongUptoRow.holds Try.pinned (OpenSpec.upto fnExactPolynomialAlongSpec)

/-- 'laws.FnExactFormatField', WHERE WHAT IT READS IS OF BULK AT MOST 1048576: true; the input reads as it did. -/
def fnExactFormatFieldUptoRow : OpenClaim := { program := "ytdaaamdighojdaa", sum := "be990ea884c62c43540c24687c530348283300ca50a2b5f457216e9f4c696f87", func := "loop.example/g03110/laws.FnExactFormatField", spec := "fnExactFormatField", inPlace := ["internal/abi.NoEscape", "internal/bytealg.MakeNoZero"], recurses := true, apart := false, narrowed := true }
def FnExactFormatFieldUptoSaid : Prop := fnExactFormatFieldUptoRow.holds Try.pinned (OpenSpec.upto fnExactFormatFieldSpec)

/-- 'laws.FnExactValueAlong', WHERE WHAT IT READS IS OF BULK AT MOST 1048576: true; the input reads as it did. -/
def fnExactValueAlongUptoRow : OpenClaim := { program := "ytdaaamdighojdaa", sum := "be990ea884c62c43540c24687c530348283300ca50a2b5f457216e9f4c696f87", func := "loop.example/g03110/laws.FnExactValueAlong", spec := "fnExactValueAlong", recurses := true, apart := false, narrowed := true }
def FnExactValueAlongUptoSaid : Prop := fnExactValueAlongUptoRow.holds Try.pinned (OpenSpec.upto fnExactValueAlongSpec)

/-- 'laws.FnExactDerivativeAt', WHERE WHAT IT READS IS OF BULK AT MOST 1048576: true; the input reads as it did. -/
def fnExactDerivativeAtUptoRow : OpenClaim := { program := "ytdaaamdighojdaa", sum := "be990ea884c62c43540c24687c530348283300ca50a2b5f457216e9f4c696f87", func := "loop.example/g03110/laws.FnExactDerivativeAt", spec := "fnExactDerivativeAt", recurses := true, apart := false, narrowed := true }
def FnExactDerivativeAtUptoSaid : Prop := fnExactDerivativeAtUptoRow.holds Try.pinned (OpenSpec.upto fnExactDerivativeAtSpec)

/-- 'laws.FnExactKeepsPolynomial', WHERE WHAT IT READS IS OF BULK AT MOST 1048576: true; the input reads as it did. -/
def fnExactKeepsPolynomialUptoRow : OpenClaim := { program := "ytdaaamdighojdaa", sum := "be990ea884c62c43540c24687c530348283300ca50a2b5f457216e9f4c696f87", func := "loop.example/g03110/laws.FnExactKeepsPolynomial", spec := "fnExactKeepsPolynomial", unfollowed := true, recurses := true, apart := false, narrowed := true }
def FnExactKeepsPolynomialUptoSaid : Prop := fnExactKeepsPolynomialUptoRow.holds Try.pinned (OpenSpec.upto fnExactKeepsPolynomialSpec)

/-- 'laws.FnExactExactPath', WHERE WHAT IT READS IS OF BULK AT MOST 1048576: true; the input reads as it did. -/
def fnExactExactPathUptoRow : OpenClaim := { program := "ytdaaamdighojdaa", sum := "be990ea884c62c43540c24687c530348283300ca50a2b5f457216e9f4c696f87", func := "loop.example/g03110/laws.FnExactExactPath", spec := "fnExactExactPath", recurses := true, apart := false, narrowed := true }
def FnExactExactPathUptoSaid : Prop := fnExactExactPathUptoRow.holds Try.pinned (OpenSpec.upto fnExactExactPathSpec)

/-- 'laws.FnExactTangentField', WHERE WHAT IT READS IS OF BULK AT MOST 1048576: true; the input reads as it did. -/
def fnExactTangentFieldUptoRow : OpenClaim := { program := "ytdaaamdighojdaa", sum := "be990ea884c62c43540c24687c530348283300ca50a2b5f457216e9f4c696f87", func := "loop.example/g03110/laws.FnExactTangentField", spec := "fnExactTangentField", unfollowed := true, recurses := true, apart := false, narrowed := true }
def FnExactTangentFieldUptoSaid : Prop := fnExactTangentFieldUptoRow.holds Try.pinned (OpenSpec.upto fnExactTangentFieldSpec)

/-- 'laws.FnExactStepAlong', WHERE WHAT IT READS IS OF BULK AT MOST 1048576: true; the input reads as it did. -/
def fnExactStepAlongUptoRow : OpenClaim := { program := "ytdaaamdighojdaa", sum := "be990ea884c62c43540c24687c530348283300ca50a2b5f457216e9f4c696f87", func := "loop.example/g03110/laws.FnExactStepAlong", spec := "fnExactStepAlong", unfollowed := true, recurses := true, apart := false, narrowed := true }
def FnExactStepAlongUptoSaid : Prop := fnExactStepAlongUptoRow.holds Try.pinned (OpenSpec.upto fnExactStepAlongSpec)

end Rows
end Go.Proofs.Ytdaaamdighojdaa
