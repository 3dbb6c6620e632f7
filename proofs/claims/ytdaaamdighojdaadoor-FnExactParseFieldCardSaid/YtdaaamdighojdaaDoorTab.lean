/- Tableaus: readings, what is owned, and the laws' copying, comparing, marking. Conditions: none. -/
import Derived.Test.YtdaaamdighojdaaDoorMem
set_option linter.unusedSimpArgs false
set_option linter.unusedVariables false
namespace Go.Proofs.YtdaaamdighojdaaDoor
open Go.RowKit Go.Sort

/-- A tableau. -/
structure TabZ where
  stages : Int
  A : List Int
  B : List Int
deriving Inhabited
def RdTab (w : World) (v : Value) (t : TabZ) : Prop := ∃ vA vB, v = .agg #[.int .i64 t.stages, vA, vB] ∧ I64 t.stages ∧ RdI w vA t.A ∧ RdI w vB t.B
def OwnTab (e : Nat) (w : World) (v : Value) (t : TabZ) (fp : List Nat) : Prop := ∃ vA vB fA fB, v = .agg #[.int .i64 t.stages, vA, vB] ∧ I64 t.stages ∧ OwnI e w vA t.A fA ∧ OwnI e w vB t.B fB ∧ fp = fA ++ fB ∧ fp.Nodup
theorem rdTab_mono {w w' : World} {v : Value} {t : TabZ} (hb : Below w.heap.size w w') (h : RdTab w v t) : RdTab w' v t := by
  obtain ⟨vA, vB, rfl, hI, hA, hB⟩ := h
  exact ⟨vA, vB, rfl, hI, rdI_mono hb hA, rdI_mono hb hB⟩
theorem ownTab_rd {e : Nat} {w : World} {v : Value} {t : TabZ} {fp : List Nat} (h : OwnTab e w v t fp) : RdTab w v t := by
  obtain ⟨vA, vB, fA, fB, rfl, hI, hA, hB, _, _⟩ := h
  exact ⟨vA, vB, rfl, hI, ownI_rd hA, ownI_rd hB⟩
theorem ownTab_lt {e : Nat} {w : World} {v : Value} {t : TabZ} {fp : List Nat} (h : OwnTab e w v t fp) : ∀ b ∈ fp, b < w.heap.size := by
  obtain ⟨vA, vB, fA, fB, rfl, hI, hA, hB, rfl, _⟩ := h
  intro b hb
  simp at hb
  exact hb.elim (ownI_lt hA b) (ownI_lt hB b)
theorem ownTab_only {e : Nat} {w w' : World} {v : Value} {t : TabZ} {fp fp' : List Nat} (h : OwnTab e w v t fp) (ho : Only fp' w w') (hd : ∀ b ∈ fp, b ∉ fp') : OwnTab e w' v t fp := by
  obtain ⟨vA, vB, fA, fB, rfl, hI, hA, hB, rfl, hn⟩ := h
  exact ⟨vA, vB, fA, fB, rfl, hI, ownI_only hA ho (fun b hb => hd b (by simp [hb])), ownI_only hB ho (fun b hb => hd b (by simp [hb])), rfl, hn⟩
theorem rdI_slice {w : World} {v : Value} {xs : List Int} (h : RdI w v xs) : ∃ ad len cap, v = .slice ad len cap := by
  obtain ⟨ad, len, cap, rfl, _⟩ := rdS_open h
  exact ⟨_, _, _, rfl⟩

def Fit_Tab (t : TabZ) : Prop := t.A.length ≤ 1048576 ∧ t.B.length ≤ 1048576
def mk_Tab (k : Int) (t : TabZ) : TabZ := ⟨t.stages, marks k t.A.length, marks (k + t.A.length) t.B.length⟩
def cnt_Tab (t : TabZ) : Nat := t.A.length + t.B.length

end Go.Proofs.YtdaaamdighojdaaDoor
