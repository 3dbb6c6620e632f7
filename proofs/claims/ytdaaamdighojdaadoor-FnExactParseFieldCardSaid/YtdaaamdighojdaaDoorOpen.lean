/- From the form's readings of arguments to the readings of these proofs, over any program. Conditions: none. -/
import Derived.Test.YtdaaamdighojdaaDoorBase
import Derived.ProofKit
import Derived.OpenShut
import Derived.Deep.Slices
import Derived.Deep.Fields
import Derived.Lib.SmallJoins
set_option linter.unusedSimpArgs false
set_option linter.unusedVariables false
namespace Go.Proofs.YtdaaamdighojdaaDoor
open Go.ChangeShapes Go.WideShapes Go.ChangeAt Go.RowKit Go.Deep Go.Joins

theorem add_eq (b o j : Nat) : (⟨b, o, none⟩ : Addr).add j = ⟨b, o + j, none⟩ := by
  by_cases h : j = 0 <;> simp [Addr.add, h]

section
variable {H : Type} {enc : TypeId × Value → H} {P : Program} {w : World} {base : Nat} {held : Bool}

theorem rdS_of_trod {α : Type} [Inhabited α] {size : Nat} {El : World → List Value → α → Prop} {t e : TypeId} {fuel : Nat} {cs : List Value} {x : DataW H × List MemPlace}
    (ht : P.underlying t = some (.slice e)) (hC : P.cellsOf e = size) (hs : 0 < size)
    (hel : ∀ n cs' y, DataW.trod enc P w base (fun _ => true) held n e cs' = some y → ∃ x : α, El w cs' x)
    (h : DataW.trod enc P w base (fun _ => true) held fuel t cs = some x) : ∃ v xs, cs = [v] ∧ RdS size El w v xs := by
  rcases open_slice ht h with ⟨h0, _⟩ | ⟨a, len, cap, m, n, D, Pl, hcs, hb, hl, hm, hmm, hx, hi⟩
  · exact ⟨_, [], h0, none, 0, rfl, Nat.le_refl _, by omega, fun hp => by simp at hp⟩
  · simp only [if_true] at hmm
    subst hmm
    rw [hC] at hi
    have each : ∀ i, i < len → ∃ y : List Value × α, y.1.length = size ∧ (∀ j, j < size → w.cell? ((a.add (i * size)).add j) = y.1[j]?) ∧ El w y.1 y.2 := by
      intro i hil
      obtain ⟨cs', hc, ht'⟩ := hi i (by omega)
      obtain ⟨_, hcl, hat⟩ := World.cells?_some hc
      obtain ⟨x, hx⟩ := hel _ _ _ ht'
      exact ⟨(cs', x), hcl, fun j hj => hat j hj, hx⟩
    obtain ⟨f, hf⟩ := choose_lt each
    refine ⟨_, (List.range len).map fun i => (f i).2, hcs, _, m, by rw [List.length_map, List.length_range], by simpa using hl, by unfold maxLen at hm; simpa using hm, fun hp => ?_⟩
    simp at hp
    obtain ⟨b, off, spot⟩ := a
    have hc0 := (hf 0 hp).2.1 0 hs
    have h1 := (hf 0 hp).1
    rw [List.getElem?_eq_getElem (by omega)] at hc0
    have hspot : spot = none := by simpa [Addr.add] using World.cell?_spot hc0
    subst hspot
    refine ⟨b, off, rfl, fun i x hx => ?_⟩
    simp only [List.getElem?_map, Option.map_eq_some_iff] at hx
    obtain ⟨i', hi', rfl⟩ := hx
    obtain ⟨hil, rfl⟩ := List.getElem?_eq_some_iff.1 hi'
    simp only [List.length_range] at hil
    simp only [List.getElem_range]
    obtain ⟨h2, h3, h4⟩ := hf i hil
    refine ⟨_, h2, fun j u hj => ?_, h4⟩
    have := h3 j (by have := (List.getElem?_eq_some_iff.1 hj).1; omega)
    rw [hj] at this
    rwa [add_eq, add_eq] at this

theorem elI_of_trod {e : TypeId} (he : P.underlying e = some (.int .i64)) {spare : Nat → Bool} (n : Nat) (cs : List Value) (y : DataW H × List MemPlace)
    (h : DataW.trod enc P w base spare held n e cs = some y) : ∃ x : Int, ElI w cs x := by
  obtain ⟨x, rfl, _, hw⟩ := DataW.trod_int he h
  exact ⟨x, rfl, bounds_i64 hw⟩

theorem elII_of_trod {t e : TypeId} (ht : P.underlying t = some (.slice e)) (he : P.underlying e = some (.int .i64)) (hC : P.cellsOf e = 1) (n : Nat) (cs : List Value) (y : DataW H × List MemPlace)
    (h : DataW.trod enc P w base (fun _ => true) held n t cs = some y) : ∃ x : List Int, ElII w cs x := by
  obtain ⟨v, xs, rfl, hx⟩ := rdS_of_trod ht hC (by omega) (elI_of_trod he) h
  exact ⟨xs, v, rfl, hx⟩

/-- An argument that is a slice. -/
theorem rdS_of_arg {α : Type} [Inhabited α] {size : Nat} {El : World → List Value → α → Prop} {t e : TypeId} {v : Value} {d : DataW H} {p : List MemPlace} {r : Reach} {b0 : Nat}
    (ht : P.underlying t = some (.slice e)) (hC : P.cellsOf e = size) (hs : 0 < size)
    (hel : ∀ n cs' y, DataW.trod enc P w base (fun _ => true) held n e cs' = some y → ∃ x : α, El w cs' x)
    (hval : Value.okWide P w r b0 t v) (h : DataW.Trod enc P w base (fun _ => true) held t v d p) : ∃ xs, RdS size El w v xs := by
  obtain ⟨a0, len, cap, rfl⟩ := okWide_slice ht hval
  obtain ⟨fuel, hf⟩ := h
  obtain ⟨v, xs, hcs, h⟩ := rdS_of_trod ht hC hs hel hf
  simp [Value.cells] at hcs
  subst hcs
  exact ⟨xs, h⟩

theorem int_of_arg {t : TypeId} {v : Value} {d : DataW H} {p : List MemPlace} {r : Reach} {b0 : Nat} {spare : Nat → Bool}
    (ht : P.underlying t = some (.int .i64)) (hval : Value.okWide P w r b0 t v) (h : DataW.Trod enc P w base spare held t v d p) : ∃ n : Int, v = .int .i64 n ∧ I64 n := by
  obtain ⟨n, rfl, rfl, rfl, hw⟩ := open_int ht hval h
  exact ⟨n, rfl, bounds_i64 hw⟩
end
end Go.Proofs.YtdaaamdighojdaaDoor
