/- A slice copied. Conditions: none. -/
import Derived.Test.YtdaaamdighojdaaBase
set_option linter.unusedSimpArgs false
set_option linter.unusedVariables false
namespace Go.Proofs.Ytdaaamdighojdaa
open Go.RowKit

theorem rdI_news {w : World} {b off n cap : Nat} {xs : List Int} (h : RdI w (.slice (some ⟨b, off, none⟩) n cap) xs) : ∀ (j : Nat) u, (xs.map (Value.int .i64))[j]? = some u → w.cell? ((⟨b, off, none⟩ : Addr).add j) = some u := by
  intro j u hu
  obtain ⟨ad', len', cap', he, hl, _, _, _⟩ := rdS_open h
  injection he with e1 e2 e3
  subst e2
  rw [List.getElem?_map] at hu
  cases hx : xs[j]? with
  | none => rw [hx] at hu; simp at hu
  | some x =>
    rw [hx] at hu
    simp only [Option.map_some, Option.some.injEq] at hu
    have hj : j < n := by rw [← hl]; exact (List.getElem?_eq_some_iff.1 hx).1
    obtain ⟨b', off', x', hb, hx', hc, _, _⟩ := rdI_get h hj
    simp only [Option.some.injEq, Addr.mk.injEq] at hb
    obtain ⟨rfl, rfl, _⟩ := hb
    rw [hx] at hx'
    obtain rfl := Option.some.inj hx'
    have hadd : (⟨b, off, none⟩ : Addr).add j = ⟨b, off + j, none⟩ := by unfold Addr.add; split <;> simp_all
    rw [hadd, hc, hu]

/-- A copy of a slice by an append to an empty one. -/
theorem clone_own {e n : Nat} {W w2 : World} {y : List Int} {gg capn : Nat} (hown : w2.ownsRow 0 e 1 (.slice (some ⟨gg, 0, none⟩) (0 + n) capn) (0 + n) ([] ++ y.map (Value.int .i64))) (hg : (W.alloc (.cells #[] e)).grownBy w2 (some W.heap.size))
    (hat : some W.heap.size = some gg ∨ gg = W.heap.size + 1) (hn : y.length = n) (hI : ∀ x ∈ y, I64 x) : OwnI e w2 (.slice (some ⟨gg, 0, none⟩) n capn) y [gg] ∧ W.heap.size ≤ gg ∧ Below W.heap.size W w2 := by
  rw [Nat.zero_add, List.nil_append] at hown
  have hb1 : Below W.heap.size W (W.alloc (.cells #[] e)) := (Below.refl _ _).alloc (Nat.le_refl _) _
  refine ⟨⟨by rw [hn]; exact hown, rfl, hI⟩, ?_, hb1.grown hg hb1.size (fun k hk => by simp at hk; omega)⟩
  rcases hat with h | h
  · simp at h; omega
  · omega
end Go.Proofs.Ytdaaamdighojdaa
