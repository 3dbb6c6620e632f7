/- The tangents' field, in plain lists. Conditions: none. -/
import Derived.Test.YtdaaamdighojdaaKeepP
set_option linter.unusedSimpArgs false
set_option linter.unusedVariables false
namespace Go.Proofs.Ytdaaamdighojdaa
open Go.RowKit Go.Sort

/-- Powers in n variables more, times the variable v if it is one. -/
def wideP (n : Nat) (v : Int) (ps : List Int) : List Int :=
  if 0 ≤ v then (ps ++ List.replicate n 0).set v.toNat (atZ (ps ++ List.replicate n 0) v.toNat + 1) else ps ++ List.replicate n 0
def wideM (n : Nat) (v : Int) (m : MonZ) : MonZ := ⟨m.coef, wideP n v m.pows⟩
def wideL (n : Nat) (v : Int) (p : List MonZ) : List MonZ := p.map (wideM n v)
theorem wideL_next {n : Nat} {v : Int} {p : List MonZ} {k : Nat} {m : MonZ} (h : p[k]? = some m) : wideL n v (p.take (k + 1)) = wideL n v (p.take k) ++ [wideM n v m] := by
  rw [take_snoc h, wideL, List.map_append]; rfl
theorem wideL_len (n : Nat) (v : Int) (p : List MonZ) : (wideL n v p).length = p.length := List.length_map _
theorem wideP_len (n : Nat) (v : Int) (ps : List Int) : (wideP n v ps).length = ps.length + n := by
  unfold wideP
  split
  · rw [List.length_set, List.length_append, List.length_replicate]
  · rw [List.length_append, List.length_replicate]
theorem wideP_neg {n : Nat} {v : Int} (ps : List Int) (h : v < 0) : wideP n v ps = ps ++ List.replicate n 0 := by rw [wideP, if_neg (by omega)]
theorem wideP_pos {n : Nat} {v : Int} (ps : List Int) (h : 0 ≤ v) {x : Int} (hx : (ps ++ List.replicate n 0)[v.toNat]? = some x) : wideP n v ps = (ps ++ List.replicate n 0).set v.toNat (x + 1) := by
  rw [wideP, if_pos h, atZ_get hx]
/-- A monomial whose powers are not great. -/
def MonLow (n : Nat) (m : MonZ) : Prop := (0 ≤ m.coef ∧ m.coef ≤ 1000000270) ∧ m.pows.length = n ∧ ∀ x ∈ m.pows, 0 ≤ x ∧ x ≤ 6
theorem low_fine {n : Nat} {p : List MonZ} (hp : ∀ m ∈ p, MonFine n m) : ∀ m ∈ p, MonLow n m := fun m hm => by
  obtain ⟨h1, h2, _, h4⟩ := hp m hm
  exact ⟨h1, h2, fun x hx => by have := h4 x hx; omega⟩
theorem low_part {v n : Nat} {p : List MonZ} (hp : ∀ m ∈ p, MonFine n m) : ∀ m ∈ partL v 1 p, MonLow n m := fun m hm => by
  obtain ⟨_, h2, h3⟩ := partL_small hp m hm
  refine ⟨?_, h2, fun x hx => by have := h3 x hx; omega⟩
  obtain ⟨m0, _, he⟩ := List.mem_filterMap.1 hm
  unfold partM at he
  split at he
  · injection he with he
    rw [← he]
    exact timesZ_bd _ _
  · cases he
theorem wide_nums {n N : Nat} {v : Int} {p : List MonZ} (hp : ∀ m ∈ p, MonLow n m) : NumsM (wideL N v p) := fun m hm => by
  obtain ⟨a, ha, rfl⟩ := List.mem_map.1 hm
  exact (hp a ha).1
theorem wide_pows {n N : Nat} {v : Int} {p : List MonZ} (hp : ∀ m ∈ p, MonLow n m) : ∀ m ∈ wideL N v p, m.pows.length = n + N := fun m hm => by
  obtain ⟨a, ha, rfl⟩ := List.mem_map.1 hm
  show (wideP N v a.pows).length = _
  rw [wideP_len, (hp a ha).2.1]

/-- What one part of the field gives to the tangents, before it is put together. -/
def tanQ (n : Nat) (p : List MonZ) (k : Nat) : List MonZ := (List.range k).flatMap fun (i : Nat) => wideL n ((n : Int) + (i : Int)) (partL i 1 p)
theorem tanQ_next (n : Nat) (p : List MonZ) (k : Nat) : tanQ n p (k + 1) = tanQ n p k ++ wideL n ((n : Int) + (k : Int)) (partL k 1 p) := by
  rw [tanQ, List.range_succ, List.flatMap_append, List.flatMap_singleton]; rfl
theorem tanQ_len {n : Nat} {p : List MonZ} (h12 : p.length ≤ 12) : ∀ k, (tanQ n p k).length ≤ k * 12
  | 0 => by simp [tanQ]
  | k + 1 => by
    have ih := tanQ_len (n := n) h12 k
    have h1 := partL_len k 1 p
    rw [tanQ_next, List.length_append, wideL_len]
    omega
theorem tanQ_nums {n : Nat} {p : List MonZ} (hp : ∀ m ∈ p, MonFine n m) (k : Nat) : NumsM (tanQ n p k) := fun m hm => by
  obtain ⟨i, _, hm⟩ := List.mem_flatMap.1 hm
  exact wide_nums (low_part hp) m hm
theorem tanQ_pows {n : Nat} {p : List MonZ} (hp : ∀ m ∈ p, MonFine n m) (k : Nat) : ∀ m ∈ tanQ n p k, m.pows.length = n + n := fun m hm => by
  obtain ⟨i, _, hm⟩ := List.mem_flatMap.1 hm
  exact wide_pows (low_part hp) m hm
/-- The parts of the tangents' field. -/
def tanW (n : Nat) (parts : List (List MonZ)) : List (List MonZ) := parts.map (wideL n (-1))
def tanC (n : Nat) (parts : List (List MonZ)) : List (List MonZ) := parts.map fun p => putAll [] (tanQ n p n)
def tanP (n : Nat) (parts : List (List MonZ)) : List (List MonZ) := tanW n parts ++ tanC n parts
theorem tanW_next {n : Nat} {parts : List (List MonZ)} {k : Nat} {p : List MonZ} (h : parts[k]? = some p) : tanW n (parts.take (k + 1)) = tanW n (parts.take k) ++ [wideL n (-1) p] := by
  rw [take_snoc h, tanW, List.map_append]; rfl
theorem tanC_next {n : Nat} {parts : List (List MonZ)} {k : Nat} {p : List MonZ} (h : parts[k]? = some p) : tanC n (parts.take (k + 1)) = tanC n (parts.take k) ++ [putAll [] (tanQ n p n)] := by
  rw [take_snoc h, tanC, List.map_append]; rfl
theorem tanW_len (n : Nat) (parts : List (List MonZ)) : (tanW n parts).length = parts.length := List.length_map _
theorem tanC_len (n : Nat) (parts : List (List MonZ)) : (tanC n parts).length = parts.length := List.length_map _
def tanR (f : FldZ) : FldZ := ⟨2 * f.dim, tanP f.parts.length f.parts⟩
def tanB (f : FldZ) : Bool := fldOkB f && fldOkB (tanR f)
def tanF (f : FldZ) : FldZ := if tanB f = true then tanR f else ⟨0, []⟩
theorem tanB_no {f : FldZ} (h : fldOkB f = false) : tanB f = false := by rw [tanB, h]; rfl
theorem tanB_yes {f : FldZ} (h : fldOkB f = true) : tanB f = fldOkB (tanR f) := by rw [tanB, h]; rfl
theorem tanB_wide {f : FldZ} (h : 6 < 2 * f.dim) : tanB f = false := by
  rw [tanB, show fldOkB (tanR f) = false from by
    unfold fldOkB dimB tanR
    have : decide (2 * f.dim ≤ 6) = false := by simp; omega
    simp [this]]
  simp
theorem tanF_no {f : FldZ} (h : tanB f = false) : tanF f = ⟨0, []⟩ := by rw [tanF, h]; rfl
theorem tanF_yes {f : FldZ} (h : tanB f = true) : tanF f = tanR f := by rw [tanF, if_pos h]

theorem putA_pows {P : List Int → Prop} (pw : List Int) (hp : P pw) : ∀ (l : List MonZ) (c : Int) (b : Bool), (∀ m ∈ l, P m.pows) → ∀ m ∈ putA pw l c b, P m.pows
  | [], c, b, _, m, hm => by
    rw [putA] at hm
    split at hm
    · cases hm
    · rw [List.mem_singleton] at hm; rw [hm]; exact hp
  | x :: l, c, b, h, m, hm => by
    have hx := h x (by simp)
    have hl := fun m hm => h m (List.mem_cons_of_mem _ hm)
    rw [putA] at hm
    split at hm
    · exact putA_pows pw hp l _ _ hl m hm
    · split at hm
      · simp only [List.mem_cons] at hm
        rcases hm with rfl | rfl | hm
        · exact hp
        · exact hx
        · exact putA_pows pw hp l _ _ hl m hm
      · simp only [List.mem_cons] at hm
        rcases hm with rfl | hm
        · exact hx
        · exact putA_pows pw hp l _ _ hl m hm
theorem putL_pows {P : List Int → Prop} {p : List MonZ} {x : MonZ} (hx : P x.pows) (hp : ∀ m ∈ p, P m.pows) : ∀ m ∈ putL p x, P m.pows := fun m hm => putA_pows x.pows hx p x.coef false hp m (List.mem_filter.1 hm).1
theorem putAll_pows {P : List Int → Prop} : ∀ {q p : List MonZ}, (∀ m ∈ p, P m.pows) → (∀ m ∈ q, P m.pows) → ∀ m ∈ putAll p q, P m.pows
  | [], _, hp, _ => hp
  | x :: q, p, hp, hq => by
    show ∀ m ∈ putAll (putL p x) q, P m.pows
    exact putAll_pows (putL_pows (hq x (by simp)) hp) (fun m hm => hq m (List.mem_cons_of_mem _ hm))
theorem tanP_pows {n : Nat} {parts : List (List MonZ)} (h : ∀ p ∈ parts, ∀ m ∈ p, MonFine n m) : ∀ p ∈ tanP n parts, ∀ m ∈ p, m.pows.length = n + n := by
  intro p hp
  rw [tanP, List.mem_append] at hp
  rcases hp with hp | hp
  · obtain ⟨q, hq, rfl⟩ := List.mem_map.1 hp
    exact wide_pows (low_fine (h q hq))
  · obtain ⟨q, hq, rfl⟩ := List.mem_map.1 hp
    exact putAll_pows (P := fun l => l.length = n + n) (fun m hm => by cases hm) (tanQ_pows (h q hq) n)
end Go.Proofs.Ytdaaamdighojdaa
