/- The numbers of a product of polynomials in h, power by power. Conditions: numbers. -/
import Derived.Test.YtbcjhpgkodeoeaaG19
set_option linter.unusedSimpArgs false
set_option linter.unusedVariables false

namespace Go.Proofs.Ytbcjhpgkodeoeaa
open Go.RowKit Go.Sort

theorem plus_res (a b c : Int) : plusZ (resZ a) (timesZ b c) = resZ (a + b * c) := by
  simp only [plusZ, timesZ, resZ, Int.add_emod_emod, Int.emod_add_emod]
theorem atZ_set {l : List Int} {i k : Nat} {x : Int} (h : i < l.length) : atZ (l.set i x) k = if k = i then x else atZ l k := by
  unfold atZ
  by_cases hk : k = i
  · subst hk; rw [List.getElem?_set_self h, if_pos rfl]; rfl
  · rw [List.getElem?_set_ne (by omega), if_neg hk]
theorem mulRow_at {out a b : List Int} {i : Nat} (k : Nat) : ∀ j, i + j ≤ out.length → atZ (mulRow out a b i j) k = if i ≤ k ∧ k < i + j then plusZ (atZ out k) (timesZ (atZ a i) (atZ b (k - i))) else atZ out k
  | 0, _ => by rw [mulRow, if_neg (by omega)]
  | j + 1, h => by
    rw [mulRow, atZ_set (by rw [mulRow_len]; omega)]
    by_cases hk : k = i + j
    · subst hk
      rw [if_pos rfl, mulRow_at _ j (by omega), if_neg (by omega), if_pos (by omega), show i + j - i = j by omega]
    · rw [if_neg hk, mulRow_at k j (by omega)]
      by_cases h2 : i ≤ k ∧ k < i + j
      · rw [if_pos h2, if_pos (by omega)]
      · rw [if_neg h2, if_neg (by omega)]
theorem atZ_rep (n k : Nat) : atZ (List.replicate n 0) k = 0 := by
  unfold atZ
  rw [List.getElem?_replicate]
  split <;> rfl
theorem mulCol_at {a b : List Int} {k : Nat} (hk : k < a.length) : ∀ i, i ≤ a.length → atZ (mulCol a b i) k = resZ (sumZ (fun p => atZ a p * atZ b (k - p)) (List.range (min i (k + 1))))
  | 0, _ => by rw [mulCol, atZ_rep, Nat.zero_min]; rfl
  | i + 1, h => by
    rw [mulCol, mulRow_at k _ (by rw [mulCol_len]; omega), mulCol_at hk i (by omega)]
    by_cases h2 : i ≤ k
    · rw [if_pos (by omega), plus_res, show min i (k + 1) = i by omega, show min (i + 1) (k + 1) = i + 1 by omega, List.range_succ, sumZ_append, sumZ_cons, sumZ_nil, Int.add_zero]
    · rw [if_neg (by omega), show min i (k + 1) = k + 1 by omega, show min (i + 1) (k + 1) = k + 1 by omega]
theorem mulZ_at {a b : List Int} {k : Nat} (hk : k < a.length) : atZ (mulZ a b) k = resZ (sumZ (fun p => atZ a p * atZ b (k - p)) (List.range (k + 1))) := by
  rw [mulZ, mulCol_at hk _ (Nat.le_refl _), show min a.length (k + 1) = k + 1 by omega]
theorem addJ_at {a b : List Int} {c : Int} {k : Nat} (hk : k < a.length) : atZ (addJ a b c) k = plusZ (atZ a k) (timesZ (atZ b k) c) := by
  simp [addJ, atZ, hk]

/-- the same up to the power r: lengths may differ, but not below r -/
def Agree (r : Nat) (a b : List Int) : Prop := r ≤ a.length ∧ r ≤ b.length ∧ ∀ k, k < r → atZ a k = atZ b k
theorem Agree.refl {r : Nat} {a : List Int} (h : r ≤ a.length) : Agree r a a := ⟨h, h, fun _ _ => rfl⟩
theorem Agree.symm {r : Nat} {a b : List Int} (h : Agree r a b) : Agree r b a := ⟨h.2.1, h.1, fun k hk => (h.2.2 k hk).symm⟩
theorem Agree.trans {r : Nat} {a b c : List Int} (h : Agree r a b) (g : Agree r b c) : Agree r a c := ⟨h.1, g.2.1, fun k hk => (h.2.2 k hk).trans (g.2.2 k hk)⟩
theorem Agree.le {r s : Nat} {a b : List Int} (h : Agree r a b) (hs : s ≤ r) : Agree s a b := ⟨by have := h.1; omega, by have := h.2.1; omega, fun k hk => h.2.2 k (by omega)⟩
theorem Agree.eq {r : Nat} {a b : List Int} (h : Agree r a b) (ha : a.length = r) (hb : b.length = r) : a = b := by
  refine List.ext_getElem? fun k => ?_
  by_cases hk : k < r
  · have := h.2.2 k hk
    unfold atZ at this
    rw [List.getElem?_eq_getElem (by omega), List.getElem?_eq_getElem (by omega)] at this ⊢
    exact congrArg some this
  · rw [List.getElem?_eq_none (by omega), List.getElem?_eq_none (by omega)]
theorem Agree.mul {r : Nat} {a a' b b' : List Int} (h : Agree r a a') (g : Agree r b b') : Agree r (mulZ a b) (mulZ a' b') := by
  refine ⟨by rw [mulZ_len]; exact h.1, by rw [mulZ_len]; exact h.2.1, fun k hk => ?_⟩
  rw [mulZ_at (by have := h.1; omega), mulZ_at (by have := h.2.1; omega)]
  congr 1
  refine sumZ_congr fun p hp => ?_
  have hp' : p < k + 1 := by simpa using hp
  rw [h.2.2 p (by omega), g.2.2 (k - p) (by omega)]
theorem Agree.add {r : Nat} {a a' b b' : List Int} (c : Int) (h : Agree r a a') (g : Agree r b b') : Agree r (addJ a b c) (addJ a' b' c) := by
  refine ⟨by rw [addJ_len]; exact h.1, by rw [addJ_len]; exact h.2.1, fun k hk => ?_⟩
  rw [addJ_at (by have := h.1; omega), addJ_at (by have := h.2.1; omega), h.2.2 k hk, g.2.2 k hk]
theorem Agree.zero {r n m : Nat} (hn : r ≤ n) (hm : r ≤ m) : Agree r (List.replicate n 0) (List.replicate m 0) := ⟨by simpa using hn, by simpa using hm, fun k _ => by rw [atZ_rep, atZ_rep]⟩
theorem Agree.one {r n m : Nat} (c : Int) (hn : r ≤ n) (hm : r ≤ m) : Agree r (oneAt c n) (oneAt c m) := by
  refine ⟨by rw [oneAt_len]; exact hn, by rw [oneAt_len]; exact hm, fun k hk => ?_⟩
  unfold oneAt
  rw [atZ_set (by simp; omega), atZ_set (by simp; omega), atZ_rep, atZ_rep]
theorem Agree.powN {r : Nat} {y y' a a' : List Int} (h : Agree r y y') (g : Agree r a a') (n : Nat) : Agree r (powN y a n) (powN y' a' n) := by
  induction n with
  | zero => exact g
  | succ n ih => exact ih.mul h
/-- all rows agree -/
def AgreeL (r : Nat) (y y' : List (List Int)) : Prop := y.length = y'.length ∧ ∀ i, i < y.length → Agree r (atL y i) (atL y' i)
theorem Agree.powV {r : Nat} {y y' : List (List Int)} {ps a a' : List Int} (h : AgreeL r y y') (g : Agree r a a') : ∀ v, v ≤ y.length → Agree r (powV y ps a v) (powV y' ps a' v)
  | 0, _ => g
  | v + 1, hv => (h.2 v (by omega)).powN (Agree.powV h g v (by omega)) _
theorem agree_dervP {r : Nat} {y y' : List (List Int)} {p : List MonZ} (h : AgreeL r y y') (h0 : r ≤ hdL y) (h1 : r ≤ hdL y') (hp : ∀ m ∈ p, m.pows.length ≤ y.length) : ∀ k, k ≤ p.length → Agree r (dervP p y [] k) (dervP p y' [] k)
  | 0, _ => Agree.zero h0 h1
  | k + 1, hk => by
    have hx : p[k]? = some p[k] := List.getElem?_eq_getElem (by omega)
    have hm := hp p[k] (List.getElem_mem _)
    rw [dervP, dervP, hx]
    simp only [Option.getD_some, oneL]
    exact (agree_dervP h h0 h1 hp k (by omega)).add _ (Agree.powV h (Agree.one 1 h0 h1) _ hm)
theorem agree_dervL {r : Nat} {y y' : List (List Int)} {p : List MonZ} (h : AgreeL r y y') (h0 : r ≤ hdL y) (h1 : r ≤ hdL y') (hp : ∀ m ∈ p, m.pows.length ≤ y.length) : Agree r (dervL p y []) (dervL p y' []) := agree_dervP h h0 h1 hp _ (Nat.le_refl _)

/-- the second has the first's numbers times powers of t -/
def Scaled (r : Nat) (t : Int) (a b : List Int) : Prop := r ≤ a.length ∧ r ≤ b.length ∧ ∀ k, k < r → atZ b k = resZ (t ^ k * atZ a k)
theorem res_mul {a b c : Int} (h : resZ a = resZ b) : resZ (c * a) = resZ (c * b) := by
  unfold resZ at h ⊢
  rw [← modr, h, modr]
theorem res_mul2 {a b c d : Int} (h : resZ a = resZ b) (g : resZ c = resZ d) : resZ (a * c) = resZ (b * d) := by
  rw [res_mul g, Int.mul_comm, Int.mul_comm b, res_mul h]
theorem res_add {a b c d : Int} (h : resZ a = resZ b) (g : resZ c = resZ d) : resZ (a + c) = resZ (b + d) := by
  unfold resZ at h g ⊢
  omega
theorem res_res (a : Int) : resZ (resZ a) = resZ a := Int.emod_emod _ _
theorem res_sum {α : Type} {f g : α → Int} {l : List α} (h : ∀ x ∈ l, resZ (f x) = resZ (g x)) : resZ (sumZ f l) = resZ (sumZ g l) := by
  induction l with
  | nil => rfl
  | cons x l ih => rw [sumZ_cons, sumZ_cons]; exact res_add (h x (by simp)) (ih (fun y hy => h y (by simp [hy])))
theorem Scaled.mul {r : Nat} {t : Int} {a a' b b' : List Int} (h : Scaled r t a a') (g : Scaled r t b b') : Scaled r t (mulZ a b) (mulZ a' b') := by
  refine ⟨by rw [mulZ_len]; exact h.1, by rw [mulZ_len]; exact h.2.1, fun k hk => ?_⟩
  rw [mulZ_at (by have := h.2.1; omega), mulZ_at (by have := h.1; omega), ← res_mul (res_res _).symm, ← sumZ_mul]
  refine res_sum fun p hp => ?_
  have hp' : p < k + 1 := by simpa using hp
  rw [h.2.2 p (by omega), g.2.2 (k - p) (by omega)]
  have e : t ^ k * (atZ a p * atZ b (k - p)) = (t ^ p * atZ a p) * (t ^ (k - p) * atZ b (k - p)) := by
    have : t ^ k = t ^ p * t ^ (k - p) := by rw [← Int.pow_add]; congr 1; omega
    rw [this]
    grind
  rw [e]
  exact res_mul2 (res_res _) (res_res _)
theorem Scaled.add {r : Nat} {t : Int} {a a' b b' : List Int} (c : Int) (h : Scaled r t a a') (g : Scaled r t b b') : Scaled r t (addJ a b c) (addJ a' b' c) := by
  refine ⟨by rw [addJ_len]; exact h.1, by rw [addJ_len]; exact h.2.1, fun k hk => ?_⟩
  rw [addJ_at (by have := h.2.1; omega), addJ_at (by have := h.1; omega), h.2.2 k hk, g.2.2 k hk]
  have e1 : plusZ (resZ (t ^ k * atZ a k)) (timesZ (resZ (t ^ k * atZ b k)) c) = resZ (t ^ k * atZ a k + t ^ k * atZ b k * c) := by
    rw [plus_res]
    exact res_add rfl (res_mul2 (res_res _) rfl)
  have e2 : resZ (t ^ k * plusZ (atZ a k) (timesZ (atZ b k) c)) = resZ (t ^ k * (atZ a k + atZ b k * c)) := by
    refine res_mul ?_
    simp only [plusZ, timesZ, resZ, Int.add_emod_emod, Int.emod_emod]
  rw [e1, e2]
  congr 1
  grind
theorem Scaled.zero {r n m : Nat} (t : Int) (hn : r ≤ n) (hm : r ≤ m) : Scaled r t (List.replicate n 0) (List.replicate m 0) := ⟨by simpa using hn, by simpa using hm, fun k _ => by rw [atZ_rep, atZ_rep]; simp [resZ]⟩
theorem Scaled.one {r n m : Nat} (t : Int) (hn : r ≤ n) (hm : r ≤ m) : Scaled r t (oneAt 1 n) (oneAt 1 m) := by
  refine ⟨by rw [oneAt_len]; exact hn, by rw [oneAt_len]; exact hm, fun k hk => ?_⟩
  unfold oneAt
  rw [atZ_set (by simp; omega), atZ_set (by simp; omega), atZ_rep, atZ_rep]
  by_cases h0 : k = 0
  · subst h0; simp [resZ]
  · simp [h0, resZ]
theorem Scaled.powN {r : Nat} {t : Int} {y y' a a' : List Int} (h : Scaled r t y y') (g : Scaled r t a a') (n : Nat) : Scaled r t (powN y a n) (powN y' a' n) := by
  induction n with
  | zero => exact g
  | succ n ih => exact ih.mul h
def ScaledL (r : Nat) (t : Int) (y y' : List (List Int)) : Prop := y.length = y'.length ∧ ∀ i, i < y.length → Scaled r t (atL y i) (atL y' i)
theorem Scaled.powV {r : Nat} {t : Int} {y y' : List (List Int)} {ps a a' : List Int} (h : ScaledL r t y y') (g : Scaled r t a a') : ∀ v, v ≤ y.length → Scaled r t (powV y ps a v) (powV y' ps a' v)
  | 0, _ => g
  | v + 1, hv => (h.2 v (by omega)).powN (Scaled.powV h g v (by omega)) _
theorem scaled_dervP {r : Nat} {t : Int} {y y' : List (List Int)} {p : List MonZ} (h : ScaledL r t y y') (h0 : r ≤ hdL y) (h1 : r ≤ hdL y') (hp : ∀ m ∈ p, m.pows.length ≤ y.length) : ∀ k, k ≤ p.length → Scaled r t (dervP p y [] k) (dervP p y' [] k)
  | 0, _ => Scaled.zero t h0 h1
  | k + 1, hk => by
    have hx : p[k]? = some p[k] := List.getElem?_eq_getElem (by omega)
    have hm := hp p[k] (List.getElem_mem _)
    rw [dervP, dervP, hx]
    simp only [Option.getD_some, oneL]
    exact (scaled_dervP h h0 h1 hp k (by omega)).add _ (Scaled.powV h (Scaled.one t h0 h1) _ hm)
theorem scaled_dervL {r : Nat} {t : Int} {y y' : List (List Int)} {p : List MonZ} (h : ScaledL r t y y') (h0 : r ≤ hdL y) (h1 : r ≤ hdL y') (hp : ∀ m ∈ p, m.pows.length ≤ y.length) : Scaled r t (dervL p y []) (dervL p y' []) := scaled_dervP h h0 h1 hp _ (Nat.le_refl _)
end Go.Proofs.Ytbcjhpgkodeoeaa
