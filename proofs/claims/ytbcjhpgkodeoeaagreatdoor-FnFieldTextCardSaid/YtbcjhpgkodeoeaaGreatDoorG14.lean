/- The texts DerQ, Conv in one: each says at its head what it proves. Conditions: as said there. -/
import Derived.Test.YtbcjhpgkodeoeaaGreatDoorG13
set_option linter.unusedSimpArgs false
set_option linter.unusedVariables false
/- The derivative along directions by sets of directions is the derivative along one direction after the other; for polynomials in h of one number. Conditions: numbers. -/
namespace Go.Proofs.YtbcjhpgkodeoeaaGreatDoor
open Go.RowKit Go.Sort

/-- Each element with the others. -/
def picks {α : Type} : List α → List (α × List α)
  | [] => []
  | x :: xs => (x, xs) :: (picks xs).map fun p => (p.1, x :: p.2)
def sumZ {α : Type} (f : α → Int) (l : List α) : Int := (l.map f).sum
theorem sumZ_nil {α : Type} (f : α → Int) : sumZ f [] = 0 := rfl
theorem sumZ_cons {α : Type} (f : α → Int) (x : α) (l : List α) : sumZ f (x :: l) = f x + sumZ f l := by simp [sumZ]
theorem sumZ_map {α β : Type} (f : β → Int) (g : α → β) (l : List α) : sumZ f (l.map g) = sumZ (fun x => f (g x)) l := by simp [sumZ]; rfl
theorem sumZ_append {α : Type} (f : α → Int) (l m : List α) : sumZ f (l ++ m) = sumZ f l + sumZ f m := by simp [sumZ]
theorem sumZ_add {α : Type} (f g : α → Int) (l : List α) : sumZ (fun x => f x + g x) l = sumZ f l + sumZ g l := by
  induction l with
  | nil => rfl
  | cons x l ih => simp only [sumZ_cons, ih]; omega
theorem sumZ_mul {α : Type} (f : α → Int) (c : Int) (l : List α) : sumZ (fun x => c * f x) l = c * sumZ f l := by
  induction l with
  | nil => simp [sumZ]
  | cons x l ih => simp only [sumZ_cons, ih]; grind
theorem sumZ_zero {α : Type} (l : List α) : sumZ (fun _ => 0) l = 0 := by
  induction l with
  | nil => rfl
  | cons x l ih => simp [sumZ_cons, ih]
theorem sumZ_swap {α β : Type} (f : α → β → Int) (l : List α) (m : List β) : sumZ (fun x => sumZ (f x) m) l = sumZ (fun y => sumZ (fun x => f x y) l) m := by
  induction l with
  | nil => simp only [sumZ_nil, sumZ_zero]
  | cons x l ih => simp only [sumZ_cons, ih, sumZ_add]
theorem sumZ_congr {α : Type} {f g : α → Int} {l : List α} (h : ∀ x ∈ l, f x = g x) : sumZ f l = sumZ g l := by
  induction l with
  | nil => rfl
  | cons x l ih => rw [sumZ_cons, sumZ_cons, h x (by simp), ih (fun y hy => h y (by simp [hy]))]

/-- The part of a product of factors (variables fs, each a value and a part along each direction) that has each direction of ds once. -/
def elE (Y : Nat → Int) : List Nat → List (Nat → Int) → Int
  | [], [] => 1
  | [], _ :: _ => 0
  | f :: fs, ds => Y f * elE Y fs ds + sumZ (fun p => p.1 f * elE Y fs p.2) (picks ds)
theorem elE_cons (Y : Nat → Int) (f : Nat) (fs : List Nat) (ds : List (Nat → Int)) : elE Y (f :: fs) ds = Y f * elE Y fs ds + sumZ (fun p => p.1 f * elE Y fs p.2) (picks ds) := by rw [elE]
/-- One direction first. -/
theorem elE_dir (Y : Nat → Int) (d : Nat → Int) : ∀ (fs : List Nat) (ds : List (Nat → Int)), elE Y fs (d :: ds) = sumZ (fun q => d q.1 * elE Y q.2 ds) (picks fs)
  | [], ds => by rw [elE]; rfl
  | f :: fs, ds => by
    rw [elE_cons, picks, sumZ_cons, sumZ_map, elE_dir Y d fs ds, picks, sumZ_cons, sumZ_map]
    have h1 : sumZ (fun p : (Nat → Int) × List (Nat → Int) => p.1 f * elE Y fs (d :: p.2)) (picks ds) = sumZ (fun p => sumZ (fun q => p.1 f * (d q.1 * elE Y q.2 p.2)) (picks fs)) (picks ds) := by
      congr 1
      funext p
      rw [elE_dir Y d fs p.2, sumZ_mul]
    have h2 : sumZ (fun q : Nat × List Nat => d q.1 * elE Y (f :: q.2) ds) (picks fs) = Y f * sumZ (fun q => d q.1 * elE Y q.2 ds) (picks fs) + sumZ (fun q => sumZ (fun p => p.1 f * (d q.1 * elE Y q.2 p.2)) (picks ds)) (picks fs) := by
      rw [← sumZ_mul, ← sumZ_add]
      congr 1
      funext q
      rw [elE_cons, Int.mul_add, ← sumZ_mul]
      have : (fun p : (Nat → Int) × List (Nat → Int) => d q.1 * (p.1 f * elE Y q.2 p.2)) = fun p => p.1 f * (d q.1 * elE Y q.2 p.2) := by funext p; grind
      rw [this]
      grind
    simp only [] at h1 h2 ⊢
    rw [h1, h2, sumZ_swap]
    omega

/-- The factors of powers, the last variable first. -/
def facs (ps : List Int) : Nat → List Nat
  | 0 => []
  | v + 1 => List.replicate (atZ ps v).toNat v ++ facs ps v
theorem picks_rep (v : Nat) (g : Nat × List Nat → Int) (rest : List Nat) : ∀ k : Nat, sumZ g (picks (List.replicate k v ++ rest)) = (k : Int) * g (v, List.replicate (k - 1) v ++ rest) + sumZ (fun q => g (q.1, List.replicate k v ++ q.2)) (picks rest)
  | 0 => by simp
  | k + 1 => by
    rw [List.replicate_succ, List.cons_append, picks, sumZ_cons, sumZ_map, picks_rep v (fun q => g (q.1, v :: q.2)) rest k]
    simp only [Nat.add_sub_cancel]
    have : (k : Int) * g (v, v :: (List.replicate (k - 1) v ++ rest)) = (k : Int) * g (v, List.replicate k v ++ rest) := by
      cases k with
      | zero => simp
      | succ k => simp only [Nat.add_sub_cancel]; rw [List.replicate_succ (n := k), List.cons_append]
    rw [this]
    have h2 : (fun q : Nat × List Nat => g (q.1, v :: (List.replicate k v ++ q.2))) = fun q => g (q.1, v :: List.replicate k v ++ q.2) := by funext q; rfl
    rw [h2]
    push_cast
    grind
theorem facs_set_above {ps : List Int} {x : Int} {i : Nat} : ∀ v, v ≤ i → facs (ps.set i x) v = facs ps v
  | 0, _ => rfl
  | v + 1, h => by
    rw [facs, facs, facs_set_above v (by omega)]
    have : atZ (ps.set i x) v = atZ ps v := by unfold atZ; rw [List.getElem?_set_ne (by omega)]
    rw [this]
theorem picks_facs (ps : List Int) (hp : ∀ x ∈ ps, 0 ≤ x) : ∀ (n : Nat), n ≤ ps.length → ∀ (g : Nat × List Nat → Int),
    sumZ g (picks (facs ps n)) = sumZ (fun i => if 0 < atZ ps i then atZ ps i * g (i, facs (ps.set i (atZ ps i - 1)) n) else 0) (List.range n)
  | 0, _, g => rfl
  | n + 1, hn, g => by
    rw [facs, picks_rep, picks_facs ps hp n (by omega), List.range_succ, sumZ_append, sumZ_cons, sumZ_nil]
    have hx : ps[n]? = some ps[n] := List.getElem?_eq_getElem (by omega)
    have h0 : 0 ≤ atZ ps n := by rw [atZ_get hx]; exact hp _ (List.getElem_mem _)
    have hcast : ((atZ ps n).toNat : Int) = atZ ps n := by omega
    have e1 : sumZ (fun i => if 0 < atZ ps i then atZ ps i * g (i, List.replicate (atZ ps n).toNat n ++ facs (ps.set i (atZ ps i - 1)) n) else 0) (List.range n) = sumZ (fun i => if 0 < atZ ps i then atZ ps i * g (i, facs (ps.set i (atZ ps i - 1)) (n + 1)) else 0) (List.range n) := by
      refine sumZ_congr fun i hi => ?_
      have hi' : i < n := by simpa using hi
      have : atZ (ps.set i (atZ ps i - 1)) n = atZ ps n := by unfold atZ; rw [List.getElem?_set_ne (by omega)]
      rw [facs, this]
    rw [e1, hcast]
    by_cases hz : 0 < atZ ps n
    · rw [if_pos hz, facs, facs_set_above n (Nat.le_refl _)]
      have : (atZ (ps.set n (atZ ps n - 1)) n) = atZ ps n - 1 := by unfold atZ; rw [List.getElem?_set_self (by omega)]; rfl
      rw [this, show (atZ ps n - 1).toNat = (atZ ps n).toNat - 1 by omega]
      omega
    · rw [if_neg hz, show atZ ps n = 0 by omega]
      simp

-- one number
theorem mul_one1 (a b : Int) : mulZ [a] [b] = [timesZ a b] := by
  simp [mulZ, mulCol, mulRow, atZ, plusZ, timesZ]
theorem add_one1 (a b k : Int) : addJ [a] [b] k = [plusZ a (timesZ b k)] := by simp [addJ, atZ]
def resZ (a : Int) : Int := a % 1000000271
def hd (x : List Int) : Int := atZ x 0
def One1 (x : List Int) : Prop := x = [hd x]
theorem one1_of {x : List Int} (h : x.length = 1) : One1 x := by
  match x, h with
  | [a], _ => rfl
theorem mul_res {x : List Int} {a b : Int} (hx : x = [resZ a]) : mulZ x [b] = [resZ (a * b)] := by
  rw [hx, mul_one1, timesZ, resZ, modl, resZ]
theorem add_res {x y : List Int} {a b : Int} (k : Int) (hx : x = [resZ a]) (hy : y = [resZ b]) : addJ x y k = [resZ (a + b * k)] := by
  rw [hx, hy, add_one1]
  simp only [plusZ, timesZ, resZ, modl, Int.add_emod_emod, Int.emod_add_emod]
def val (y : List (List Int)) (v : Nat) : Int := hd (atL y v)
/-- all have one number -/
def J1 (y : List (List Int)) : Prop := ∀ v, v < y.length → atL y v = [val y v]
theorem mul_resR {x b : List Int} {a c : Int} (hb : b = [c]) (hx : x = [resZ a]) : mulZ b x = [resZ (c * a)] := by
  rw [hx, hb, mul_one1, timesZ, resZ, modr, resZ]

-- the reference
theorem powN_one {y : List Int} {b : Int} (hy : y = [b]) {a : List Int} {c : Int} (ha : a = [resZ c]) (n : Nat) : powN y a n = [resZ (c * b ^ n)] := by
  induction n with
  | zero => rw [powN, ha]; simp
  | succ n ih => rw [powN, hy, mul_res (hy ▸ ih), Int.pow_succ, Int.mul_assoc]
theorem elE_nil (Y : Nat → Int) (f : Nat) (fs : List Nat) : elE Y (f :: fs) [] = Y f * elE Y fs [] := by rw [elE]; simp [picks, sumZ]
theorem elE_rep (Y : Nat → Int) (v : Nat) (fs : List Nat) (n : Nat) : elE Y (List.replicate n v ++ fs) [] = elE Y fs [] * Y v ^ n := by
  induction n with
  | zero => simp
  | succ n ih => rw [List.replicate_succ, List.cons_append, elE_nil, ih, Int.pow_succ]; grind
theorem powV_one {y : List (List Int)} (hy : J1 y) {ps : List Int} : ∀ v, v ≤ y.length → powV y ps [1] v = [resZ (elE (val y) (facs ps v) [])]
  | 0, _ => rfl
  | v + 1, h => by rw [powV, powN_one (hy v (by omega)) (powV_one hy v (by omega)), facs, elE_rep]
theorem oneS_one {y : List (List Int)} {ps : List Int} {v0 : List (List Int)} {rec : List Int → List Int} {R : List Int → Int} (h1 : hdL y = 1) (hv : J1 v0) (hl : ps.length ≤ v0.length)
    (hr : ∀ i, i < ps.length → 0 < atZ ps i → rec (ps.set i (atZ ps i - 1)) = [resZ (R (ps.set i (atZ ps i - 1)))]) :
    ∀ i, i ≤ ps.length → oneS y ps v0 rec i = [resZ (sumZ (fun j => if 0 < atZ ps j then atZ ps j * (val v0 j * R (ps.set j (atZ ps j - 1))) else 0) (List.range i))]
  | 0, _ => by rw [oneS, h1]; rfl
  | i + 1, h => by
    rw [oneS, List.range_succ, sumZ_append, sumZ_cons, sumZ_nil, Int.add_zero]
    have ih := oneS_one h1 hv hl hr i (by omega)
    by_cases hp : 0 < atZ ps i
    · rw [if_pos hp, if_pos hp, add_res _ ih (mul_resR (hv i (by omega)) (hr i (by omega) hp))]
      congr 2
      grind
    · rw [if_neg hp, if_neg hp, ih, Int.add_zero]
theorem oneL_one {y : List (List Int)} (hy : J1 y) (h1 : hdL y = 1) : ∀ (vs : List (List (List Int))) (ps : List Int), (∀ v ∈ vs, J1 v ∧ ps.length ≤ v.length) → ps.length ≤ y.length → (∀ x ∈ ps, 0 ≤ x) →
    oneL y vs ps = [resZ (elE (val y) (facs ps ps.length) (vs.map val))]
  | [], ps, _, hl, _ => by rw [oneL, h1, show oneAt 1 1 = [1] from rfl, powV_one hy _ hl]; rfl
  | v :: vs, ps, hv, hl, hp => by
    obtain ⟨hv0, hvl⟩ := hv v (by simp)
    rw [oneL, oneS_one (R := fun q => elE (val y) (facs q q.length) (vs.map val)) h1 hv0 hvl (fun i hi hpi => ?_) _ (Nat.le_refl _)]
    · rw [List.map_cons, elE_dir, picks_facs ps hp _ (Nat.le_refl _)]
      simp only [List.length_set]
    · refine oneL_one hy h1 vs _ (fun u hu => ?_) (by simpa using hl) (fun x hx => ?_)
      · have := hv u (by simp [hu]); simpa using this
      · rcases List.mem_or_eq_of_mem_set hx with hx | rfl
        · exact hp x hx
        · omega

-- the program
def selD (al : List (List (List Int))) (s : Nat) : Nat → List (Nat → Int)
  | 0 => []
  | d + 1 => if bitB s d then val (atLL al d) :: selD al s d else selD al s d
theorem bitB_eq (s d : Nat) : bitB s d = s.testBit d := by
  unfold bitB Nat.testBit
  rw [Nat.and_comm, Nat.one_and_eq_mod_two]
  rcases Nat.mod_two_eq_zero_or_one (s >>> d) with h | h <;> simp [h]
theorem selD_congr {al : List (List (List Int))} {s t : Nat} : ∀ n, (∀ d, d < n → s.testBit d = t.testBit d) → selD al s n = selD al t n
  | 0, _ => rfl
  | n + 1, h => by rw [selD, selD, selD_congr n (fun d hd => h d (by omega)), bitB_eq, bitB_eq, h n (by omega)]
theorem bit_flip (s d e : Nat) : (s ^^^ 1 <<< d).testBit e = (if e = d then !(s.testBit e) else s.testBit e) := by
  rw [Nat.testBit_xor, Nat.one_shiftLeft, Nat.testBit_two_pow]
  by_cases h : d = e
  · subst h; simp
  · have h2 : ¬ e = d := fun h2 => h h2.symm
    simp [h, h2]
theorem picks_sel (al : List (List (List Int))) (s : Nat) (g : (Nat → Int) × List (Nat → Int) → Int) : ∀ n,
    sumZ g (picks (selD al s n)) = sumZ (fun d => if bitB s d then g (val (atLL al d), selD al (s ^^^ 1 <<< d) n) else 0) (List.range n)
  | 0 => rfl
  | n + 1 => by
    rw [List.range_succ, sumZ_append, sumZ_cons, sumZ_nil, selD]
    have hsame : selD al (s ^^^ 1 <<< n) n = selD al s n := selD_congr n (fun d hd => by rw [bit_flip, if_neg (by omega)])
    by_cases hb : bitB s n = true
    · rw [if_pos hb, if_pos hb, picks, sumZ_cons, sumZ_map, picks_sel al s (fun p => g (p.1, val (atLL al n) :: p.2)) n]
      have e0 : selD al (s ^^^ 1 <<< n) (n + 1) = selD al s n := by
        rw [selD, if_neg (by rw [bitB_eq, bit_flip, if_pos rfl, ← bitB_eq, hb]; simp), hsame]
      rw [e0]
      have e1 : sumZ (fun d => if bitB s d then g (val (atLL al d), val (atLL al n) :: selD al (s ^^^ 1 <<< d) n) else 0) (List.range n) = sumZ (fun d => if bitB s d then g (val (atLL al d), selD al (s ^^^ 1 <<< d) (n + 1)) else 0) (List.range n) := by
        refine sumZ_congr fun d hd => ?_
        have hd' : d < n := by simpa using hd
        have e2 : selD al (s ^^^ 1 <<< d) (n + 1) = val (atLL al n) :: selD al (s ^^^ 1 <<< d) n := by rw [selD, if_pos (by rw [bitB_eq, bit_flip, if_neg (by omega), ← bitB_eq, hb])]
        rw [e2]
      rw [e1]
      omega
    · rw [if_neg hb, if_neg hb, picks_sel al s g n]
      have e1 : sumZ (fun d => if bitB s d then g (val (atLL al d), selD al (s ^^^ 1 <<< d) n) else 0) (List.range n) = sumZ (fun d => if bitB s d then g (val (atLL al d), selD al (s ^^^ 1 <<< d) (n + 1)) else 0) (List.range n) := by
        refine sumZ_congr fun d hd => ?_
        have hd' : d < n := by simpa using hd
        have e2 : selD al (s ^^^ 1 <<< d) (n + 1) = selD al (s ^^^ 1 <<< d) n := by rw [selD, if_neg (by rw [bitB_eq, bit_flip, if_neg (by omega), ← bitB_eq]; exact hb)]
        rw [e2]
      rw [e1]
      omega
theorem flip_lt {s d : Nat} (h : bitB s d = true) : s ^^^ 1 <<< d < s := by
  rw [bitB_eq] at h
  refine Nat.lt_of_le_of_ne (Nat.le_of_testBit fun i hi => ?_) fun he => ?_
  · rw [bit_flip] at hi
    by_cases hd : i = d
    · rw [hd]; exact h
    · rw [if_neg hd] at hi; exact hi
  · have := bit_flip s d d
    rw [he, if_pos rfl, h] at this
    simp at this
/-- what the parts hold -/
def Parts (c : Int) (Y : Nat → Int) (al : List (List (List Int))) (now : List (List Int)) (fs : List Nat) (s : Nat) : Prop := atL now s = [resZ (c * elE Y fs (selD al s al.length))]
theorem derX_one {c : Int} {now y : List (List Int)} {al : List (List (List Int))} {v s : Nat} {fs : List Nat} (hy : J1 y) (hv : v < y.length) (ha : ∀ a ∈ al, J1 a ∧ v < a.length)
    (hn : ∀ t, t ≤ s → Parts c (val y) al now fs t) : ∀ d, d ≤ al.length → derX now y al v s d = [resZ (c * (val y v * elE (val y) fs (selD al s al.length)) + c * sumZ (fun e => if bitB s e then val (atLL al e) v * elE (val y) fs (selD al (s ^^^ 1 <<< e) al.length) else 0) (List.range d))]
  | 0, _ => by
    rw [derX, hy v hv, mul_res (hn s (Nat.le_refl _))]
    congr 2
    simp [sumZ]
    grind
  | d + 1, h => by
    have ih := derX_one hy hv ha hn d (by omega)
    rw [derX, List.range_succ, sumZ_append, sumZ_cons, sumZ_nil, Int.add_zero]
    by_cases hb : bitB s d = true
    · rw [if_pos hb, if_pos hb]
      have hmem : al[d]? = some al[d] := List.getElem?_eq_getElem (by omega)
      obtain ⟨h1, h2⟩ := ha al[d] (List.getElem_mem _)
      rw [atLL_get hmem, h1 v h2, add_res 1 ih (mul_res (hn _ (Nat.le_of_lt (flip_lt hb))))]
      congr 2
      grind
    · rw [if_neg hb, if_neg hb, ih, Int.add_zero]
theorem derX_next {c : Int} {now y : List (List Int)} {al : List (List (List Int))} {v s : Nat} {fs : List Nat} (hy : J1 y) (hv : v < y.length) (ha : ∀ a ∈ al, J1 a ∧ v < a.length)
    (hn : ∀ t, t ≤ s → Parts c (val y) al now fs t) : derX now y al v s al.length = [resZ (c * elE (val y) (v :: fs) (selD al s al.length))] := by
  rw [derX_one hy hv ha hn _ (Nat.le_refl _), elE_cons, picks_sel al s (fun p => p.1 v * elE (val y) fs p.2), Int.mul_add]
theorem derS_one {c : Int} {now y : List (List Int)} {al : List (List (List Int))} {v : Nat} {fs : List Nat} (hy : J1 y) (hv : v < y.length) (ha : ∀ a ∈ al, J1 a ∧ v < a.length) (hl : now.length = 2 ^ al.length)
    (hn : ∀ t, t < 2 ^ al.length → Parts c (val y) al now fs t) : ∀ k, k ≤ 2 ^ al.length → (∀ t, t < 2 ^ al.length - k → Parts c (val y) al (derS now y al v k) fs t) ∧ (∀ t, 2 ^ al.length - k ≤ t → t < 2 ^ al.length → Parts c (val y) al (derS now y al v k) (v :: fs) t)
  | 0, _ => ⟨fun t ht => hn t (by omega), fun t h1 h2 => by omega⟩
  | k + 1, hk => by
    obtain ⟨i1, i2⟩ := derS_one hy hv ha hl hn k (by omega)
    have hlen : (derS now y al v k).length = 2 ^ al.length := by rw [derS_len, hl]
    have hx := derX_next (s := 2 ^ al.length - 1 - k) hy hv ha (fun t ht => i1 t (by omega))
    have hne : ∀ t, t ≠ 2 ^ al.length - 1 - k → atL (derS now y al v (k + 1)) t = atL (derS now y al v k) t := fun t ht => by
      rw [derS, atL, List.getElem?_set_ne (by omega), ← atL]
    refine ⟨fun t ht => ?_, fun t h1 h2 => ?_⟩
    · unfold Parts
      rw [hne t (by omega)]
      exact i1 t (by omega)
    · by_cases he : t = 2 ^ al.length - 1 - k
      · subst he
        unfold Parts
        rw [derS, atL, List.getElem?_set_self (by omega)]
        exact hx
      · unfold Parts
        rw [hne t he]
        exact i2 t (by omega) h2
theorem derN_one {c : Int} {now y : List (List Int)} {al : List (List (List Int))} {v : Nat} {fs : List Nat} (hy : J1 y) (hv : v < y.length) (ha : ∀ a ∈ al, J1 a ∧ v < a.length) (hl : now.length = 2 ^ al.length)
    (hn : ∀ t, t < 2 ^ al.length → Parts c (val y) al now fs t) : ∀ n, ∀ t, t < 2 ^ al.length → Parts c (val y) al (derN now y al v n) (List.replicate n v ++ fs) t
  | 0 => by simpa [derN] using hn
  | n + 1 => by
    have ih := derN_one hy hv ha hl hn n
    rw [derN, List.replicate_succ, List.cons_append]
    intro t ht
    exact (derS_one hy hv ha (by rw [derN_len, hl]) ih _ (Nat.le_refl _)).2 t (by omega) ht
theorem derV_one {c : Int} {now y : List (List Int)} {al : List (List (List Int))} {ps : List Int} (hy : J1 y) (ha : ∀ a ∈ al, J1 a ∧ y.length ≤ a.length) (hl : now.length = 2 ^ al.length)
    (hn : ∀ t, t < 2 ^ al.length → Parts c (val y) al now [] t) : ∀ v, v ≤ y.length → ∀ t, t < 2 ^ al.length → Parts c (val y) al (derV now y al ps v) (facs ps v) t
  | 0, _ => by simpa [derV, facs] using hn
  | v + 1, h => by
    have ih := derV_one (ps := ps) hy ha hl hn v (by omega)
    rw [derV, facs]
    exact derN_one hy (by omega) (fun a h' => ⟨(ha a h').1, by have := (ha a h').2; omega⟩) (by rw [derV_len, hl]) ih _
theorem selD_none {al : List (List (List Int))} {s : Nat} (n : Nat) (h : s = 0) : selD al s n = [] := by
  induction n with
  | zero => rfl
  | succ n ih => rw [selD, ih, h, bitB_eq]; simp
theorem selD_some {al : List (List (List Int))} {s : Nat} : ∀ n, s < 2 ^ n → s ≠ 0 → selD al s n ≠ []
  | 0, h, h0 => by simp at h; omega
  | n + 1, h, h0 => by
    rw [selD]
    by_cases hb : bitB s n = true
    · rw [if_pos hb]; simp
    · rw [if_neg hb]
      refine selD_some n ?_ h0
      rw [bitB_eq] at hb
      exact Nat.lt_of_not_le fun hle => hb (by
        have hd : s / 2 ^ n = 1 := by
          have h1 : 1 ≤ s / 2 ^ n := (Nat.le_div_iff_mul_le (Nat.two_pow_pos n)).2 (by omega)
          have h2 : s / 2 ^ n < 2 := (Nat.div_lt_iff_lt_mul (Nat.two_pow_pos n)).2 (by rw [Nat.pow_succ] at h; omega)
          omega
        rw [Nat.testBit_eq_decide_div_mod_eq, hd]
        rfl)
theorem selD_all {al : List (List (List Int))} : ∀ n, n ≤ al.length → ∀ s, (∀ d, d < n → s.testBit d = true) → selD al s n = ((al.take n).map val).reverse
  | 0, _, _, _ => by simp [selD]
  | n + 1, h, s, hs => by
    have hmem : al[n]? = some al[n] := List.getElem?_eq_getElem (by omega)
    rw [selD, if_pos (by rw [bitB_eq]; exact hs n (by omega)), selD_all n (by omega) s (fun d hd => hs d (by omega)), take_snoc hmem, atLL_get hmem, List.map_append, List.reverse_append]
    rfl
/-- The order of the directions does not matter. -/
theorem elE_rev2 (Y : Nat → Int) : ∀ (fs : List Nat) (a b : Nat → Int) (ds : List (Nat → Int)), elE Y fs (a :: b :: ds) = elE Y fs (b :: a :: ds) := by
  intro fs
  induction fs with
  | nil => intros; rfl
  | cons f fs ih =>
    intro a b ds
    rw [elE_cons, elE_cons, ih a b ds]
    simp only [picks, List.map_cons, List.map_map, sumZ_cons, sumZ_map, Function.comp_def]
    have : (fun p : (Nat → Int) × List (Nat → Int) => p.1 f * elE Y fs (a :: b :: p.2)) = fun p => p.1 f * elE Y fs (b :: a :: p.2) := by funext p; rw [ih a b]
    rw [this]
    omega
theorem elE_perm (Y : Nat → Int) {l m : List (Nat → Int)} (h : l.Perm m) : ∀ fs, elE Y fs l = elE Y fs m := by
  induction h with
  | nil => intro fs; rfl
  | cons x _ ih => intro fs; rw [elE_dir, elE_dir]; congr 1; funext q; rw [ih]
  | swap x y l => intro fs; exact elE_rev2 Y fs _ _ _
  | trans _ _ h1 h2 => intro fs; rw [h1, h2]
theorem derM_one {m : MonZ} {y : List (List Int)} {al : List (List (List Int))} (hc : 0 ≤ m.coef ∧ m.coef ≤ 1000000270) (hy : J1 y) (ha : ∀ a ∈ al, J1 a ∧ y.length ≤ a.length) (hp : m.pows.length ≤ y.length) :
    derM m y al 1 = [resZ (m.coef * elE (val y) (facs m.pows m.pows.length) (al.map val))] := by
  have hpos := Nat.two_pow_pos al.length
  have hst : ∀ t, t < 2 ^ al.length → Parts m.coef (val y) al ((List.replicate (2 ^ al.length) (List.replicate 1 (0 : Int))).set 0 (oneAt m.coef 1)) [] t := fun t ht => by
    unfold Parts
    by_cases h0 : t = 0
    · subst h0
      rw [atL, List.getElem?_set_self (by simpa using hpos), selD_none _ rfl]
      simp only [Option.getD_some, elE, Int.mul_one, resZ]
      rw [Int.emod_eq_of_lt hc.1 (by omega)]
      rfl
    · rw [atL, List.getElem?_set_ne (by omega), List.getElem?_replicate, if_pos ht]
      obtain ⟨a, l, hl⟩ := List.exists_cons_of_ne_nil (selD_some (al := al) al.length ht h0)
      rw [hl, elE]
      simp [resZ]
  have h := derV_one (ps := m.pows) hy ha (by simp) hst m.pows.length hp (2 ^ al.length - 1) (by omega)
  unfold Parts at h
  rw [derM, h, selD_all al.length (Nat.le_refl _) _ (fun d hd => by rw [Nat.testBit_two_pow_sub_one]; simpa using hd), List.take_length, elE_perm _ (List.reverse_perm _)]
theorem elE_short (Y : Nat → Int) : ∀ (fs : List Nat) (ds : List (Nat → Int)), fs.length < ds.length → elE Y fs ds = 0
  | [], ds, h => by
    cases ds with
    | nil => simp at h
    | cons d ds => rfl
  | f :: fs, ds, h => by
    rw [elE_cons, elE_short Y fs ds (by simp at h; omega)]
    have : sumZ (fun p => p.1 f * elE Y fs p.2) (picks ds) = sumZ (fun _ => 0) (picks ds) := by
      refine sumZ_congr fun p hp => ?_
      have hlen : ∀ (l : List (Nat → Int)) (q : (Nat → Int) × List (Nat → Int)), q ∈ picks l → q.2.length + 1 = l.length := by
        intro l
        induction l with
        | nil => intro q hq; simp [picks] at hq
        | cons x l ih =>
          intro q hq
          simp only [picks, List.mem_cons, List.mem_map] at hq
          rcases hq with rfl | ⟨r, hr, rfl⟩
          · simp
          · have := ih r hr; simp; omega
      rw [elE_short Y fs p.2 (by have := hlen ds p hp; simp at h; omega), Int.mul_zero]
    rw [this, sumZ_zero]
    simp
theorem facs_len (ps : List Int) (hp : ∀ x ∈ ps, 0 ≤ x) : ∀ n, n ≤ ps.length → ((facs ps n).length : Int) = (ps.take n).sum
  | 0, _ => by simp [facs]
  | n + 1, h => by
    have hx : ps[n]? = some ps[n] := List.getElem?_eq_getElem (by omega)
    have h0 : 0 ≤ ps[n] := hp _ (List.getElem_mem _)
    rw [facs, sum_snoc hx, List.length_append, List.length_replicate, atZ_get hx]
    have := facs_len ps hp n (by omega)
    omega
theorem derP_one {p : List MonZ} {y : List (List Int)} {al : List (List (List Int))} (hy : J1 y) (h1 : hdL y = 1) (ha : ∀ a ∈ al, J1 a ∧ y.length ≤ a.length)
    (hm : ∀ m ∈ p, 0 ≤ m.coef ∧ m.coef ≤ 1000000270 ∧ m.pows.length ≤ y.length ∧ 0 ≤ degZ m.pows) : ∀ k, k ≤ p.length → derP p y al 1 k = dervP p y al k
  | 0, _ => by rw [derP, dervP, h1]
  | k + 1, hk => by
    have hx : p[k]? = some p[k] := List.getElem?_eq_getElem (by omega)
    obtain ⟨hc0, hc1, hl, hd⟩ := hm p[k] (List.getElem_mem _)
    have hpos : ∀ x ∈ p[k].pows, 0 ≤ x := fun x hx => by
      unfold degZ at hd
      split at hd
      · rename_i hall
        have := List.all_eq_true.1 hall x hx
        simp [powIn] at this
        omega
      · omega
    have hdeg : degZ p[k].pows = p[k].pows.sum := by
      unfold degZ at hd ⊢
      split at hd
      · rename_i hall; rw [if_pos hall]
      · omega
    have hR := oneL_one hy h1 al p[k].pows (fun v hv => ⟨(ha v hv).1, by have := (ha v hv).2; omega⟩) hl hpos
    rw [derP, dervP, derP_one hy h1 ha hm k (by omega), derAdd, hx]
    simp only [Option.getD_some]
    have hlen := dervP_len p y al k
    rw [h1] at hlen
    obtain ⟨a, hA⟩ : ∃ a, dervP p y al k = [a] := ⟨_, one1_of hlen⟩
    have hnum := dervP_nums p y al k a (by rw [hA]; simp)
    have hAr : dervP p y al k = [resZ a] := by rw [hA, resZ, Int.emod_eq_of_lt hnum.1 (by omega)]
    by_cases hlt : degZ p[k].pows < al.length
    · rw [if_pos hlt, add_res _ hAr hR, hAr, elE_short _ _ _ (by
        have := facs_len p[k].pows hpos _ (Nat.le_refl _)
        rw [List.take_length] at this
        simp
        omega)]
      simp
    · rw [if_neg hlt, add_res _ hAr (derM_one ⟨hc0, hc1⟩ hy ha hl), add_res _ hAr hR]
      congr 2
      grind
theorem derL_one {p : List MonZ} {y : List (List Int)} {al : List (List (List Int))} (hy : J1 y) (h1 : hdL y = 1) (ha : ∀ a ∈ al, J1 a ∧ y.length ≤ a.length)
    (hm : ∀ m ∈ p, 0 ≤ m.coef ∧ m.coef ≤ 1000000270 ∧ m.pows.length ≤ y.length ∧ 0 ≤ degZ m.pows) : derL p y al 1 = dervL p y al := derP_one hy h1 ha hm _ (Nat.le_refl _)
end Go.Proofs.YtbcjhpgkodeoeaaGreatDoor

/- The numbers of a product of polynomials in h, power by power. Conditions: numbers. -/
namespace Go.Proofs.YtbcjhpgkodeoeaaGreatDoor
open Go.RowKit Go.Sort

theorem plus_res (a b c : Int) : plusZ (resZ a) (timesZ b c) = resZ (a + b * c) := by
  simp only [plusZ, timesZ, resZ, Int.add_emod_emod, Int.emod_add_emod]
theorem atZ_set {l : List Int} {i k : Nat} {x : Int} (h : i < l.length) : atZ (l.set i x) k = if k = i then x else atZ l k := by
  unfold atZ
  by_cases hk : k = i
  · subst hk; rw [List.getElem?_set_self h, if_pos rfl]; rfl
  · rw [List.getElem?_set_ne (by omega), if_neg hk]
theorem mulRow_at {out a b : List Int} {i : Nat} (k : Nat) : ∀ j, i + j ≤ out.length → atZ (mulRow out a b i j) k = if i ≤ k ∧ k < i + j then plusZ (atZ out k) (timesZ (atZ a i) (atZ b (k - i))) else atZ out k
  | 0, _ => by rw [mulRow, if_neg (by omega)]
  | j + 1, h => by
    rw [mulRow, atZ_set (by rw [mulRow_len]; omega)]
    by_cases hk : k = i + j
    · subst hk
      rw [if_pos rfl, mulRow_at _ j (by omega), if_neg (by omega), if_pos (by omega), show i + j - i = j by omega]
    · rw [if_neg hk, mulRow_at k j (by omega)]
      by_cases h2 : i ≤ k ∧ k < i + j
      · rw [if_pos h2, if_pos (by omega)]
      · rw [if_neg h2, if_neg (by omega)]
theorem atZ_rep (n k : Nat) : atZ (List.replicate n 0) k = 0 := by
  unfold atZ
  rw [List.getElem?_replicate]
  split <;> rfl
theorem mulCol_at {a b : List Int} {k : Nat} (hk : k < a.length) : ∀ i, i ≤ a.length → atZ (mulCol a b i) k = resZ (sumZ (fun p => atZ a p * atZ b (k - p)) (List.range (min i (k + 1))))
  | 0, _ => by rw [mulCol, atZ_rep, Nat.zero_min]; rfl
  | i + 1, h => by
    rw [mulCol, mulRow_at k _ (by rw [mulCol_len]; omega), mulCol_at hk i (by omega)]
    by_cases h2 : i ≤ k
    · rw [if_pos (by omega), plus_res, show min i (k + 1) = i by omega, show min (i + 1) (k + 1) = i + 1 by omega, List.range_succ, sumZ_append, sumZ_cons, sumZ_nil, Int.add_zero]
    · rw [if_neg (by omega), show min i (k + 1) = k + 1 by omega, show min (i + 1) (k + 1) = k + 1 by omega]
theorem mulZ_at {a b : List Int} {k : Nat} (hk : k < a.length) : atZ (mulZ a b) k = resZ (sumZ (fun p => atZ a p * atZ b (k - p)) (List.range (k + 1))) := by
  rw [mulZ, mulCol_at hk _ (Nat.le_refl _), show min a.length (k + 1) = k + 1 by omega]
theorem addJ_at {a b : List Int} {c : Int} {k : Nat} (hk : k < a.length) : atZ (addJ a b c) k = plusZ (atZ a k) (timesZ (atZ b k) c) := by
  simp [addJ, atZ, hk]

/-- the same up to the power r: lengths may differ, but not below r -/
def Agree (r : Nat) (a b : List Int) : Prop := r ≤ a.length ∧ r ≤ b.length ∧ ∀ k, k < r → atZ a k = atZ b k
theorem Agree.refl {r : Nat} {a : List Int} (h : r ≤ a.length) : Agree r a a := ⟨h, h, fun _ _ => rfl⟩
theorem Agree.symm {r : Nat} {a b : List Int} (h : Agree r a b) : Agree r b a := ⟨h.2.1, h.1, fun k hk => (h.2.2 k hk).symm⟩
theorem Agree.trans {r : Nat} {a b c : List Int} (h : Agree r a b) (g : Agree r b c) : Agree r a c := ⟨h.1, g.2.1, fun k hk => (h.2.2 k hk).trans (g.2.2 k hk)⟩
theorem Agree.le {r s : Nat} {a b : List Int} (h : Agree r a b) (hs : s ≤ r) : Agree s a b := ⟨by have := h.1; omega, by have := h.2.1; omega, fun k hk => h.2.2 k (by omega)⟩
theorem Agree.eq {r : Nat} {a b : List Int} (h : Agree r a b) (ha : a.length = r) (hb : b.length = r) : a = b := by
  refine List.ext_getElem? fun k => ?_
  by_cases hk : k < r
  · have := h.2.2 k hk
    unfold atZ at this
    rw [List.getElem?_eq_getElem (by omega), List.getElem?_eq_getElem (by omega)] at this ⊢
    exact congrArg some this
  · rw [List.getElem?_eq_none (by omega), List.getElem?_eq_none (by omega)]
theorem Agree.mul {r : Nat} {a a' b b' : List Int} (h : Agree r a a') (g : Agree r b b') : Agree r (mulZ a b) (mulZ a' b') := by
  refine ⟨by rw [mulZ_len]; exact h.1, by rw [mulZ_len]; exact h.2.1, fun k hk => ?_⟩
  rw [mulZ_at (by have := h.1; omega), mulZ_at (by have := h.2.1; omega)]
  congr 1
  refine sumZ_congr fun p hp => ?_
  have hp' : p < k + 1 := by simpa using hp
  rw [h.2.2 p (by omega), g.2.2 (k - p) (by omega)]
theorem Agree.add {r : Nat} {a a' b b' : List Int} (c : Int) (h : Agree r a a') (g : Agree r b b') : Agree r (addJ a b c) (addJ a' b' c) := by
  refine ⟨by rw [addJ_len]; exact h.1, by rw [addJ_len]; exact h.2.1, fun k hk => ?_⟩
  rw [addJ_at (by have := h.1; omega), addJ_at (by have := h.2.1; omega), h.2.2 k hk, g.2.2 k hk]
theorem Agree.zero {r n m : Nat} (hn : r ≤ n) (hm : r ≤ m) : Agree r (List.replicate n 0) (List.replicate m 0) := ⟨by simpa using hn, by simpa using hm, fun k _ => by rw [atZ_rep, atZ_rep]⟩
theorem Agree.one {r n m : Nat} (c : Int) (hn : r ≤ n) (hm : r ≤ m) : Agree r (oneAt c n) (oneAt c m) := by
  refine ⟨by rw [oneAt_len]; exact hn, by rw [oneAt_len]; exact hm, fun k hk => ?_⟩
  unfold oneAt
  rw [atZ_set (by simp; omega), atZ_set (by simp; omega), atZ_rep, atZ_rep]
theorem Agree.powN {r : Nat} {y y' a a' : List Int} (h : Agree r y y') (g : Agree r a a') (n : Nat) : Agree r (powN y a n) (powN y' a' n) := by
  induction n with
  | zero => exact g
  | succ n ih => exact ih.mul h
/-- all rows agree -/
def AgreeL (r : Nat) (y y' : List (List Int)) : Prop := y.length = y'.length ∧ ∀ i, i < y.length → Agree r (atL y i) (atL y' i)
theorem Agree.powV {r : Nat} {y y' : List (List Int)} {ps a a' : List Int} (h : AgreeL r y y') (g : Agree r a a') : ∀ v, v ≤ y.length → Agree r (powV y ps a v) (powV y' ps a' v)
  | 0, _ => g
  | v + 1, hv => (h.2 v (by omega)).powN (Agree.powV h g v (by omega)) _
theorem agree_dervP {r : Nat} {y y' : List (List Int)} {p : List MonZ} (h : AgreeL r y y') (h0 : r ≤ hdL y) (h1 : r ≤ hdL y') (hp : ∀ m ∈ p, m.pows.length ≤ y.length) : ∀ k, k ≤ p.length → Agree r (dervP p y [] k) (dervP p y' [] k)
  | 0, _ => Agree.zero h0 h1
  | k + 1, hk => by
    have hx : p[k]? = some p[k] := List.getElem?_eq_getElem (by omega)
    have hm := hp p[k] (List.getElem_mem _)
    rw [dervP, dervP, hx]
    simp only [Option.getD_some, oneL]
    exact (agree_dervP h h0 h1 hp k (by omega)).add _ (Agree.powV h (Agree.one 1 h0 h1) _ hm)
theorem agree_dervL {r : Nat} {y y' : List (List Int)} {p : List MonZ} (h : AgreeL r y y') (h0 : r ≤ hdL y) (h1 : r ≤ hdL y') (hp : ∀ m ∈ p, m.pows.length ≤ y.length) : Agree r (dervL p y []) (dervL p y' []) := agree_dervP h h0 h1 hp _ (Nat.le_refl _)

/-- the second has the first's numbers times powers of t -/
def Scaled (r : Nat) (t : Int) (a b : List Int) : Prop := r ≤ a.length ∧ r ≤ b.length ∧ ∀ k, k < r → atZ b k = resZ (t ^ k * atZ a k)
theorem res_mul {a b c : Int} (h : resZ a = resZ b) : resZ (c * a) = resZ (c * b) := by
  unfold resZ at h ⊢
  rw [← modr, h, modr]
theorem res_mul2 {a b c d : Int} (h : resZ a = resZ b) (g : resZ c = resZ d) : resZ (a * c) = resZ (b * d) := by
  rw [res_mul g, Int.mul_comm, Int.mul_comm b, res_mul h]
theorem res_add {a b c d : Int} (h : resZ a = resZ b) (g : resZ c = resZ d) : resZ (a + c) = resZ (b + d) := by
  unfold resZ at h g ⊢
  omega
theorem res_res (a : Int) : resZ (resZ a) = resZ a := Int.emod_emod _ _
theorem res_sum {α : Type} {f g : α → Int} {l : List α} (h : ∀ x ∈ l, resZ (f x) = resZ (g x)) : resZ (sumZ f l) = resZ (sumZ g l) := by
  induction l with
  | nil => rfl
  | cons x l ih => rw [sumZ_cons, sumZ_cons]; exact res_add (h x (by simp)) (ih (fun y hy => h y (by simp [hy])))
theorem Scaled.mul {r : Nat} {t : Int} {a a' b b' : List Int} (h : Scaled r t a a') (g : Scaled r t b b') : Scaled r t (mulZ a b) (mulZ a' b') := by
  refine ⟨by rw [mulZ_len]; exact h.1, by rw [mulZ_len]; exact h.2.1, fun k hk => ?_⟩
  rw [mulZ_at (by have := h.2.1; omega), mulZ_at (by have := h.1; omega), ← res_mul (res_res _).symm, ← sumZ_mul]
  refine res_sum fun p hp => ?_
  have hp' : p < k + 1 := by simpa using hp
  rw [h.2.2 p (by omega), g.2.2 (k - p) (by omega)]
  have e : t ^ k * (atZ a p * atZ b (k - p)) = (t ^ p * atZ a p) * (t ^ (k - p) * atZ b (k - p)) := by
    have : t ^ k = t ^ p * t ^ (k - p) := by rw [← Int.pow_add]; congr 1; omega
    rw [this]
    grind
  rw [e]
  exact res_mul2 (res_res _) (res_res _)
theorem Scaled.add {r : Nat} {t : Int} {a a' b b' : List Int} (c : Int) (h : Scaled r t a a') (g : Scaled r t b b') : Scaled r t (addJ a b c) (addJ a' b' c) := by
  refine ⟨by rw [addJ_len]; exact h.1, by rw [addJ_len]; exact h.2.1, fun k hk => ?_⟩
  rw [addJ_at (by have := h.2.1; omega), addJ_at (by have := h.1; omega), h.2.2 k hk, g.2.2 k hk]
  have e1 : plusZ (resZ (t ^ k * atZ a k)) (timesZ (resZ (t ^ k * atZ b k)) c) = resZ (t ^ k * atZ a k + t ^ k * atZ b k * c) := by
    rw [plus_res]
    exact res_add rfl (res_mul2 (res_res _) rfl)
  have e2 : resZ (t ^ k * plusZ (atZ a k) (timesZ (atZ b k) c)) = resZ (t ^ k * (atZ a k + atZ b k * c)) := by
    refine res_mul ?_
    simp only [plusZ, timesZ, resZ, Int.add_emod_emod, Int.emod_emod]
  rw [e1, e2]
  congr 1
  grind
theorem Scaled.zero {r n m : Nat} (t : Int) (hn : r ≤ n) (hm : r ≤ m) : Scaled r t (List.replicate n 0) (List.replicate m 0) := ⟨by simpa using hn, by simpa using hm, fun k _ => by rw [atZ_rep, atZ_rep]; simp [resZ]⟩
theorem Scaled.one {r n m : Nat} (t : Int) (hn : r ≤ n) (hm : r ≤ m) : Scaled r t (oneAt 1 n) (oneAt 1 m) := by
  refine ⟨by rw [oneAt_len]; exact hn, by rw [oneAt_len]; exact hm, fun k hk => ?_⟩
  unfold oneAt
  rw [atZ_set (by simp; omega), atZ_set (by simp; omega), atZ_rep, atZ_rep]
  by_cases h0 : k = 0
  · subst h0; simp [resZ]
  · simp [h0, resZ]
theorem Scaled.powN {r : Nat} {t : Int} {y y' a a' : List Int} (h : Scaled r t y y') (g : Scaled r t a a') (n : Nat) : Scaled r t (powN y a n) (powN y' a' n) := by
  induction n with
  | zero => exact g
  | succ n ih => exact ih.mul h
def ScaledL (r : Nat) (t : Int) (y y' : List (List Int)) : Prop := y.length = y'.length ∧ ∀ i, i < y.length → Scaled r t (atL y i) (atL y' i)
theorem Scaled.powV {r : Nat} {t : Int} {y y' : List (List Int)} {ps a a' : List Int} (h : ScaledL r t y y') (g : Scaled r t a a') : ∀ v, v ≤ y.length → Scaled r t (powV y ps a v) (powV y' ps a' v)
  | 0, _ => g
  | v + 1, hv => (h.2 v (by omega)).powN (Scaled.powV h g v (by omega)) _
theorem scaled_dervP {r : Nat} {t : Int} {y y' : List (List Int)} {p : List MonZ} (h : ScaledL r t y y') (h0 : r ≤ hdL y) (h1 : r ≤ hdL y') (hp : ∀ m ∈ p, m.pows.length ≤ y.length) : ∀ k, k ≤ p.length → Scaled r t (dervP p y [] k) (dervP p y' [] k)
  | 0, _ => Scaled.zero t h0 h1
  | k + 1, hk => by
    have hx : p[k]? = some p[k] := List.getElem?_eq_getElem (by omega)
    have hm := hp p[k] (List.getElem_mem _)
    rw [dervP, dervP, hx]
    simp only [Option.getD_some, oneL]
    exact (scaled_dervP h h0 h1 hp k (by omega)).add _ (Scaled.powV h (Scaled.one t h0 h1) _ hm)
theorem scaled_dervL {r : Nat} {t : Int} {y y' : List (List Int)} {p : List MonZ} (h : ScaledL r t y y') (h0 : r ≤ hdL y) (h1 : r ≤ hdL y') (hp : ∀ m ∈ p, m.pows.length ≤ y.length) : Scaled r t (dervL p y []) (dervL p y' []) := scaled_dervP h h0 h1 hp _ (Nat.le_refl _)
end Go.Proofs.YtbcjhpgkodeoeaaGreatDoor
