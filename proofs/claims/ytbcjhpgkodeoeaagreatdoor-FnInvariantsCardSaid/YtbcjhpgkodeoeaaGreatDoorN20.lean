/- The texts Fermat, SForm, DerP, DerQ, Conv in one: each says at its head what it proves. Conditions: as said there. -/
import Derived.Test.YtbcjhpgkodeoeaaGreatDoorN02
import Derived.Test.YtbcjhpgkodeoeaaGreatDoorN11
import Derived.Test.YtbcjhpgkodeoeaaGreatDoorN03
set_option linter.unusedSimpArgs false
set_option linter.unusedVariables false
/- The number 1000000271 is prime, and what is not zero has an inverse: Fermat's law. Plain: no program's step stands here. -/
namespace Go.Proofs.YtbcjhpgkodeoeaaGreatDoor

/-- Pascal's numbers. -/
def ch : Nat → Nat → Nat
  | _, 0 => 1
  | 0, _ + 1 => 0
  | n + 1, k + 1 => ch n k + ch n (k + 1)
theorem ch_zero (n : Nat) : ch n 0 = 1 := by cases n <;> rfl
theorem ch_succ (n k : Nat) : ch (n + 1) (k + 1) = ch n k + ch n (k + 1) := rfl
theorem ch_abs : ∀ n k, (k + 1) * ch (n + 1) (k + 1) = (n + 1) * ch n k
  | 0, 0 => rfl
  | 0, k + 1 => by simp [ch]
  | n + 1, 0 => by
    have h := ch_abs n 0
    rw [ch_succ, ch_zero]
    rw [ch_zero] at h
    omega
  | n + 1, j + 1 => by
    have h1 := ch_abs n j
    have h2 := ch_abs n (j + 1)
    rw [ch_succ (n + 1) (j + 1), Nat.mul_add, h2]
    have h3 : (j + 1 + 1) * ch (n + 1) (j + 1) = (n + 1) * ch n j + ch (n + 1) (j + 1) := by rw [← h1]; grind
    rw [h3, ch_succ n j]
    grind
theorem ch_out : ∀ n k, n < k → ch n k = 0
  | 0, k + 1, _ => rfl
  | n + 1, k + 1, h => by rw [ch_succ, ch_out n k (by omega), ch_out n (k + 1) (by omega)]
def chS (n x : Nat) : Nat → Nat
  | 0 => 0
  | m + 1 => chS n x m + ch n m * x ^ m
theorem chS_succ (n x : Nat) : ∀ m, chS (n + 1) x (m + 1) = chS n x (m + 1) + x * chS n x m
  | 0 => by simp [chS, ch_zero]
  | m + 1 => by
    rw [chS, chS_succ n x m, chS, chS, chS, ch_succ]
    grind
theorem chS_pow (x : Nat) : ∀ n, (x + 1) ^ n = chS n x (n + 1)
  | 0 => by simp [chS, ch]
  | n + 1 => by
    rw [chS_succ, Nat.pow_succ, chS_pow x n]
    have : chS n x (n + 1 + 1) = chS n x (n + 1) := by rw [chS, ch_out n (n + 1) (by omega)]; simp
    rw [this]
    grind
/-- Nothing divides it but 1 and itself. -/
def Prim (p : Nat) : Prop := 1 < p ∧ ∀ d, d ∣ p → d = 1 ∨ d = p
theorem prim_coprime {p k : Nat} (hp : Prim p) (hk : ¬ p ∣ k) : Nat.Coprime p k := by
  rcases hp.2 _ (Nat.gcd_dvd_left p k) with h | h
  · exact h
  · exact absurd (h ▸ Nat.gcd_dvd_right p k) hk
theorem prim_ch {p k : Nat} (hp : Prim p) (h0 : 0 < k) (hk : k < p) : p ∣ ch p k := by
  obtain ⟨n, rfl⟩ : ∃ n, p = n + 1 := ⟨p - 1, by omega⟩
  obtain ⟨j, rfl⟩ : ∃ j, k = j + 1 := ⟨k - 1, by omega⟩
  have h : (n + 1) ∣ (j + 1) * ch (n + 1) (j + 1) := ⟨ch n j, ch_abs n j⟩
  exact (prim_coprime hp (fun hd => by have := Nat.le_of_dvd (by omega) hd; omega)).dvd_of_dvd_mul_left h
theorem chS_mod {p x : Nat} (hp : Prim p) : ∀ m, m < p → chS p x (m + 1) % p = 1
  | 0, _ => by rw [chS, chS, ch_zero]; simp; exact Nat.mod_eq_of_lt hp.1
  | m + 1, h => by
    obtain ⟨c, hc⟩ := prim_ch hp (by omega : 0 < m + 1) h
    rw [chS, hc, Nat.mul_assoc, Nat.add_mul_mod_self_left]
    exact chS_mod hp m (by omega)
theorem ch_self : ∀ n, ch n n = 1
  | 0 => rfl
  | n + 1 => by rw [ch_succ, ch_self n, ch_out n (n + 1) (by omega)]
theorem fermat {p : Nat} (hp : Prim p) : ∀ a, a ^ p % p = a % p
  | 0 => by rw [Nat.zero_pow (by have := hp.1; omega)]
  | a + 1 => by
    have h2 := hp.1
    have h1 : chS p a (p + 1) = chS p a p + ch p p * a ^ p := rfl
    rw [chS_pow, h1, ch_self, Nat.one_mul]
    have h3 : chS p a p % p = 1 := by
      have := chS_mod (x := a) hp (p - 1) (by omega)
      rwa [show p - 1 + 1 = p by omega] at this
    rw [Nat.add_mod, h3, fermat hp a, ← Nat.add_mod_mod, Nat.mod_mod, Nat.add_comm a 1, Nat.add_mod_mod]
theorem fermat_one {p a : Nat} (hp : Prim p) (ha : ¬ p ∣ a) : a ^ (p - 1) % p = 1 := by
  have h2 := hp.1
  have h0 : 0 < a := Nat.pos_of_ne_zero fun h => ha (h ▸ Nat.dvd_zero p)
  have h1 := fermat hp a
  have hx : 1 ≤ a ^ (p - 1) := Nat.one_le_iff_ne_zero.2 (Nat.pos_iff_ne_zero.1 (Nat.pow_pos h0))
  have h3 : a ^ p = a * a ^ (p - 1) := by
    conv => lhs; rw [show p = p - 1 + 1 by omega]
    rw [Nat.pow_succ, Nat.mul_comm]
  have h4 : p ∣ a * (a ^ (p - 1) - 1) := by
    rw [Nat.mul_sub, Nat.mul_one, ← h3]
    exact Nat.dvd_of_mod_eq_zero (Nat.sub_mod_eq_zero_of_mod_eq h1)
  obtain ⟨c, hc⟩ := (prim_coprime hp ha).dvd_of_dvd_mul_left h4
  rw [show a ^ (p - 1) = 1 + p * c by omega, Nat.add_mul_mod_self_left]
  exact Nat.mod_eq_of_lt h2

theorem no_div : ((List.range 31624).all fun d => d < 2 || 1000000271 % d != 0) = true := by decide +kernel
theorem prime_p : Prim 1000000271 := by
  refine ⟨by omega, fun d hd => ?_⟩
  obtain ⟨e, he⟩ := hd
  have key : ∀ x y : Nat, 1000000271 = x * y → x ≤ y → x = 1 := fun x y h hxy => by
    have hx : x < 31624 := by
      apply Nat.lt_of_not_le
      intro hge
      have : 31624 * 31624 ≤ x * y := Nat.mul_le_mul hge (by omega)
      omega
    have := List.all_eq_true.1 no_div x (List.mem_range.2 hx)
    have hm : 1000000271 % x = 0 := Nat.mod_eq_zero_of_dvd ⟨y, h⟩
    simp [hm] at this
    rcases (by omega : x = 0 ∨ x = 1) with rfl | rfl
    · simp at h
    · rfl
  rcases Nat.le_total d e with h | h
  · exact .inl (key d e he h)
  · have := key e d (by rw [he, Nat.mul_comm]) h
    subst this
    omega
/-- What is not zero has an inverse. -/
theorem inv_one {a : Int} (h : a % 1000000271 ≠ 0) : timesZ a (powZ a 1000000269) = 1 := by
  obtain ⟨r, hr⟩ : ∃ r : Nat, a % 1000000271 = r := ⟨(a % 1000000271).toNat, by omega⟩
  have hf := fermat_one (a := r) prime_p (fun hd => by have := Nat.le_of_dvd (by omega) hd; omega)
  have hp : powZ a 1000000269 = a ^ (1000000269 : Nat) % 1000000271 := by unfold powZ; rw [if_neg (by omega)]; rfl
  have h1 : ∀ k : Nat, a ^ k % 1000000271 = (r : Int) ^ k % 1000000271 := fun k => by
    induction k with
    | zero => simp
    | succ k ih => rw [Int.pow_succ, Int.pow_succ, Int.mul_emod, ih, hr, Int.mul_emod (↑r ^ k), Int.emod_eq_of_lt (a := (r : Int)) (by omega) (by omega)]
  unfold timesZ
  rw [hp, Int.mul_emod, Int.emod_emod, ← Int.mul_emod, Int.mul_comm, ← Int.pow_succ, h1]
  have := congrArg (Nat.cast (R := Int)) hf
  simpa using this
#print axioms inv_one
end Go.Proofs.YtbcjhpgkodeoeaaGreatDoor

/- SymplecticForm of the reference and of the program. Conditions: lengths of slices up to 2^20. -/
namespace Go.Proofs.YtbcjhpgkodeoeaaGreatDoor
open Go.RowKit Go.Sort

theorem pathOk_facts {xs : List (List Int)} {n : Nat} (h : pathOkB xs n = true) : 1 ≤ xs.length ∧ xs.length ≤ 7 ∧ (∀ y ∈ xs, y.length = n) ∧ ∀ y ∈ xs, Nums y := by
  simp only [pathOkB, Bool.and_eq_true, decide_eq_true_eq, List.all_eq_true, rowOkB] at h
  refine ⟨h.1.1, h.1.2, fun y hy => by have := (h.2 y hy).1; omega, fun y hy x hx => ?_⟩
  have := (h.2 y hy).2 x hx
  simp only [isNumB, decide_eq_true_eq] at this
  omega
theorem colZ_len (xs : List (List Int)) (i : Nat) : (colZ xs i).length = xs.length := by simp [colZ]
theorem colZ_nums {xs : List (List Int)} (h : ∀ y ∈ xs, Nums y) (i : Nat) : Nums (colZ xs i) := fun x hx => by
  simp only [colZ, List.mem_map] at hx
  obtain ⟨y, hy, rfl⟩ := hx
  cases hc : y[i]? with
  | none => simp
  | some z => exact nums_at (h y hy) hc
theorem turnZ_get (xs : List (List Int)) {n i : Nat} (h : i < n) : (turnZ xs n)[i]? = some (colZ xs i) := by simp [turnZ, h]
theorem turnZ_len (xs : List (List Int)) (n : Nat) : (turnZ xs n).length = n := by simp [turnZ]

def hdL (u : List (List Int)) : Nat := (u.head?.getD []).length
end Go.Proofs.YtbcjhpgkodeoeaaGreatDoor

/- What the derivative of a polynomial along directions computes, in plain lists; without directions it is a sum of products. Conditions: numbers. -/
namespace Go.Proofs.YtbcjhpgkodeoeaaGreatDoor
open Go.RowKit Go.Sort

def atL (l : List (List Int)) (i : Nat) : List Int := l[i]?.getD []
theorem atL_get {l : List (List Int)} {i : Nat} {x : List Int} (h : l[i]? = some x) : atL l i = x := by simp [atL, h]
def atLL (l : List (List (List Int))) (i : Nat) : List (List Int) := l[i]?.getD []
theorem atLL_get {l : List (List (List Int))} {i : Nat} {x : List (List Int)} (h : l[i]? = some x) : atLL l i = x := by simp [atLL, h]
def bitB (s d : Nat) : Bool := (s >>> d) &&& 1 == 1

/-- A set's part after d directions. -/
def derX (now y : List (List Int)) (al : List (List (List Int))) (v s : Nat) : Nat → List Int
  | 0 => mulZ (atL now s) (atL y v)
  | d + 1 => if bitB s d then addJ (derX now y al v s d) (mulZ (atL now (s ^^^ 1 <<< d)) (atL (atLL al d) v)) 1 else derX now y al v s d
/-- The sets' parts after one more factor; k sets done. -/
def derS (now y : List (List Int)) (al : List (List (List Int))) (v : Nat) : Nat → List (List Int)
  | 0 => now
  | k + 1 => (derS now y al v k).set (2 ^ al.length - 1 - k) (derX (derS now y al v k) y al v (2 ^ al.length - 1 - k) al.length)
/-- n factors of one variable -/
def derN (now y : List (List Int)) (al : List (List (List Int))) (v : Nat) : Nat → List (List Int)
  | 0 => now
  | n + 1 => derS (derN now y al v n) y al v (2 ^ al.length)
def derV (now y : List (List Int)) (al : List (List (List Int))) (ps : List Int) : Nat → List (List Int)
  | 0 => now
  | v + 1 => derN (derV now y al ps v) y al v (atZ ps v).toNat
def oneAt (c : Int) (size : Nat) : List Int := (List.replicate size 0).set 0 c
def derM (m : MonZ) (y : List (List Int)) (al : List (List (List Int))) (size : Nat) : List Int :=
  atL (derV ((List.replicate (2 ^ al.length) (List.replicate size 0)).set 0 (oneAt m.coef size)) y al m.pows m.pows.length) (2 ^ al.length - 1)
def derAdd (out : List Int) (m : MonZ) (y : List (List Int)) (al : List (List (List Int))) (size : Nat) : List Int :=
  if degZ m.pows < al.length then out else addJ out (derM m y al size) 1
def derP (p : List MonZ) (y : List (List Int)) (al : List (List (List Int))) (size : Nat) : Nat → List Int
  | 0 => List.replicate size 0
  | k + 1 => derAdd (derP p y al size k) (p[k]?.getD default) y al size
def derL (p : List MonZ) (y : List (List Int)) (al : List (List (List Int))) (size : Nat) : List Int := derP p y al size p.length

/-- A product of powers: n factors, then all variables. -/
def powN (y : List Int) (a : List Int) : Nat → List Int
  | 0 => a
  | n + 1 => mulZ (powN y a n) y
def powV (y : List (List Int)) (ps : List Int) (a : List Int) : Nat → List Int
  | 0 => a
  | v + 1 => powN (atL y v) (powV y ps a v) (atZ ps v).toNat
/-- The reference's derivative of a product of powers along vectors. -/
def oneS (y : List (List Int)) (ps : List Int) (v0 : List (List Int)) (rec : List Int → List Int) : Nat → List Int
  | 0 => List.replicate (hdL y) 0
  | i + 1 => if 0 < atZ ps i then addJ (oneS y ps v0 rec i) (mulZ (atL v0 i) (rec (ps.set i (atZ ps i - 1)))) (atZ ps i) else oneS y ps v0 rec i
def oneL (y : List (List Int)) : List (List (List Int)) → List Int → List Int
  | [], ps => powV y ps (oneAt 1 (hdL y)) ps.length
  | v :: vs, ps => oneS y ps v (oneL y vs) ps.length
def dervP (p : List MonZ) (y : List (List Int)) (vs : List (List (List Int))) : Nat → List Int
  | 0 => List.replicate (hdL y) 0
  | k + 1 => addJ (dervP p y vs k) (oneL y vs (p[k]?.getD default).pows) (p[k]?.getD default).coef
def dervL (p : List MonZ) (y : List (List Int)) (vs : List (List (List Int))) : List Int := dervP p y vs p.length

theorem modl (a b : Int) : (a % 1000000271 * b) % 1000000271 = (a * b) % 1000000271 := by rw [Int.mul_emod, Int.emod_emod, ← Int.mul_emod]
theorem modr (a b : Int) : (a * (b % 1000000271)) % 1000000271 = (a * b) % 1000000271 := by rw [Int.mul_emod, Int.emod_emod, ← Int.mul_emod]

def smulZ (c : Int) (xs : List Int) : List Int := xs.map fun x => timesZ x c
theorem smulZ_len (c : Int) (xs : List Int) : (smulZ c xs).length = xs.length := by simp [smulZ]
theorem smulZ_at (c : Int) (xs : List Int) (i : Nat) : atZ (smulZ c xs) i = timesZ (atZ xs i) c := by
  unfold atZ smulZ
  rw [List.getElem?_map]
  cases xs[i]? <;> simp [timesZ]
theorem mulRow_smul (c : Int) (out a b : List Int) (i j : Nat) : mulRow (smulZ c out) (smulZ c a) b i j = smulZ c (mulRow out a b i j) := by
  induction j with
  | zero => rfl
  | succ j ih =>
    rw [mulRow, mulRow, ih, smulZ_at, smulZ_at, smulZ, smulZ, List.map_set]
    congr 1
    simp only [plusZ, timesZ, modl, modr, Int.add_emod_emod, Int.emod_add_emod]
    congr 1
    grind
theorem mulCol_smul (c : Int) (a b : List Int) (i : Nat) : mulCol (smulZ c a) b i = smulZ c (mulCol a b i) := by
  induction i with
  | zero => simp [mulCol, smulZ, timesZ]
  | succ i ih => rw [mulCol, mulCol, ih, smulZ_len, mulRow_smul]
theorem mulZ_smul (c : Int) (a b : List Int) : mulZ (smulZ c a) b = smulZ c (mulZ a b) := by rw [mulZ, mulZ, smulZ_len, mulCol_smul]
theorem powN_smul (c : Int) (y a : List Int) (n : Nat) : powN y (smulZ c a) n = smulZ c (powN y a n) := by
  induction n with
  | zero => rfl
  | succ n ih => rw [powN, powN, ih, mulZ_smul]
theorem powV_smul (c : Int) (y : List (List Int)) (ps a : List Int) (v : Nat) : powV y ps (smulZ c a) v = smulZ c (powV y ps a v) := by
  induction v with
  | zero => rfl
  | succ v ih => rw [powV, powV, ih, powN_smul]
theorem addJ_smul (out x : List Int) (c : Int) : addJ out (smulZ c x) 1 = addJ out x c := by
  unfold addJ
  congr 1
  funext i
  rw [smulZ_at]
  simp only [plusZ, timesZ, modl, modr, Int.add_emod_emod, Int.emod_add_emod]
  congr 1
  grind
theorem oneAt_smul {c : Int} (h0 : 0 ≤ c) (h1 : c ≤ 1000000270) (n : Nat) : oneAt c n = smulZ c (oneAt 1 n) := by
  unfold oneAt smulZ
  rw [List.map_set, List.map_replicate]
  simp only [timesZ, Int.zero_mul, Int.one_mul]
  rw [Int.emod_eq_of_lt h0 (by omega)]
  rfl
theorem powN_len (y a : List Int) (n : Nat) : (powN y a n).length = a.length := by
  induction n with
  | zero => rfl
  | succ n ih => rw [powN, mulZ_len, ih]
theorem powV_len (y : List (List Int)) (ps a : List Int) (v : Nat) : (powV y ps a v).length = a.length := by
  induction v with
  | zero => rfl
  | succ v ih => rw [powV, powN_len, ih]
theorem oneAt_len (c : Int) (n : Nat) : (oneAt c n).length = n := by simp [oneAt]
theorem oneAt_nums {c : Int} (h : 0 ≤ c ∧ c ≤ 1000000270) (n : Nat) : Nums (oneAt c n) := nums_set (nums_zero n) h
theorem dervP_len (p : List MonZ) (y : List (List Int)) (vs : List (List (List Int))) (k : Nat) : (dervP p y vs k).length = hdL y := by
  induction k with
  | zero => simp [dervP]
  | succ k ih => rw [dervP, addJ_len, ih]
theorem dervP_nums (p : List MonZ) (y : List (List Int)) (vs : List (List (List Int))) (k : Nat) : Nums (dervP p y vs k) := by
  cases k with
  | zero => exact nums_zero _
  | succ k => exact nums_add _ _ _

-- lengths and numbers of the program's own
def AllJ (size : Nat) (l : List (List Int)) : Prop := ∀ x ∈ l, x.length = size ∧ Nums x
theorem allJ_at {size : Nat} {l : List (List Int)} (h : AllJ size l) {i : Nat} {x : List Int} (hx : l[i]? = some x) : x.length = size ∧ Nums x := h x (List.mem_of_getElem? hx)
theorem allJ_set {size : Nat} {l : List (List Int)} (h : AllJ size l) {i : Nat} {x : List Int} (hx : x.length = size ∧ Nums x) : AllJ size (l.set i x) := fun z hz => by
  rcases List.mem_or_eq_of_mem_set hz with hz | rfl
  · exact h z hz
  · exact hx
theorem derX_ok {now y : List (List Int)} {al : List (List (List Int))} {v s size : Nat} (h : (atL now s).length = size) (d : Nat) : (derX now y al v s d).length = size ∧ Nums (derX now y al v s d) := by
  induction d with
  | zero => exact ⟨by rw [derX, mulZ_len, h], mulZ_nums _ _⟩
  | succ d ih =>
    rw [derX]
    split
    · exact ⟨by rw [addJ_len, ih.1], nums_add _ _ _⟩
    · exact ih
theorem derS_len (now y : List (List Int)) (al : List (List (List Int))) (v k : Nat) : (derS now y al v k).length = now.length := by
  induction k with
  | zero => rfl
  | succ k ih => rw [derS, List.length_set, ih]
theorem derS_ok {now y : List (List Int)} {al : List (List (List Int))} {v size : Nat} (hl : now.length = 2 ^ al.length) (h : AllJ size now) (k : Nat) : AllJ size (derS now y al v k) := by
  induction k with
  | zero => exact h
  | succ k ih =>
    have hlt : 2 ^ al.length - 1 - k < (derS now y al v k).length := by
      rw [derS_len, hl]
      have := Nat.two_pow_pos al.length
      omega
    refine allJ_set ih (derX_ok ?_ _)
    rw [atL_get (List.getElem?_eq_getElem hlt)]
    exact (ih _ (List.getElem_mem hlt)).1
theorem derN_len (now y : List (List Int)) (al : List (List (List Int))) (v n : Nat) : (derN now y al v n).length = now.length := by
  induction n with
  | zero => rfl
  | succ n ih => rw [derN, derS_len, ih]
theorem derN_ok {now y : List (List Int)} {al : List (List (List Int))} {v size : Nat} (hl : now.length = 2 ^ al.length) (h : AllJ size now) (n : Nat) : AllJ size (derN now y al v n) := by
  induction n with
  | zero => exact h
  | succ n ih => exact derS_ok (by rw [derN_len, hl]) ih _
theorem derV_len (now y : List (List Int)) (al : List (List (List Int))) (ps : List Int) (v : Nat) : (derV now y al ps v).length = now.length := by
  induction v with
  | zero => rfl
  | succ v ih => rw [derV, derN_len, ih]
theorem derV_ok {now y : List (List Int)} {al : List (List (List Int))} {ps : List Int} {size : Nat} (hl : now.length = 2 ^ al.length) (h : AllJ size now) (v : Nat) : AllJ size (derV now y al ps v) := by
  induction v with
  | zero => exact h
  | succ v ih => exact derN_ok (by rw [derV_len, hl]) ih _
theorem derStart_ok {c : Int} (hc : 0 ≤ c ∧ c ≤ 1000000270) (n size : Nat) : AllJ size ((List.replicate n (List.replicate size (0 : Int))).set 0 (oneAt c size)) := by
  refine allJ_set (fun x hx => ?_) ⟨oneAt_len _ _, oneAt_nums hc _⟩
  rw [List.eq_of_mem_replicate hx]
  exact ⟨by simp, nums_zero _⟩
theorem derAdd_len (out : List Int) (m : MonZ) (y : List (List Int)) (al : List (List (List Int))) (size : Nat) : (derAdd out m y al size).length = out.length := by
  unfold derAdd
  split
  · rfl
  · rw [addJ_len]
theorem derP_len (p : List MonZ) (y : List (List Int)) (al : List (List (List Int))) (size k : Nat) : (derP p y al size k).length = size := by
  induction k with
  | zero => simp [derP]
  | succ k ih => rw [derP, derAdd_len, ih]
theorem derP_nums (p : List MonZ) (y : List (List Int)) (al : List (List (List Int))) (size k : Nat) : Nums (derP p y al size k) := by
  induction k with
  | zero => exact nums_zero _
  | succ k ih =>
    rw [derP, derAdd]
    split
    · exact ih
    · exact nums_add _ _ _

-- no directions
theorem derN_nil (a : List Int) (y : List (List Int)) (v n : Nat) : derN [a] y [] v n = [powN (atL y v) a n] := by
  induction n with
  | zero => rfl
  | succ n ih =>
    rw [derN, ih]
    simp [derS, derX, atL, powN]
theorem derV_nil (a : List Int) (y : List (List Int)) (ps : List Int) (v : Nat) : derV [a] y [] ps v = [powV y ps a v] := by
  induction v with
  | zero => rfl
  | succ v ih => rw [derV, ih, derN_nil, powV]
theorem derM_nil (m : MonZ) (y : List (List Int)) (size : Nat) : derM m y [] size = powV y m.pows (oneAt m.coef size) m.pows.length := by
  have : (List.replicate (2 ^ ([] : List (List (List Int))).length) (List.replicate size (0 : Int))).set 0 (oneAt m.coef size) = [oneAt m.coef size] := by simp
  rw [derM, this, derV_nil]
  simp [atL]
theorem degZ_nonneg {ps : List Int} (h : 0 ≤ degZ ps) : ¬ degZ ps < (([] : List (List (List Int))).length : Int) := by simp; exact h
theorem derP_nil (p : List MonZ) (y : List (List Int)) (size : Nat) (hs : size = hdL y) (hc : ∀ m ∈ p, 0 ≤ m.coef ∧ m.coef ≤ 1000000270 ∧ 0 ≤ degZ m.pows) :
    ∀ k, k ≤ p.length → derP p y [] size k = dervP p y [] k
  | 0, _ => by rw [derP, dervP, hs]
  | k + 1, hk => by
    have hm : p[k]? = some p[k] := List.getElem?_eq_getElem (by omega)
    obtain ⟨h0, h1, h2⟩ := hc p[k] (List.getElem_mem (by omega))
    rw [derP, dervP, derP_nil p y size hs hc k (by omega), derAdd, if_neg (by rw [hm]; exact degZ_nonneg h2), derM_nil, hm]
    simp only [Option.getD_some]
    rw [oneAt_smul h0 h1, powV_smul, addJ_smul, hs]
    rfl
theorem derL_nil {p : List MonZ} {y : List (List Int)} {size : Nat} (hs : size = hdL y) (hc : ∀ m ∈ p, 0 ≤ m.coef ∧ m.coef ≤ 1000000270 ∧ 0 ≤ degZ m.pows) : derL p y [] size = dervL p y [] := derP_nil p y size hs hc _ (Nat.le_refl _)
end Go.Proofs.YtbcjhpgkodeoeaaGreatDoor

/- The derivative along directions by sets of directions is the derivative along one direction after the other; for polynomials in h of one number. Conditions: numbers. -/
namespace Go.Proofs.YtbcjhpgkodeoeaaGreatDoor
open Go.RowKit Go.Sort

def sumZ {α : Type} (f : α → Int) (l : List α) : Int := (l.map f).sum
theorem sumZ_nil {α : Type} (f : α → Int) : sumZ f [] = 0 := rfl
theorem sumZ_cons {α : Type} (f : α → Int) (x : α) (l : List α) : sumZ f (x :: l) = f x + sumZ f l := by simp [sumZ]
theorem sumZ_append {α : Type} (f : α → Int) (l m : List α) : sumZ f (l ++ m) = sumZ f l + sumZ f m := by simp [sumZ]
theorem sumZ_add {α : Type} (f g : α → Int) (l : List α) : sumZ (fun x => f x + g x) l = sumZ f l + sumZ g l := by
  induction l with
  | nil => rfl
  | cons x l ih => simp only [sumZ_cons, ih]; omega
theorem sumZ_mul {α : Type} (f : α → Int) (c : Int) (l : List α) : sumZ (fun x => c * f x) l = c * sumZ f l := by
  induction l with
  | nil => simp [sumZ]
  | cons x l ih => simp only [sumZ_cons, ih]; grind
theorem sumZ_zero {α : Type} (l : List α) : sumZ (fun _ => 0) l = 0 := by
  induction l with
  | nil => rfl
  | cons x l ih => simp [sumZ_cons, ih]
theorem sumZ_congr {α : Type} {f g : α → Int} {l : List α} (h : ∀ x ∈ l, f x = g x) : sumZ f l = sumZ g l := by
  induction l with
  | nil => rfl
  | cons x l ih => rw [sumZ_cons, sumZ_cons, h x (by simp), ih (fun y hy => h y (by simp [hy]))]

def resZ (a : Int) : Int := a % 1000000271
def hd (x : List Int) : Int := atZ x 0
theorem bitB_eq (s d : Nat) : bitB s d = s.testBit d := by
  unfold bitB Nat.testBit
  rw [Nat.and_comm, Nat.one_and_eq_mod_two]
  rcases Nat.mod_two_eq_zero_or_one (s >>> d) with h | h <;> simp [h]
theorem bit_flip (s d e : Nat) : (s ^^^ 1 <<< d).testBit e = (if e = d then !(s.testBit e) else s.testBit e) := by
  rw [Nat.testBit_xor, Nat.one_shiftLeft, Nat.testBit_two_pow]
  by_cases h : d = e
  · subst h; simp
  · have h2 : ¬ e = d := fun h2 => h h2.symm
    simp [h, h2]
theorem flip_lt {s d : Nat} (h : bitB s d = true) : s ^^^ 1 <<< d < s := by
  rw [bitB_eq] at h
  refine Nat.lt_of_le_of_ne (Nat.le_of_testBit fun i hi => ?_) fun he => ?_
  · rw [bit_flip] at hi
    by_cases hd : i = d
    · rw [hd]; exact h
    · rw [if_neg hd] at hi; exact hi
  · have := bit_flip s d d
    rw [he, if_pos rfl, h] at this
    simp at this
end Go.Proofs.YtbcjhpgkodeoeaaGreatDoor

/- The numbers of a product of polynomials in h, power by power. Conditions: numbers. -/
namespace Go.Proofs.YtbcjhpgkodeoeaaGreatDoor
open Go.RowKit Go.Sort

theorem plus_res (a b c : Int) : plusZ (resZ a) (timesZ b c) = resZ (a + b * c) := by
  simp only [plusZ, timesZ, resZ, Int.add_emod_emod, Int.emod_add_emod]
theorem atZ_set {l : List Int} {i k : Nat} {x : Int} (h : i < l.length) : atZ (l.set i x) k = if k = i then x else atZ l k := by
  unfold atZ
  by_cases hk : k = i
  · subst hk; rw [List.getElem?_set_self h, if_pos rfl]; rfl
  · rw [List.getElem?_set_ne (by omega), if_neg hk]
theorem mulRow_at {out a b : List Int} {i : Nat} (k : Nat) : ∀ j, i + j ≤ out.length → atZ (mulRow out a b i j) k = if i ≤ k ∧ k < i + j then plusZ (atZ out k) (timesZ (atZ a i) (atZ b (k - i))) else atZ out k
  | 0, _ => by rw [mulRow, if_neg (by omega)]
  | j + 1, h => by
    rw [mulRow, atZ_set (by rw [mulRow_len]; omega)]
    by_cases hk : k = i + j
    · subst hk
      rw [if_pos rfl, mulRow_at _ j (by omega), if_neg (by omega), if_pos (by omega), show i + j - i = j by omega]
    · rw [if_neg hk, mulRow_at k j (by omega)]
      by_cases h2 : i ≤ k ∧ k < i + j
      · rw [if_pos h2, if_pos (by omega)]
      · rw [if_neg h2, if_neg (by omega)]
theorem atZ_rep (n k : Nat) : atZ (List.replicate n 0) k = 0 := by
  unfold atZ
  rw [List.getElem?_replicate]
  split <;> rfl
theorem mulCol_at {a b : List Int} {k : Nat} (hk : k < a.length) : ∀ i, i ≤ a.length → atZ (mulCol a b i) k = resZ (sumZ (fun p => atZ a p * atZ b (k - p)) (List.range (min i (k + 1))))
  | 0, _ => by rw [mulCol, atZ_rep, Nat.zero_min]; rfl
  | i + 1, h => by
    rw [mulCol, mulRow_at k _ (by rw [mulCol_len]; omega), mulCol_at hk i (by omega)]
    by_cases h2 : i ≤ k
    · rw [if_pos (by omega), plus_res, show min i (k + 1) = i by omega, show min (i + 1) (k + 1) = i + 1 by omega, List.range_succ, sumZ_append, sumZ_cons, sumZ_nil, Int.add_zero]
    · rw [if_neg (by omega), show min i (k + 1) = k + 1 by omega, show min (i + 1) (k + 1) = k + 1 by omega]
theorem mulZ_at {a b : List Int} {k : Nat} (hk : k < a.length) : atZ (mulZ a b) k = resZ (sumZ (fun p => atZ a p * atZ b (k - p)) (List.range (k + 1))) := by
  rw [mulZ, mulCol_at hk _ (Nat.le_refl _), show min a.length (k + 1) = k + 1 by omega]
theorem addJ_at {a b : List Int} {c : Int} {k : Nat} (hk : k < a.length) : atZ (addJ a b c) k = plusZ (atZ a k) (timesZ (atZ b k) c) := by
  simp [addJ, atZ, hk]

/-- the same up to the power r: lengths may differ, but not below r -/
def Agree (r : Nat) (a b : List Int) : Prop := r ≤ a.length ∧ r ≤ b.length ∧ ∀ k, k < r → atZ a k = atZ b k
theorem Agree.refl {r : Nat} {a : List Int} (h : r ≤ a.length) : Agree r a a := ⟨h, h, fun _ _ => rfl⟩
theorem Agree.symm {r : Nat} {a b : List Int} (h : Agree r a b) : Agree r b a := ⟨h.2.1, h.1, fun k hk => (h.2.2 k hk).symm⟩
theorem Agree.trans {r : Nat} {a b c : List Int} (h : Agree r a b) (g : Agree r b c) : Agree r a c := ⟨h.1, g.2.1, fun k hk => (h.2.2 k hk).trans (g.2.2 k hk)⟩
theorem Agree.le {r s : Nat} {a b : List Int} (h : Agree r a b) (hs : s ≤ r) : Agree s a b := ⟨by have := h.1; omega, by have := h.2.1; omega, fun k hk => h.2.2 k (by omega)⟩
theorem Agree.eq {r : Nat} {a b : List Int} (h : Agree r a b) (ha : a.length = r) (hb : b.length = r) : a = b := by
  refine List.ext_getElem? fun k => ?_
  by_cases hk : k < r
  · have := h.2.2 k hk
    unfold atZ at this
    rw [List.getElem?_eq_getElem (by omega), List.getElem?_eq_getElem (by omega)] at this ⊢
    exact congrArg some this
  · rw [List.getElem?_eq_none (by omega), List.getElem?_eq_none (by omega)]
theorem Agree.mul {r : Nat} {a a' b b' : List Int} (h : Agree r a a') (g : Agree r b b') : Agree r (mulZ a b) (mulZ a' b') := by
  refine ⟨by rw [mulZ_len]; exact h.1, by rw [mulZ_len]; exact h.2.1, fun k hk => ?_⟩
  rw [mulZ_at (by have := h.1; omega), mulZ_at (by have := h.2.1; omega)]
  congr 1
  refine sumZ_congr fun p hp => ?_
  have hp' : p < k + 1 := by simpa using hp
  rw [h.2.2 p (by omega), g.2.2 (k - p) (by omega)]
theorem Agree.add {r : Nat} {a a' b b' : List Int} (c : Int) (h : Agree r a a') (g : Agree r b b') : Agree r (addJ a b c) (addJ a' b' c) := by
  refine ⟨by rw [addJ_len]; exact h.1, by rw [addJ_len]; exact h.2.1, fun k hk => ?_⟩
  rw [addJ_at (by have := h.1; omega), addJ_at (by have := h.2.1; omega), h.2.2 k hk, g.2.2 k hk]
theorem Agree.zero {r n m : Nat} (hn : r ≤ n) (hm : r ≤ m) : Agree r (List.replicate n 0) (List.replicate m 0) := ⟨by simpa using hn, by simpa using hm, fun k _ => by rw [atZ_rep, atZ_rep]⟩
theorem Agree.one {r n m : Nat} (c : Int) (hn : r ≤ n) (hm : r ≤ m) : Agree r (oneAt c n) (oneAt c m) := by
  refine ⟨by rw [oneAt_len]; exact hn, by rw [oneAt_len]; exact hm, fun k hk => ?_⟩
  unfold oneAt
  rw [atZ_set (by simp; omega), atZ_set (by simp; omega), atZ_rep, atZ_rep]
theorem Agree.powN {r : Nat} {y y' a a' : List Int} (h : Agree r y y') (g : Agree r a a') (n : Nat) : Agree r (powN y a n) (powN y' a' n) := by
  induction n with
  | zero => exact g
  | succ n ih => exact ih.mul h
/-- all rows agree -/
def AgreeL (r : Nat) (y y' : List (List Int)) : Prop := y.length = y'.length ∧ ∀ i, i < y.length → Agree r (atL y i) (atL y' i)
theorem Agree.powV {r : Nat} {y y' : List (List Int)} {ps a a' : List Int} (h : AgreeL r y y') (g : Agree r a a') : ∀ v, v ≤ y.length → Agree r (powV y ps a v) (powV y' ps a' v)
  | 0, _ => g
  | v + 1, hv => (h.2 v (by omega)).powN (Agree.powV h g v (by omega)) _
theorem agree_dervP {r : Nat} {y y' : List (List Int)} {p : List MonZ} (h : AgreeL r y y') (h0 : r ≤ hdL y) (h1 : r ≤ hdL y') (hp : ∀ m ∈ p, m.pows.length ≤ y.length) : ∀ k, k ≤ p.length → Agree r (dervP p y [] k) (dervP p y' [] k)
  | 0, _ => Agree.zero h0 h1
  | k + 1, hk => by
    have hx : p[k]? = some p[k] := List.getElem?_eq_getElem (by omega)
    have hm := hp p[k] (List.getElem_mem _)
    rw [dervP, dervP, hx]
    simp only [Option.getD_some, oneL]
    exact (agree_dervP h h0 h1 hp k (by omega)).add _ (Agree.powV h (Agree.one 1 h0 h1) _ hm)
theorem agree_dervL {r : Nat} {y y' : List (List Int)} {p : List MonZ} (h : AgreeL r y y') (h0 : r ≤ hdL y) (h1 : r ≤ hdL y') (hp : ∀ m ∈ p, m.pows.length ≤ y.length) : Agree r (dervL p y []) (dervL p y' []) := agree_dervP h h0 h1 hp _ (Nat.le_refl _)

/-- the second has the first's numbers times powers of t -/
def Scaled (r : Nat) (t : Int) (a b : List Int) : Prop := r ≤ a.length ∧ r ≤ b.length ∧ ∀ k, k < r → atZ b k = resZ (t ^ k * atZ a k)
theorem res_mul {a b c : Int} (h : resZ a = resZ b) : resZ (c * a) = resZ (c * b) := by
  unfold resZ at h ⊢
  rw [← modr, h, modr]
theorem res_mul2 {a b c d : Int} (h : resZ a = resZ b) (g : resZ c = resZ d) : resZ (a * c) = resZ (b * d) := by
  rw [res_mul g, Int.mul_comm, Int.mul_comm b, res_mul h]
theorem res_add {a b c d : Int} (h : resZ a = resZ b) (g : resZ c = resZ d) : resZ (a + c) = resZ (b + d) := by
  unfold resZ at h g ⊢
  omega
theorem res_res (a : Int) : resZ (resZ a) = resZ a := Int.emod_emod _ _
theorem res_sum {α : Type} {f g : α → Int} {l : List α} (h : ∀ x ∈ l, resZ (f x) = resZ (g x)) : resZ (sumZ f l) = resZ (sumZ g l) := by
  induction l with
  | nil => rfl
  | cons x l ih => rw [sumZ_cons, sumZ_cons]; exact res_add (h x (by simp)) (ih (fun y hy => h y (by simp [hy])))
theorem Scaled.mul {r : Nat} {t : Int} {a a' b b' : List Int} (h : Scaled r t a a') (g : Scaled r t b b') : Scaled r t (mulZ a b) (mulZ a' b') := by
  refine ⟨by rw [mulZ_len]; exact h.1, by rw [mulZ_len]; exact h.2.1, fun k hk => ?_⟩
  rw [mulZ_at (by have := h.2.1; omega), mulZ_at (by have := h.1; omega), ← res_mul (res_res _).symm, ← sumZ_mul]
  refine res_sum fun p hp => ?_
  have hp' : p < k + 1 := by simpa using hp
  rw [h.2.2 p (by omega), g.2.2 (k - p) (by omega)]
  have e : t ^ k * (atZ a p * atZ b (k - p)) = (t ^ p * atZ a p) * (t ^ (k - p) * atZ b (k - p)) := by
    have : t ^ k = t ^ p * t ^ (k - p) := by rw [← Int.pow_add]; congr 1; omega
    rw [this]
    grind
  rw [e]
  exact res_mul2 (res_res _) (res_res _)
theorem Scaled.add {r : Nat} {t : Int} {a a' b b' : List Int} (c : Int) (h : Scaled r t a a') (g : Scaled r t b b') : Scaled r t (addJ a b c) (addJ a' b' c) := by
  refine ⟨by rw [addJ_len]; exact h.1, by rw [addJ_len]; exact h.2.1, fun k hk => ?_⟩
  rw [addJ_at (by have := h.2.1; omega), addJ_at (by have := h.1; omega), h.2.2 k hk, g.2.2 k hk]
  have e1 : plusZ (resZ (t ^ k * atZ a k)) (timesZ (resZ (t ^ k * atZ b k)) c) = resZ (t ^ k * atZ a k + t ^ k * atZ b k * c) := by
    rw [plus_res]
    exact res_add rfl (res_mul2 (res_res _) rfl)
  have e2 : resZ (t ^ k * plusZ (atZ a k) (timesZ (atZ b k) c)) = resZ (t ^ k * (atZ a k + atZ b k * c)) := by
    refine res_mul ?_
    simp only [plusZ, timesZ, resZ, Int.add_emod_emod, Int.emod_emod]
  rw [e1, e2]
  congr 1
  grind
theorem Scaled.zero {r n m : Nat} (t : Int) (hn : r ≤ n) (hm : r ≤ m) : Scaled r t (List.replicate n 0) (List.replicate m 0) := ⟨by simpa using hn, by simpa using hm, fun k _ => by rw [atZ_rep, atZ_rep]; simp [resZ]⟩
theorem Scaled.one {r n m : Nat} (t : Int) (hn : r ≤ n) (hm : r ≤ m) : Scaled r t (oneAt 1 n) (oneAt 1 m) := by
  refine ⟨by rw [oneAt_len]; exact hn, by rw [oneAt_len]; exact hm, fun k hk => ?_⟩
  unfold oneAt
  rw [atZ_set (by simp; omega), atZ_set (by simp; omega), atZ_rep, atZ_rep]
  by_cases h0 : k = 0
  · subst h0; simp [resZ]
  · simp [h0, resZ]
theorem Scaled.powN {r : Nat} {t : Int} {y y' a a' : List Int} (h : Scaled r t y y') (g : Scaled r t a a') (n : Nat) : Scaled r t (powN y a n) (powN y' a' n) := by
  induction n with
  | zero => exact g
  | succ n ih => exact ih.mul h
def ScaledL (r : Nat) (t : Int) (y y' : List (List Int)) : Prop := y.length = y'.length ∧ ∀ i, i < y.length → Scaled r t (atL y i) (atL y' i)
theorem Scaled.powV {r : Nat} {t : Int} {y y' : List (List Int)} {ps a a' : List Int} (h : ScaledL r t y y') (g : Scaled r t a a') : ∀ v, v ≤ y.length → Scaled r t (powV y ps a v) (powV y' ps a' v)
  | 0, _ => g
  | v + 1, hv => (h.2 v (by omega)).powN (Scaled.powV h g v (by omega)) _
theorem scaled_dervP {r : Nat} {t : Int} {y y' : List (List Int)} {p : List MonZ} (h : ScaledL r t y y') (h0 : r ≤ hdL y) (h1 : r ≤ hdL y') (hp : ∀ m ∈ p, m.pows.length ≤ y.length) : ∀ k, k ≤ p.length → Scaled r t (dervP p y [] k) (dervP p y' [] k)
  | 0, _ => Scaled.zero t h0 h1
  | k + 1, hk => by
    have hx : p[k]? = some p[k] := List.getElem?_eq_getElem (by omega)
    have hm := hp p[k] (List.getElem_mem _)
    rw [dervP, dervP, hx]
    simp only [Option.getD_some, oneL]
    exact (scaled_dervP h h0 h1 hp k (by omega)).add _ (Scaled.powV h (Scaled.one t h0 h1) _ hm)
theorem scaled_dervL {r : Nat} {t : Int} {y y' : List (List Int)} {p : List MonZ} (h : ScaledL r t y y') (h0 : r ≤ hdL y) (h1 : r ≤ hdL y') (hp : ∀ m ∈ p, m.pows.length ≤ y.length) : Scaled r t (dervL p y []) (dervL p y' []) := scaled_dervP h h0 h1 hp _ (Nat.le_refl _)
end Go.Proofs.YtbcjhpgkodeoeaaGreatDoor
