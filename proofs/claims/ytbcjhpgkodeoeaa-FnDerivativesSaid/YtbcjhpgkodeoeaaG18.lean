/- The texts SForm, DerP in one: each says at its head what it proves. Conditions: as said there. -/
import Derived.Test.YtbcjhpgkodeoeaaG15
import Derived.Test.YtbcjhpgkodeoeaaG08
set_option linter.unusedSimpArgs false
set_option linter.unusedVariables false
/- SymplecticForm of the reference and of the program. Conditions: lengths of slices up to 2^20. -/
namespace Go.Proofs.Ytbcjhpgkodeoeaa
open Go.RowKit Go.Sort

theorem pathOk_facts {xs : List (List Int)} {n : Nat} (h : pathOkB xs n = true) : 1 ≤ xs.length ∧ xs.length ≤ 7 ∧ (∀ y ∈ xs, y.length = n) ∧ ∀ y ∈ xs, Nums y := by
  simp only [pathOkB, Bool.and_eq_true, decide_eq_true_eq, List.all_eq_true, rowOkB] at h
  refine ⟨h.1.1, h.1.2, fun y hy => by have := (h.2 y hy).1; omega, fun y hy x hx => ?_⟩
  have := (h.2 y hy).2 x hx
  simp only [isNumB, decide_eq_true_eq] at this
  omega
theorem colZ_len (xs : List (List Int)) (i : Nat) : (colZ xs i).length = xs.length := by simp [colZ]
theorem colZ_nums {xs : List (List Int)} (h : ∀ y ∈ xs, Nums y) (i : Nat) : Nums (colZ xs i) := fun x hx => by
  simp only [colZ, List.mem_map] at hx
  obtain ⟨y, hy, rfl⟩ := hx
  cases hc : y[i]? with
  | none => simp
  | some z => exact nums_at (h y hy) hc
theorem turnZ_get (xs : List (List Int)) {n i : Nat} (h : i < n) : (turnZ xs n)[i]? = some (colZ xs i) := by simp [turnZ, h]
theorem turnZ_len (xs : List (List Int)) (n : Nat) : (turnZ xs n).length = n := by simp [turnZ]

def hdL (u : List (List Int)) : Nat := (u.head?.getD []).length
def sfOkB (u v : List (List Int)) : Bool := decide (u.length ≠ 0 ∧ u.length = v.length) && (decide (hdL u % 2 = 0) && (pathOkB u (hdL u) && pathOkB v (hdL u)))
def sfStep (u v : List (List Int)) (n : Nat) (out : List Int) (i : Nat) : List Int := addJ (addJ out (mulZ (colZ u i) (colZ v (n + i))) 1) (mulZ (colZ u (n + i)) (colZ v i)) (-1)
def sfZ (u v : List (List Int)) (n : Nat) : Nat → List Int
  | 0 => List.replicate u.length 0
  | i + 1 => sfStep u v n (sfZ u v n i) i
def sympFormL (u v : List (List Int)) : List Int := if sfOkB u v then sfZ u v (hdL u / 2) (hdL u / 2) else []
theorem sfZ_len (u v : List (List Int)) (n i : Nat) : (sfZ u v n i).length = u.length := by
  induction i with
  | zero => simp [sfZ]
  | succ i ih => simp [sfZ, sfStep, addJ_len, ih]
theorem sfZ_nums (u v : List (List Int)) (n i : Nat) : Nums (sfZ u v n i) := by
  cases i with
  | zero => exact nums_zero _
  | succ i => exact nums_add _ _ _

theorem turn_get {w : World} {ad : Option Addr} {l cap n i : Nat} {xs : List (List Int)} (h : RdII w (.slice ad l cap) (turnZ xs n)) (hi : i < n) :
    ∃ b off ad' len' cap', ad = some ⟨b, off, none⟩ ∧ w.cell? ⟨b, off + i, none⟩ = some (.slice ad' len' cap') ∧ len' = xs.length ∧ RdI w (.slice ad' len' cap') (colZ xs i) := by
  obtain ⟨ad0, l0, cap0, he, hl, _, _, h'⟩ := rdS_open h
  simp only [Value.slice.injEq] at he
  obtain ⟨rfl, rfl, rfl⟩ := he
  rw [turnZ_len] at hl
  obtain ⟨b, off, ad', len', cap', y, rfl, hy, hcc, h6, _, _, h9, _⟩ := rdII_get h' (k := i) (by omega)
  rw [turnZ_get xs hi] at hy
  obtain rfl := Option.some.inj hy
  rw [colZ_len] at h6
  exact ⟨b, off, ad', len', cap', rfl, hcc, h6.symm, h9⟩

end Go.Proofs.Ytbcjhpgkodeoeaa

/- What the derivative of a polynomial along directions computes, in plain lists; without directions it is a sum of products. Conditions: numbers. -/
namespace Go.Proofs.Ytbcjhpgkodeoeaa
open Go.RowKit Go.Sort

def atL (l : List (List Int)) (i : Nat) : List Int := l[i]?.getD []
theorem atL_get {l : List (List Int)} {i : Nat} {x : List Int} (h : l[i]? = some x) : atL l i = x := by simp [atL, h]
def atLL (l : List (List (List Int))) (i : Nat) : List (List Int) := l[i]?.getD []
theorem atLL_get {l : List (List (List Int))} {i : Nat} {x : List (List Int)} (h : l[i]? = some x) : atLL l i = x := by simp [atLL, h]
def bitB (s d : Nat) : Bool := (s >>> d) &&& 1 == 1

/-- A set's part after d directions. -/
def derX (now y : List (List Int)) (al : List (List (List Int))) (v s : Nat) : Nat → List Int
  | 0 => mulZ (atL now s) (atL y v)
  | d + 1 => if bitB s d then addJ (derX now y al v s d) (mulZ (atL now (s ^^^ 1 <<< d)) (atL (atLL al d) v)) 1 else derX now y al v s d
/-- The sets' parts after one more factor; k sets done. -/
def derS (now y : List (List Int)) (al : List (List (List Int))) (v : Nat) : Nat → List (List Int)
  | 0 => now
  | k + 1 => (derS now y al v k).set (2 ^ al.length - 1 - k) (derX (derS now y al v k) y al v (2 ^ al.length - 1 - k) al.length)
/-- n factors of one variable -/
def derN (now y : List (List Int)) (al : List (List (List Int))) (v : Nat) : Nat → List (List Int)
  | 0 => now
  | n + 1 => derS (derN now y al v n) y al v (2 ^ al.length)
def derV (now y : List (List Int)) (al : List (List (List Int))) (ps : List Int) : Nat → List (List Int)
  | 0 => now
  | v + 1 => derN (derV now y al ps v) y al v (atZ ps v).toNat
def oneAt (c : Int) (size : Nat) : List Int := (List.replicate size 0).set 0 c
def derM (m : MonZ) (y : List (List Int)) (al : List (List (List Int))) (size : Nat) : List Int :=
  atL (derV ((List.replicate (2 ^ al.length) (List.replicate size 0)).set 0 (oneAt m.coef size)) y al m.pows m.pows.length) (2 ^ al.length - 1)
def derAdd (out : List Int) (m : MonZ) (y : List (List Int)) (al : List (List (List Int))) (size : Nat) : List Int :=
  if degZ m.pows < al.length then out else addJ out (derM m y al size) 1
def derP (p : List MonZ) (y : List (List Int)) (al : List (List (List Int))) (size : Nat) : Nat → List Int
  | 0 => List.replicate size 0
  | k + 1 => derAdd (derP p y al size k) (p[k]?.getD default) y al size
def derL (p : List MonZ) (y : List (List Int)) (al : List (List (List Int))) (size : Nat) : List Int := derP p y al size p.length

/-- A product of powers: n factors, then all variables. -/
def powN (y : List Int) (a : List Int) : Nat → List Int
  | 0 => a
  | n + 1 => mulZ (powN y a n) y
def powV (y : List (List Int)) (ps : List Int) (a : List Int) : Nat → List Int
  | 0 => a
  | v + 1 => powN (atL y v) (powV y ps a v) (atZ ps v).toNat
/-- The reference's derivative of a product of powers along vectors. -/
def oneS (y : List (List Int)) (ps : List Int) (v0 : List (List Int)) (rec : List Int → List Int) : Nat → List Int
  | 0 => List.replicate (hdL y) 0
  | i + 1 => if 0 < atZ ps i then addJ (oneS y ps v0 rec i) (mulZ (atL v0 i) (rec (ps.set i (atZ ps i - 1)))) (atZ ps i) else oneS y ps v0 rec i
def oneL (y : List (List Int)) : List (List (List Int)) → List Int → List Int
  | [], ps => powV y ps (oneAt 1 (hdL y)) ps.length
  | v :: vs, ps => oneS y ps v (oneL y vs) ps.length
def dervP (p : List MonZ) (y : List (List Int)) (vs : List (List (List Int))) : Nat → List Int
  | 0 => List.replicate (hdL y) 0
  | k + 1 => addJ (dervP p y vs k) (oneL y vs (p[k]?.getD default).pows) (p[k]?.getD default).coef
def dervL (p : List MonZ) (y : List (List Int)) (vs : List (List (List Int))) : List Int := dervP p y vs p.length

theorem modl (a b : Int) : (a % 1000000271 * b) % 1000000271 = (a * b) % 1000000271 := by rw [Int.mul_emod, Int.emod_emod, ← Int.mul_emod]
theorem modr (a b : Int) : (a * (b % 1000000271)) % 1000000271 = (a * b) % 1000000271 := by rw [Int.mul_emod, Int.emod_emod, ← Int.mul_emod]

def smulZ (c : Int) (xs : List Int) : List Int := xs.map fun x => timesZ x c
theorem smulZ_len (c : Int) (xs : List Int) : (smulZ c xs).length = xs.length := by simp [smulZ]
theorem smulZ_at (c : Int) (xs : List Int) (i : Nat) : atZ (smulZ c xs) i = timesZ (atZ xs i) c := by
  unfold atZ smulZ
  rw [List.getElem?_map]
  cases xs[i]? <;> simp [timesZ]
theorem mulRow_smul (c : Int) (out a b : List Int) (i j : Nat) : mulRow (smulZ c out) (smulZ c a) b i j = smulZ c (mulRow out a b i j) := by
  induction j with
  | zero => rfl
  | succ j ih =>
    rw [mulRow, mulRow, ih, smulZ_at, smulZ_at, smulZ, smulZ, List.map_set]
    congr 1
    simp only [plusZ, timesZ, modl, modr, Int.add_emod_emod, Int.emod_add_emod]
    congr 1
    grind
theorem mulCol_smul (c : Int) (a b : List Int) (i : Nat) : mulCol (smulZ c a) b i = smulZ c (mulCol a b i) := by
  induction i with
  | zero => simp [mulCol, smulZ, timesZ]
  | succ i ih => rw [mulCol, mulCol, ih, smulZ_len, mulRow_smul]
theorem mulZ_smul (c : Int) (a b : List Int) : mulZ (smulZ c a) b = smulZ c (mulZ a b) := by rw [mulZ, mulZ, smulZ_len, mulCol_smul]
theorem powN_smul (c : Int) (y a : List Int) (n : Nat) : powN y (smulZ c a) n = smulZ c (powN y a n) := by
  induction n with
  | zero => rfl
  | succ n ih => rw [powN, powN, ih, mulZ_smul]
theorem powV_smul (c : Int) (y : List (List Int)) (ps a : List Int) (v : Nat) : powV y ps (smulZ c a) v = smulZ c (powV y ps a v) := by
  induction v with
  | zero => rfl
  | succ v ih => rw [powV, powV, ih, powN_smul]
theorem addJ_smul (out x : List Int) (c : Int) : addJ out (smulZ c x) 1 = addJ out x c := by
  unfold addJ
  congr 1
  funext i
  rw [smulZ_at]
  simp only [plusZ, timesZ, modl, modr, Int.add_emod_emod, Int.emod_add_emod]
  congr 1
  grind
theorem oneAt_smul {c : Int} (h0 : 0 ≤ c) (h1 : c ≤ 1000000270) (n : Nat) : oneAt c n = smulZ c (oneAt 1 n) := by
  unfold oneAt smulZ
  rw [List.map_set, List.map_replicate]
  simp only [timesZ, Int.zero_mul, Int.one_mul]
  rw [Int.emod_eq_of_lt h0 (by omega)]
  rfl
theorem powN_len (y a : List Int) (n : Nat) : (powN y a n).length = a.length := by
  induction n with
  | zero => rfl
  | succ n ih => rw [powN, mulZ_len, ih]
theorem powV_len (y : List (List Int)) (ps a : List Int) (v : Nat) : (powV y ps a v).length = a.length := by
  induction v with
  | zero => rfl
  | succ v ih => rw [powV, powN_len, ih]
theorem oneAt_len (c : Int) (n : Nat) : (oneAt c n).length = n := by simp [oneAt]
theorem powN_nums {y a : List Int} (h : Nums a) (n : Nat) : Nums (powN y a n) := by
  cases n with
  | zero => exact h
  | succ n => exact mulZ_nums _ _
theorem powV_nums {y : List (List Int)} {ps a : List Int} (h : Nums a) (v : Nat) : Nums (powV y ps a v) := by
  induction v with
  | zero => exact h
  | succ v ih => exact powN_nums ih _
theorem oneAt_nums {c : Int} (h : 0 ≤ c ∧ c ≤ 1000000270) (n : Nat) : Nums (oneAt c n) := nums_set (nums_zero n) h
theorem oneS_len (y : List (List Int)) (ps : List Int) (v0 : List (List Int)) (rec : List Int → List Int) (i : Nat) : (oneS y ps v0 rec i).length = hdL y := by
  induction i with
  | zero => simp [oneS]
  | succ i ih => rw [oneS]; split <;> simp [addJ_len, ih]
theorem oneS_nums (y : List (List Int)) (ps : List Int) (v0 : List (List Int)) (rec : List Int → List Int) (i : Nat) : Nums (oneS y ps v0 rec i) := by
  induction i with
  | zero => exact nums_zero _
  | succ i ih => rw [oneS]; split; exact nums_add _ _ _; exact ih
theorem oneL_len (y : List (List Int)) (vs : List (List (List Int))) (ps : List Int) : (oneL y vs ps).length = hdL y := by
  cases vs with
  | nil => rw [oneL, powV_len, oneAt_len]
  | cons v vs => rw [oneL, oneS_len]
theorem oneL_nums (y : List (List Int)) (vs : List (List (List Int))) (ps : List Int) : Nums (oneL y vs ps) := by
  cases vs with
  | nil => rw [oneL]; exact powV_nums (oneAt_nums (by omega) _) _
  | cons v vs => rw [oneL]; exact oneS_nums _ _ _ _ _
theorem dervP_len (p : List MonZ) (y : List (List Int)) (vs : List (List (List Int))) (k : Nat) : (dervP p y vs k).length = hdL y := by
  induction k with
  | zero => simp [dervP]
  | succ k ih => rw [dervP, addJ_len, ih]
theorem dervP_nums (p : List MonZ) (y : List (List Int)) (vs : List (List (List Int))) (k : Nat) : Nums (dervP p y vs k) := by
  cases k with
  | zero => exact nums_zero _
  | succ k => exact nums_add _ _ _

-- lengths and numbers of the program's own
def AllJ (size : Nat) (l : List (List Int)) : Prop := ∀ x ∈ l, x.length = size ∧ Nums x
theorem allJ_at {size : Nat} {l : List (List Int)} (h : AllJ size l) {i : Nat} {x : List Int} (hx : l[i]? = some x) : x.length = size ∧ Nums x := h x (List.mem_of_getElem? hx)
theorem allJ_set {size : Nat} {l : List (List Int)} (h : AllJ size l) {i : Nat} {x : List Int} (hx : x.length = size ∧ Nums x) : AllJ size (l.set i x) := fun z hz => by
  rcases List.mem_or_eq_of_mem_set hz with hz | rfl
  · exact h z hz
  · exact hx
theorem derX_ok {now y : List (List Int)} {al : List (List (List Int))} {v s size : Nat} (h : (atL now s).length = size) (d : Nat) : (derX now y al v s d).length = size ∧ Nums (derX now y al v s d) := by
  induction d with
  | zero => exact ⟨by rw [derX, mulZ_len, h], mulZ_nums _ _⟩
  | succ d ih =>
    rw [derX]
    split
    · exact ⟨by rw [addJ_len, ih.1], nums_add _ _ _⟩
    · exact ih
theorem derS_len (now y : List (List Int)) (al : List (List (List Int))) (v k : Nat) : (derS now y al v k).length = now.length := by
  induction k with
  | zero => rfl
  | succ k ih => rw [derS, List.length_set, ih]
theorem derS_ok {now y : List (List Int)} {al : List (List (List Int))} {v size : Nat} (hl : now.length = 2 ^ al.length) (h : AllJ size now) (k : Nat) : AllJ size (derS now y al v k) := by
  induction k with
  | zero => exact h
  | succ k ih =>
    have hlt : 2 ^ al.length - 1 - k < (derS now y al v k).length := by
      rw [derS_len, hl]
      have := Nat.two_pow_pos al.length
      omega
    refine allJ_set ih (derX_ok ?_ _)
    rw [atL_get (List.getElem?_eq_getElem hlt)]
    exact (ih _ (List.getElem_mem hlt)).1
theorem derN_len (now y : List (List Int)) (al : List (List (List Int))) (v n : Nat) : (derN now y al v n).length = now.length := by
  induction n with
  | zero => rfl
  | succ n ih => rw [derN, derS_len, ih]
theorem derN_ok {now y : List (List Int)} {al : List (List (List Int))} {v size : Nat} (hl : now.length = 2 ^ al.length) (h : AllJ size now) (n : Nat) : AllJ size (derN now y al v n) := by
  induction n with
  | zero => exact h
  | succ n ih => exact derS_ok (by rw [derN_len, hl]) ih _
theorem derV_len (now y : List (List Int)) (al : List (List (List Int))) (ps : List Int) (v : Nat) : (derV now y al ps v).length = now.length := by
  induction v with
  | zero => rfl
  | succ v ih => rw [derV, derN_len, ih]
theorem derV_ok {now y : List (List Int)} {al : List (List (List Int))} {ps : List Int} {size : Nat} (hl : now.length = 2 ^ al.length) (h : AllJ size now) (v : Nat) : AllJ size (derV now y al ps v) := by
  induction v with
  | zero => exact h
  | succ v ih => exact derN_ok (by rw [derV_len, hl]) ih _
theorem derStart_ok {c : Int} (hc : 0 ≤ c ∧ c ≤ 1000000270) (n size : Nat) : AllJ size ((List.replicate n (List.replicate size (0 : Int))).set 0 (oneAt c size)) := by
  refine allJ_set (fun x hx => ?_) ⟨oneAt_len _ _, oneAt_nums hc _⟩
  rw [List.eq_of_mem_replicate hx]
  exact ⟨by simp, nums_zero _⟩
theorem derAdd_len (out : List Int) (m : MonZ) (y : List (List Int)) (al : List (List (List Int))) (size : Nat) : (derAdd out m y al size).length = out.length := by
  unfold derAdd
  split
  · rfl
  · rw [addJ_len]
theorem derP_len (p : List MonZ) (y : List (List Int)) (al : List (List (List Int))) (size k : Nat) : (derP p y al size k).length = size := by
  induction k with
  | zero => simp [derP]
  | succ k ih => rw [derP, derAdd_len, ih]
theorem derP_nums (p : List MonZ) (y : List (List Int)) (al : List (List (List Int))) (size k : Nat) : Nums (derP p y al size k) := by
  induction k with
  | zero => exact nums_zero _
  | succ k ih =>
    rw [derP, derAdd]
    split
    · exact ih
    · exact nums_add _ _ _

-- no directions
theorem derN_nil (a : List Int) (y : List (List Int)) (v n : Nat) : derN [a] y [] v n = [powN (atL y v) a n] := by
  induction n with
  | zero => rfl
  | succ n ih =>
    rw [derN, ih]
    simp [derS, derX, atL, powN]
theorem derV_nil (a : List Int) (y : List (List Int)) (ps : List Int) (v : Nat) : derV [a] y [] ps v = [powV y ps a v] := by
  induction v with
  | zero => rfl
  | succ v ih => rw [derV, ih, derN_nil, powV]
theorem derM_nil (m : MonZ) (y : List (List Int)) (size : Nat) : derM m y [] size = powV y m.pows (oneAt m.coef size) m.pows.length := by
  have : (List.replicate (2 ^ ([] : List (List (List Int))).length) (List.replicate size (0 : Int))).set 0 (oneAt m.coef size) = [oneAt m.coef size] := by simp
  rw [derM, this, derV_nil]
  simp [atL]
theorem degZ_nonneg {ps : List Int} (h : 0 ≤ degZ ps) : ¬ degZ ps < (([] : List (List (List Int))).length : Int) := by simp; exact h
theorem derP_nil (p : List MonZ) (y : List (List Int)) (size : Nat) (hs : size = hdL y) (hc : ∀ m ∈ p, 0 ≤ m.coef ∧ m.coef ≤ 1000000270 ∧ 0 ≤ degZ m.pows) :
    ∀ k, k ≤ p.length → derP p y [] size k = dervP p y [] k
  | 0, _ => by rw [derP, dervP, hs]
  | k + 1, hk => by
    have hm : p[k]? = some p[k] := List.getElem?_eq_getElem (by omega)
    obtain ⟨h0, h1, h2⟩ := hc p[k] (List.getElem_mem (by omega))
    rw [derP, dervP, derP_nil p y size hs hc k (by omega), derAdd, if_neg (by rw [hm]; exact degZ_nonneg h2), derM_nil, hm]
    simp only [Option.getD_some]
    rw [oneAt_smul h0 h1, powV_smul, addJ_smul, hs]
    rfl
theorem derL_nil {p : List MonZ} {y : List (List Int)} {size : Nat} (hs : size = hdL y) (hc : ∀ m ∈ p, 0 ≤ m.coef ∧ m.coef ≤ 1000000270 ∧ 0 ≤ degZ m.pows) : derL p y [] size = dervL p y [] := derP_nil p y size hs hc _ (Nat.le_refl _)
end Go.Proofs.Ytbcjhpgkodeoeaa
