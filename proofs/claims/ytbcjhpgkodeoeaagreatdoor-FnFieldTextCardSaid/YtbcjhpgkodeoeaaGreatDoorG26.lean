/- The texts ParN, ParD in one: each says at its head what it proves. Conditions: as said there. -/
import Derived.Lib.SplitLaws
import Derived.Test.YtbcjhpgkodeoeaaGreatDoorG25
import Derived.Test.YtbcjhpgkodeoeaaGreatDoorG02
set_option linter.unusedSimpArgs false
set_option linter.unusedVariables false
/- Numbers read from texts, in plain lists: both ways of reading answer alike. Conditions: none. -/
namespace Go.Proofs.YtbcjhpgkodeoeaaGreatDoor
open Go.RowKit Go.Sort

theorem split_miss {s sep : List UInt8} (h : Lib.index s sep = -1) : Lib.split s sep = [s] := by rw [Lib.split, Lib.count_miss h]; rfl
theorem split_hit {s sep : List UInt8} {i : Nat} (hs : sep ≠ []) (h : Lib.index s sep = i) : Lib.split s sep = s.take i :: Lib.split (s.drop (i + sep.length)) sep := by
  have hm : ¬ (Lib.index s sep == -1) = true := fun e => by have := beq_iff_eq.1 e; omega
  rw [Lib.split, Lib.count_hit hs h, Nat.add_comm, Lib.splitK, if_neg hm, h]
  rfl
theorem split_ne (s sep : List UInt8) : Lib.split s sep ≠ [] := by
  unfold Lib.split
  cases Lib.count s sep with
  | zero => simp [Lib.splitK]
  | succ k => unfold Lib.splitK; split <;> simp
/-- A text and a sign: no place, or the first one. -/
theorem index_sign (c : UInt8) (t : List UInt8) : (Lib.index t [c] = -1 ∧ c ∉ t) ∨ ∃ i : Nat, Lib.index t [c] = i ∧ t = t.take i ++ c :: t.drop (i + 1) ∧ c ∉ t.take i := by
  have hocc : ∀ j, Lib.occAt t [c] j = decide (t[j]? = some c) := fun j => by
    unfold Lib.occAt
    rw [← List.head?_drop]
    cases t.drop j with
    | nil => simp
    | cons a l =>
      simp [List.isPrefixOf]
      by_cases h : c = a
      · simp [h]
      · rw [beq_false_of_ne h, decide_eq_false (fun e => h e.symm)]
  rcases Lib.index_spec t [c] with ⟨h1, h2⟩ | ⟨i, h1, h2, h3, h4⟩
  · refine Or.inl ⟨h1, fun hm => ?_⟩
    obtain ⟨j, hj, he⟩ := List.getElem_of_mem hm
    have := h2 j (by omega)
    rw [hocc, decide_eq_false_iff_not] at this
    exact this (by rw [List.getElem?_eq_getElem hj, he])
  · rw [hocc, decide_eq_true_eq] at h3
    obtain ⟨hi, he⟩ := List.getElem?_eq_some_iff.1 h3
    refine Or.inr ⟨i, h1, ?_, fun hm => ?_⟩
    · rw [← he, ← List.drop_eq_getElem_cons hi, List.take_append_drop]
    · obtain ⟨j, hj, hje⟩ := List.getElem_of_mem hm
      have hji : j < i := by rw [List.length_take] at hj; omega
      have := h4 j hji
      rw [hocc, decide_eq_false_iff_not] at this
      exact this (by rw [List.getElem_take] at hje; rw [List.getElem?_eq_getElem (by omega), hje])

theorem digGo_bad {b : UInt8} (hb : isDig b = false) : ∀ {l : List UInt8} {n : Int}, b ∈ l → digGo n l = -1
  | a :: l, n, hm => by
    rw [digGo]
    split
    · rename_i h
      rw [List.mem_cons] at hm
      rcases hm with rfl | hm
      · rw [hb] at h; cases h
      · exact digGo_bad hb hm
    · rfl
theorem digI_bad {b : UInt8} (hb : isDig b = false) {l : List UInt8} (hm : b ∈ l) : digI l = -1 := by
  unfold digI
  split
  · rfl
  · exact digGo_bad hb hm
theorem digGo_bd : ∀ (l : List UInt8) (n : Int) (k : Nat), 0 ≤ n → n < 10 ^ k → digGo n l = -1 ∨ (0 ≤ digGo n l ∧ digGo n l < 10 ^ (k + l.length))
  | [], n, k, h0, h1 => Or.inr ⟨h0, h1⟩
  | b :: l, n, k, h0, h1 => by
    rw [digGo]
    split
    · rename_i h
      have hb : 48 ≤ b.toNat ∧ b.toNat ≤ 57 := by simpa [isDig] using h
      have := digGo_bd l (10 * n + ((b.toNat : Int) - 48)) (k + 1) (by omega) (by rw [Int.pow_succ]; omega)
      rw [List.length_cons, show k + (l.length + 1) = k + 1 + l.length by omega]
      exact this
    · exact Or.inl rfl
theorem pow_ten {k : Nat} (h : k ≤ 10) : (10 : Int) ^ k ≤ 10000000000 := by
  have h1 : (10 : Nat) ^ k ≤ 10 ^ 10 := Nat.pow_le_pow_right (by decide) h
  have h2 : (10 : Int) ^ k = ((10 ^ k : Nat) : Int) := by simp
  rw [h2]
  omega
theorem digR_bd (l : List UInt8) : -1 ≤ digR l ∧ digR l < 10000000000 := by
  unfold digR
  split
  · omega
  · have h1 := digGo_bd l 0 0 (by omega) (by decide)
    have h2 := pow_ten (k := 0 + l.length) (by omega)
    omega
theorem digI_bd (l : List UInt8) : -1 ≤ digI l ∧ digI l < 10000000000 := by
  unfold digI
  split
  · omega
  · have h1 := digGo_bd l 0 0 (by omega) (by decide)
    have h2 := pow_ten (k := 0 + l.length) (by omega)
    omega

/-- What the program reads, or -1. -/
def numI (s : List UInt8) : Int :=
  if Lib.hasPrefix s [35] = true then digI (s.drop 1)
  else if digI (Lib.cut (Lib.trimPrefix s [45]) [47]).1 < 0 ∨ (if (Lib.cut (Lib.trimPrefix s [45]) [47]).2.2 = true then digI (Lib.cut (Lib.trimPrefix s [45]) [47]).2.1 else 1) < 1 then -1
  else if (Lib.trimPrefix s [45]).length < s.length then (-(fracZ (digI (Lib.cut (Lib.trimPrefix s [45]) [47]).1) (if (Lib.cut (Lib.trimPrefix s [45]) [47]).2.2 = true then digI (Lib.cut (Lib.trimPrefix s [45]) [47]).2.1 else 1))) % 1000000271
  else fracZ (digI (Lib.cut (Lib.trimPrefix s [45]) [47]).1) (if (Lib.cut (Lib.trimPrefix s [45]) [47]).2.2 = true then digI (Lib.cut (Lib.trimPrefix s [45]) [47]).2.1 else 1)
def okI (s : List UInt8) : Bool := decide (0 ≤ numI s ∧ fmtT (numI s) = s)
/-- What the reference reads of two texts, or none. -/
def fracS (neg : Bool) (p : List (List UInt8)) : Option Int :=
  if digR (p[0]?.getD []) < 0 ∨ (if 1 < p.length then digR (p[1]?.getD []) else 1) < 0 ∨ 2 < p.length then none
  else some (fracZ ((if neg = true then -1 else 1) * digR (p[0]?.getD [])) (if 1 < p.length then digR (p[1]?.getD []) else 1))
def numS : List UInt8 → Option Int
  | [] => none
  | h :: r => if h = 35 then some (digR r) else if h = 45 then fracS true (Lib.split r [47]) else fracS false (Lib.split (h :: r) [47])
def okS (s : List UInt8) : Bool := match numS s with
  | none => false
  | some n => decide (fmtT n = s)

theorem frac_neg (a b : Int) : (-(fracZ a b)) % 1000000271 = fracZ (-1 * a) b := by
  unfold fracZ timesZ
  rw [show -1 * a * powZ b 1000000269 = -(a * powZ b 1000000269) by rw [Int.mul_assoc, Int.neg_mul, Int.one_mul]]
  omega
theorem frac_zero (a : Int) : fracZ a 0 = 0 := by
  have h : powZ 0 1000000269 = 0 := by
    unfold powZ
    rw [if_neg (by decide), Int.zero_pow (by decide)]
    rfl
  unfold fracZ timesZ
  rw [h, Int.mul_zero]
  rfl
theorem frac_bd (a b : Int) : 0 ≤ fracZ a b ∧ fracZ a b ≤ 1000000270 := timesZ_bd _ _
theorem fmtT_zero : fmtT 0 = [48] := by
  have h1 : isNumB 0 = true := by decide
  unfold fmtT fmtN
  rw [h1, if_pos rfl, fmtGo, if_pos (by decide), fracL, if_pos rfl]
  rw [decZ_pos (by decide), decL_small (by decide)]
  rfl
theorem fmtT_neg : fmtT (-1) = [] := by
  have h1 : isNumB (-1) = false := by decide
  rw [fmtT, h1]; rfl
/-- Both ways of reading a fraction, its sign apart. -/
theorem frac_same {t s : List UInt8} {neg : Bool} (hl : lead false t = false) (ht : ∀ c ∈ t, c ∈ s) (hs : s ≠ []) :
    let c := Lib.cut t [47]
    let nI := if digI c.1 < 0 ∨ (if c.2.2 = true then digI c.2.1 else 1) < 1 then -1
      else if neg = true then (-(fracZ (digI c.1) (if c.2.2 = true then digI c.2.1 else 1))) % 1000000271
      else fracZ (digI c.1) (if c.2.2 = true then digI c.2.1 else 1)
    decide (0 ≤ nI ∧ fmtT nI = s) = (match fracS neg (Lib.split t [47]) with | none => false | some n => decide (fmtT n = s)) ∧ (0 ≤ nI ∧ fmtT nI = s → fracS neg (Lib.split t [47]) = some nI) := by
  intro c nI
  have hsgn : ∀ a b : Int, (if neg = true then (-(fracZ a b)) % 1000000271 else fracZ a b) = fracZ ((if neg = true then -1 else 1) * a) b := fun a b => by
    cases neg
    · simp
    · simp only [if_true]; exact frac_neg a b
  have hno : ∀ X : Option Int, X = none → nI = -1 → decide (0 ≤ nI ∧ fmtT nI = s) = (match X with | none => false | some n => decide (fmtT n = s)) ∧ (0 ≤ nI ∧ fmtT nI = s → X = some nI) := by
    rintro X rfl h
    rw [h]
    exact ⟨by simp, fun h => by omega⟩
  have hyes : ∀ a b, nI = fracZ ((if neg = true then -1 else 1) * a) b → ∀ X : Option Int, X = some (fracZ ((if neg = true then -1 else 1) * a) b) → decide (0 ≤ nI ∧ fmtT nI = s) = (match X with | none => false | some n => decide (fmtT n = s)) ∧ (0 ≤ nI ∧ fmtT nI = s → X = some nI) := by
    rintro a b h X rfl
    have hb := frac_bd ((if neg = true then -1 else 1) * a) b
    rw [h]
    refine ⟨?_, fun _ => rfl⟩
    simp [hb.1]
  rcases index_sign 47 t with ⟨h1, h2⟩ | ⟨i, h1, h2, h3⟩
  · have hc : c = (t, [], false) := by show Lib.cut t [47] = _; unfold Lib.cut; rw [if_neg (by omega)]
    have hp := split_miss h1
    have hd := dig_lead hl
    by_cases ha : digI t < 0
    · refine hno _ ?_ ?_
      · rw [hp]; unfold fracS; rw [if_pos (Or.inl (by simpa [← hd] using ha))]
      · show (if _ then _ else _) = _
        rw [hc, if_pos (Or.inl ha)]
    · refine hyes (digI t) 1 ?_ _ ?_
      · show (if _ then _ else _) = _
        rw [hc, if_neg (by simp; omega), ← hsgn]; rfl
      · rw [hp]; unfold fracS
        rw [if_neg (by simp [← hd]; omega)]
        simp [← hd]
  · have hc : c = (t.take i, t.drop (i + 1), true) := by show Lib.cut t [47] = _; unfold Lib.cut; rw [if_pos (by omega), h1]; rfl
    have hp := split_hit (sep := [47]) (by simp) h1
    have h47 : (47 : UInt8) ∈ s := ht _ (by rw [h2]; simp)
    have hle : lead false (t.take i) = false ∧ lead false (t.drop (i + 1)) = false := by
      rw [h2, lead_cat (c := 47) (by decide), Bool.or_eq_false_iff] at hl
      exact hl
    have hda := dig_lead hle.1
    have hdb := dig_lead hle.2
    simp only [List.length_cons, List.length_nil] at hp
    rcases index_sign 47 (t.drop (i + 1)) with ⟨k1, k2⟩ | ⟨j, k1, k2, k3⟩
    · rw [split_miss k1] at hp
      by_cases hneg : digI (t.take i) < 0 ∨ digI (t.drop (i + 1)) < 0
      · refine hno _ ?_ ?_
        · rw [hp]; unfold fracS
          rw [if_pos (by simp [← hda, ← hdb]; omega)]
        · show (if _ then _ else _) = _
          rw [hc, if_pos (by simp; omega)]
      · by_cases hz : digI (t.drop (i + 1)) = 0
        · have hI : nI = -1 := by
            show (if _ then _ else _) = _
            rw [hc, if_pos (by simp; omega)]
          rw [hp, hI]
          unfold fracS
          rw [if_neg (by simp [← hda, ← hdb]; omega)]
          have hX : fracZ ((if neg = true then -1 else 1) * digR (([t.take i, t.drop (i + 1)] : List (List UInt8))[0]?.getD [])) (if 1 < ([t.take i, t.drop (i + 1)] : List (List UInt8)).length then digR (([t.take i, t.drop (i + 1)] : List (List UInt8))[1]?.getD []) else 1) = 0 := by
            have h1l : 1 < ([t.take i, t.drop (i + 1)] : List (List UInt8)).length := by simp
            rw [if_pos h1l, show digR (([t.take i, t.drop (i + 1)] : List (List UInt8))[1]?.getD []) = 0 from by simpa [← hdb] using hz]
            exact frac_zero _
          rw [hX]
          refine ⟨?_, fun h => by omega⟩
          have : fmtT 0 ≠ s := fun e => by
            rw [← e, fmtT_zero] at h47
            simp at h47
          simp [this]
        · refine hyes (digI (t.take i)) (digI (t.drop (i + 1))) ?_ _ ?_
          · show (if _ then _ else _) = _
            rw [hc, if_neg (by simp; omega), ← hsgn]; rfl
          · rw [hp]; unfold fracS
            rw [if_neg (by simp [← hda, ← hdb]; omega)]
            simp [← hda, ← hdb]
    · refine hno _ ?_ ?_
      · rw [hp, split_hit (sep := [47]) (by simp) k1]
        unfold fracS
        have hne := split_ne ((t.drop (i + 1)).drop (j + [47].length)) [47]
        have := List.length_pos_iff.2 hne
        rw [if_pos (Or.inr (Or.inr (by simp only [List.length_cons] at this ⊢; omega)))]
      · show (if _ then _ else _) = _
        have hb : digI (t.drop (i + 1)) = -1 := digI_bad (b := 47) (by decide) (by rw [k2]; simp)
        rw [hc, if_pos (by simp; omega)]
theorem lead_tail {c : UInt8} (hc : isDig c = false) {r : List UInt8} (h : lead false (c :: r) = false) : lead false r = false := by
  have := lead_cat hc r [] false
  rw [List.nil_append, h] at this
  simpa [lead] using this.symm
/-- Both ways of reading numbers. -/
theorem num_same (s : List UInt8) : okI s = okS s ∧ (okI s = true → numS s = some (numI s)) := by
  cases hl : lead false s with
  | true =>
    have hf : ∀ n, fmtT n ≠ s := fun n e => by have := fmtT_lead n; rw [e, hl] at this; cases this
    have h1 : okI s = false := by simp [okI, hf]
    have h2 : okS s = false := by
      unfold okS
      split
      · rfl
      · simp [hf]
    rw [h1, h2]
    exact ⟨rfl, fun h => by cases h⟩
  | false =>
    cases s with
    | nil =>
      have h1 : okI [] = false := by decide
      rw [h1]
      exact ⟨rfl, fun h => by cases h⟩
    | cons h r =>
      by_cases h35 : h = 35
      · subst h35
        have hd := dig_lead (lead_tail (by decide) hl)
        have hI : numI (35 :: r) = digR r := by
          unfold numI
          rw [if_pos (by simp [Lib.hasPrefix, List.isPrefixOf])]
          exact hd
        have hS : numS (35 :: r) = some (digR r) := by rw [numS, if_pos rfl]
        rw [okI, okS, hI, hS]
        refine ⟨?_, fun _ => rfl⟩
        have hb := digR_bd r
        by_cases hn : digR r = -1
        · rw [hn]; simp [fmtT_neg]
        · have : 0 ≤ digR r := by omega
          simp [this]
      · have hp : Lib.hasPrefix (h :: r) [35] = false := by
          have : ((35 : UInt8) == h) = false := by rw [beq_eq_false_iff_ne]; exact fun e => h35 e.symm
          simp [Lib.hasPrefix, List.isPrefixOf, this]
        by_cases h45 : h = 45
        · subst h45
          have ht : Lib.trimPrefix (45 :: r) [45] = r := by simp [Lib.trimPrefix, Lib.hasPrefix, List.isPrefixOf]
          have key := frac_same (t := r) (s := 45 :: r) (neg := true) (lead_tail (by decide) hl) (fun c hc => by simp [hc]) (by simp)
          have hlen : r.length < (45 :: r).length := by simp
          unfold okI okS numI
          rw [hp, if_neg (by simp), ht, if_pos hlen, numS, if_neg h35, if_pos rfl]
          simp only [if_true] at key
          refine ⟨key.1, fun hh => key.2 (by simpa using hh)⟩
        · have ht : Lib.trimPrefix (h :: r) [45] = h :: r := by
            have : ((45 : UInt8) == h) = false := by rw [beq_eq_false_iff_ne]; exact fun e => h45 e.symm
            simp [Lib.trimPrefix, Lib.hasPrefix, List.isPrefixOf, this]
          have key := frac_same (t := h :: r) (s := h :: r) (neg := false) hl (fun c hc => hc) (by simp)
          unfold okI okS numI
          rw [hp, if_neg (by simp), ht, if_neg (Nat.lt_irrefl _), numS, if_neg h35, if_neg h45]
          simp only [Bool.false_eq_true, if_false] at key
          refine ⟨key.1, fun hh => key.2 (by simpa using hh)⟩
end Go.Proofs.YtbcjhpgkodeoeaaGreatDoor

/- Digits read: both programs. Conditions: texts of at most a million bytes. -/
namespace Go.Proofs.YtbcjhpgkodeoeaaGreatDoor
open Go.RowKit Go.Sort

theorem str_at {s : ByteArray} {l : List UInt8} (hs : s = ByteArray.mk l.toArray) {i : Nat} {b : UInt8} (hb : l[i]? = some b) : ∃ h : i < s.size, s[i]'h = b := by
  subst hs
  obtain ⟨hi, rfl⟩ := List.getElem?_eq_some_iff.1 hb
  exact ⟨by simpa [ByteArray.size] using hi, by simp [ByteArray.getElem_eq_getElem_data]⟩
theorem str_size {s : ByteArray} {l : List UInt8} (hs : s = ByteArray.mk l.toArray) : s.size = l.length := by subst hs; simp [ByteArray.size]

theorem digGo_step {a : Int} {b : UInt8} {r : List UInt8} {x : Int} (hx : (b.toNat : Int) = x) (h : 48 ≤ x ∧ x ≤ 57) : digGo a (b :: r) = digGo (10 * a + (x - 48)) r := by
  rw [digGo, if_pos (by simp [isDig]; omega), hx]
theorem digGo_stop {a : Int} {b : UInt8} {r : List UInt8} {x : Int} (hx : (b.toNat : Int) = x) (h : ¬ (48 ≤ x ∧ x ≤ 57)) : digGo a (b :: r) = -1 := by
  rw [digGo, if_neg (by simp [isDig]; omega)]
theorem drop_at {l : List UInt8} {i : Nat} {b : UInt8} (h : l[i]? = some b) : l.drop i = b :: l.drop (i + 1) := by
  obtain ⟨hi, rfl⟩ := List.getElem?_eq_some_iff.1 h
  exact List.drop_eq_getElem_cons hi
theorem u8_in {x : Int} (h : 48 ≤ x ∧ x ≤ 57) : IntKind.u8.wrap (x - 48) = x - 48 := by
  unfold IntKind.wrap
  simp [IntKind.bits, IntKind.signed]
  omega
/-- How far digits have been read. -/
structure DigAt (l : List UInt8) (n : Nat) (a : Int) (i : Nat) : Prop where
  eq : digGo 0 l = digGo a (l.drop i)
  lo : 0 ≤ a
  hi : a < 10 ^ i
theorem digAt_zero (l : List UInt8) (n : Nat) : DigAt l n 0 0 := ⟨rfl, by decide, by decide⟩
theorem DigAt.bd {l : List UInt8} {n i : Nat} {a : Int} (h : DigAt l n a i) (hi : i ≤ 10) : a < 10000000000 := by
  have h1 := h.hi
  have h2 := pow_ten hi
  omega
theorem DigAt.next {l : List UInt8} {n i : Nat} {a x : Int} {b : UInt8} (h : DigAt l n a i) (hb : l[i]? = some b) (hx : (b.toNat : Int) = x) (hd : 48 ≤ x ∧ x ≤ 57) : DigAt l n (10 * a + (x - 48)) (i + 1) := by
  refine ⟨by rw [h.eq, drop_at hb, digGo_step hx hd], by have := h.lo; omega, ?_⟩
  have := h.hi
  rw [Int.pow_succ]
  omega

set_option maxRecDepth 100000 in
set_option maxHeartbeats 800000 in
theorem readDec_any (l : List UInt8) (s : ByteArray) (hs : s = ByteArray.mk l.toArray) (w : World) : Calls Tryz.prog 142 #[.string s] w fun e w' => e = .returned (.int .i64 (digI l)) ∧ w = w' := by
  have hsz := str_size hs
  obtain ⟨n, hn⟩ : ∃ n, l.length = n := ⟨_, rfl⟩
  rw [hn] at hsz
  have HS := Lib.hid hs
  have HN := Lib.hid hn
  by_cases h0 : n = 0
  · have HE := Lib.hid (show digI l = -1 from by rw [digI, if_pos (Or.inl (by omega))])
    clear hs hn
    go_enter Tryz.func142, Tryz.ntmps142
    go_wp2
    go_ret
    exact ⟨ret_int HE.out.symm, rfl⟩
  by_cases h10 : 10 < n
  · have HE := Lib.hid (show digI l = -1 from by rw [digI, if_pos (Or.inr (Or.inl (by omega)))])
    clear hs hn
    go_enter Tryz.func142, Tryz.ntmps142
    go_wp2
    go_ret
    exact ⟨ret_int HE.out.symm, rfl⟩
  obtain ⟨c, hc⟩ : ∃ c, l[0]? = some c := ⟨_, List.getElem?_eq_getElem (by omega)⟩
  obtain ⟨y, hy⟩ : ∃ y : Int, (c.toNat : Int) = y := ⟨_, rfl⟩
  obtain ⟨hi0, hs0⟩ := str_at hs hc
  have hyb : (s[0]'hi0).toNat = c.toNat := by rw [hs0]
  by_cases h48 : 1 < n ∧ y = 48
  · have HE := Lib.hid (show digI l = -1 from by
      rw [digI, if_pos (Or.inr (Or.inr ⟨by omega, by rw [hc]; congr 1; exact UInt8.toNat_inj.1 (by have := h48.2; simp; omega)⟩))])
    obtain ⟨h1, h2⟩ := h48
    subst h2
    clear hs hn hc hs0
    go_enter Tryz.func142, Tryz.ntmps142
    go_wp2
    go_ret
    exact ⟨ret_int HE.out.symm, rfl⟩
  · have HE := Lib.hid (show digI l = digGo 0 l from by
      rw [digI, if_neg (fun h => by
        rcases h with h | h | ⟨h1, h2⟩
        · omega
        · omega
        · rw [hc] at h2
          injection h2 with h2
          exact h48 ⟨by omega, by rw [← hy, h2]; rfl⟩)])
    have e0 : ((n : Int) == 0) = false := by simp; omega
    have e10 : ¬ ((10 : Int) < n) := by omega
    by_cases h1 : 1 < n
    · have e1 : (1 : Int) < n := by omega
      have hy48 : (y == 48) = false := by simp; omega
      clear hs hn hc hs0 h48
      go_enter Tryz.func142, Tryz.ntmps142
      go_wp2
      go_loopw [3, 25] (fun sa si wr => ∃ (a : Int) (i : Nat), sa = .int .i64 a ∧ si = .int .i64 i ∧ i ≤ n ∧ DigAt l n a i ∧ w = wr) (fun _ si _ => n - (intOf si).toNat)
      case atStart => exact ⟨0, 0, rfl, rfl, Nat.zero_le _, digAt_zero _ _, rfl⟩
      case round =>
        obtain ⟨wk, rfl⟩ : ∃ W, W = wr := ⟨_, rfl⟩
        obtain ⟨a, i, rfl, rfl, hi, hD, rfl⟩ := hrel
        have hDb := hD.bd (by omega)
        have hD0 := hD.lo
        by_cases hlt : i < n
        case neg =>
          obtain rfl : i = n := by omega
          have HR := Lib.hid (show digGo 0 l = a from by rw [hD.eq, List.drop_of_length_le (by rw [HN.out]; exact Nat.le_refl _)]; rfl)
          clear hD
          go_wp2
          go_ret
          exact ⟨ret_int (HE.out.trans HR.out).symm, rfl⟩
        case pos =>
          obtain ⟨b, hb⟩ : ∃ b, l[i]? = some b := ⟨_, List.getElem?_eq_getElem (by rw [HN.out]; exact hlt)⟩
          obtain ⟨x, hx⟩ : ∃ x : Int, (b.toNat : Int) = x := ⟨_, rfl⟩
          obtain ⟨hi', hsb⟩ := str_at HS.out hb
          have hxb : (s[i]'hi').toNat = b.toNat := by rw [hsb]
          have hx0 : 0 ≤ x := by omega
          have hx2 : x ≤ 255 := by have := b.toNat_lt; omega
          have hiI : (i : Int) < n := by omega
          have hsI : (i : Int) < s.size := by omega
          by_cases hd : 48 ≤ x ∧ x ≤ 57
          · have HD := Lib.hid (hD.next hb hx hd)
            have hu8 := u8_in hd
            obtain ⟨hd1, hd2⟩ := hd
            have hw1 : IntKind.i64.wrap (10 * a) = 10 * a := IntWalk.i64_in _ (by omega)
            have hw2 : IntKind.i64.wrap (10 * a + (x - 48)) = 10 * a + (x - 48) := IntWalk.i64_in _ (by omega)
            have hw3 : IntKind.i64.wrap (x - 48) = x - 48 := IntWalk.i64_in _ (by omega)
            clear hD hb hsb
            go_wp2
            go_roundw
            case rel => exact ⟨10 * a + (x - 48), i + 1, rfl, by go_num, by omega, HD.out, by first | trivial | rfl⟩
            case measure => (simp [intOf]; try omega)
          · have HX := Lib.hid (show digGo 0 l = -1 from by rw [hD.eq, drop_at hb, digGo_stop hx hd])
            by_cases hd1 : x < 48
            · clear hD hb hsb hd
              go_wp2
              go_ret
              exact ⟨ret_int (HE.out.trans HX.out).symm, rfl⟩
            · have hd2 : 57 < x := by omega
              clear hD hb hsb hd
              go_wp2
              go_ret
              exact ⟨ret_int (HE.out.trans HX.out).symm, rfl⟩
    · have e1 : ¬ ((1 : Int) < n) := by omega
      clear hs hn hc hs0 h48
      go_enter Tryz.func142, Tryz.ntmps142
      go_wp2
      go_loopw [3, 25] (fun sa si wr => ∃ (a : Int) (i : Nat), sa = .int .i64 a ∧ si = .int .i64 i ∧ i ≤ n ∧ DigAt l n a i ∧ w = wr) (fun _ si _ => n - (intOf si).toNat)
      case atStart => exact ⟨0, 0, rfl, rfl, Nat.zero_le _, digAt_zero _ _, rfl⟩
      case round =>
        obtain ⟨wk, rfl⟩ : ∃ W, W = wr := ⟨_, rfl⟩
        obtain ⟨a, i, rfl, rfl, hi, hD, rfl⟩ := hrel
        have hDb := hD.bd (by omega)
        have hD0 := hD.lo
        by_cases hlt : i < n
        case neg =>
          obtain rfl : i = n := by omega
          have HR := Lib.hid (show digGo 0 l = a from by rw [hD.eq, List.drop_of_length_le (by rw [HN.out]; exact Nat.le_refl _)]; rfl)
          clear hD
          go_wp2
          go_ret
          exact ⟨ret_int (HE.out.trans HR.out).symm, rfl⟩
        case pos =>
          obtain ⟨b, hb⟩ : ∃ b, l[i]? = some b := ⟨_, List.getElem?_eq_getElem (by rw [HN.out]; exact hlt)⟩
          obtain ⟨x, hx⟩ : ∃ x : Int, (b.toNat : Int) = x := ⟨_, rfl⟩
          obtain ⟨hi', hsb⟩ := str_at HS.out hb
          have hxb : (s[i]'hi').toNat = b.toNat := by rw [hsb]
          have hx0 : 0 ≤ x := by omega
          have hx2 : x ≤ 255 := by have := b.toNat_lt; omega
          have hiI : (i : Int) < n := by omega
          have hsI : (i : Int) < s.size := by omega
          by_cases hd : 48 ≤ x ∧ x ≤ 57
          · have HD := Lib.hid (hD.next hb hx hd)
            have hu8 := u8_in hd
            obtain ⟨hd1, hd2⟩ := hd
            have hw1 : IntKind.i64.wrap (10 * a) = 10 * a := IntWalk.i64_in _ (by omega)
            have hw2 : IntKind.i64.wrap (10 * a + (x - 48)) = 10 * a + (x - 48) := IntWalk.i64_in _ (by omega)
            have hw3 : IntKind.i64.wrap (x - 48) = x - 48 := IntWalk.i64_in _ (by omega)
            clear hD hb hsb
            go_wp2
            go_roundw
            case rel => exact ⟨10 * a + (x - 48), i + 1, rfl, by go_num, by omega, HD.out, by first | trivial | rfl⟩
            case measure => (simp [intOf]; try omega)
          · have HX := Lib.hid (show digGo 0 l = -1 from by rw [hD.eq, drop_at hb, digGo_stop hx hd])
            by_cases hd1 : x < 48
            · clear hD hb hsb hd
              go_wp2
              go_ret
              exact ⟨ret_int (HE.out.trans HX.out).symm, rfl⟩
            · have hd2 : 57 < x := by omega
              clear hD hb hsb hd
              go_wp2
              go_ret
              exact ⟨ret_int (HE.out.trans HX.out).symm, rfl⟩
set_option maxRecDepth 100000 in
set_option maxHeartbeats 800000 in
theorem sDigits_any (l : List UInt8) (s : ByteArray) (hs : s = ByteArray.mk l.toArray) (w : World) : Calls Tryz.prog 148 #[.string s] w fun e w' => e = .returned (.int .i64 (digR l)) ∧ w = w' := by
  have hsz := str_size hs
  obtain ⟨n, hn⟩ : ∃ n, l.length = n := ⟨_, rfl⟩
  rw [hn] at hsz
  have HS := Lib.hid hs
  have HN := Lib.hid hn
  by_cases h0 : n = 0
  · have HE := Lib.hid (show digR l = -1 from by rw [digR, if_pos (Or.inl (by omega))])
    clear hs hn
    go_enter Tryz.func148, Tryz.ntmps148
    go_wp2
    go_ret
    exact ⟨ret_int HE.out.symm, rfl⟩
  by_cases h10 : 10 < n
  · have HE := Lib.hid (show digR l = -1 from by rw [digR, if_pos (Or.inr (by omega))])
    clear hs hn
    go_enter Tryz.func148, Tryz.ntmps148
    go_wp2
    go_ret
    exact ⟨ret_int HE.out.symm, rfl⟩
  have HE := Lib.hid (show digR l = digGo 0 l from by rw [digR, if_neg (by omega)])
  have e0 : ((n : Int) == 0) = false := by simp; omega
  have e10 : ¬ ((10 : Int) < n) := by omega
  clear hs hn
  go_enter Tryz.func148, Tryz.ntmps148
  go_wp2
  go_loopw [3, 4] (fun sa si wr => ∃ (a : Int) (i : Nat), sa = .int .i64 a ∧ si = .int .i64 i ∧ i ≤ n ∧ DigAt l n a i ∧ w = wr) (fun _ si _ => n - (intOf si).toNat)
  case atStart => exact ⟨0, 0, rfl, rfl, Nat.zero_le _, digAt_zero _ _, rfl⟩
  case round =>
    obtain ⟨wk, rfl⟩ : ∃ W, W = wr := ⟨_, rfl⟩
    obtain ⟨a, i, rfl, rfl, hi, hD, rfl⟩ := hrel
    have hDb := hD.bd (by omega)
    have hD0 := hD.lo
    by_cases hlt : i < n
    case neg =>
      obtain rfl : i = n := by omega
      have HR := Lib.hid (show digGo 0 l = a from by rw [hD.eq, List.drop_of_length_le (by rw [HN.out]; exact Nat.le_refl _)]; rfl)
      clear hD
      go_wp2
      go_ret
      exact ⟨ret_int (HE.out.trans HR.out).symm, rfl⟩
    case pos =>
      obtain ⟨b, hb⟩ : ∃ b, l[i]? = some b := ⟨_, List.getElem?_eq_getElem (by rw [HN.out]; exact hlt)⟩
      obtain ⟨x, hx⟩ : ∃ x : Int, (b.toNat : Int) = x := ⟨_, rfl⟩
      obtain ⟨hi', hsb⟩ := str_at HS.out hb
      have hxb : (s[i]'hi').toNat = b.toNat := by rw [hsb]
      have hx0 : 0 ≤ x := by omega
      have hx2 : x ≤ 255 := by have := b.toNat_lt; omega
      have hiI : (i : Int) < n := by omega
      have hsI : (i : Int) < s.size := by omega
      by_cases hd : 48 ≤ x ∧ x ≤ 57
      · have HD := Lib.hid (hD.next hb hx hd)
        have hu8 := u8_in hd
        obtain ⟨hd1, hd2⟩ := hd
        have hw1 : IntKind.i64.wrap (10 * a) = 10 * a := IntWalk.i64_in _ (by omega)
        have hw2 : IntKind.i64.wrap (10 * a + (x - 48)) = 10 * a + (x - 48) := IntWalk.i64_in _ (by omega)
        have hw3 : IntKind.i64.wrap (x - 48) = x - 48 := IntWalk.i64_in _ (by omega)
        clear hD hb hsb
        go_wp2
        go_roundw
        case rel => exact ⟨10 * a + (x - 48), i + 1, rfl, by go_num, by omega, HD.out, by first | trivial | rfl⟩
        case measure => (simp [intOf]; try omega)
      · have HX := Lib.hid (show digGo 0 l = -1 from by rw [hD.eq, drop_at hb, digGo_stop hx hd])
        by_cases hd1 : x < 48
        · clear hD hb hsb hd
          go_wp2
          go_ret
          exact ⟨ret_int (HE.out.trans HX.out).symm, rfl⟩
        · have hd2 : 57 < x := by omega
          clear hD hb hsb hd
          go_wp2
          go_ret
          exact ⟨ret_int (HE.out.trans HX.out).symm, rfl⟩
end Go.Proofs.YtbcjhpgkodeoeaaGreatDoor
