/- Numbers read from texts, in plain lists: both ways of reading answer alike. Conditions: none. -/
import Derived.Lib.SplitLaws
import Derived.Test.YtbcjhpgkodeoeaaG33
set_option linter.unusedSimpArgs false
set_option linter.unusedVariables false

namespace Go.Proofs.Ytbcjhpgkodeoeaa
open Go.RowKit Go.Sort

def isDig (b : UInt8) : Bool := decide (48 ≤ b.toNat ∧ b.toNat ≤ 57)
/-- Digits read on from a number; -1 for another text. -/
def digGo : Int → List UInt8 → Int
  | n, [] => n
  | n, b :: l => if isDig b = true then digGo (10 * n + ((b.toNat : Int) - 48)) l else -1
/-- The reference's digits, and the program's, which have no leading zeros. -/
def digR (l : List UInt8) : Int := if l.length = 0 ∨ 10 < l.length then -1 else digGo 0 l
def digI (l : List UInt8) : Int := if l.length = 0 ∨ 10 < l.length ∨ (1 < l.length ∧ l[0]? = some 48) then -1 else digGo 0 l

/-- Whether a leading zero stands somewhere; behind a digit or not. -/
def lead : Bool → List UInt8 → Bool
  | _, [] => false
  | p, b :: l => (!p && b == 48 && (l.head?.map isDig).getD false) || lead (isDig b) l
theorem dig48 : isDig 48 = true := by decide
theorem lead_cat {c : UInt8} (hc : isDig c = false) (b : List UInt8) : ∀ (a : List UInt8) (p : Bool), lead p (a ++ c :: b) = (lead p a || lead false b)
  | [], p => by
    have h48 : (c == 48) = false := by
      rw [beq_eq_false_iff_ne]; rintro rfl; rw [dig48] at hc; cases hc
    simp [lead, hc, h48]
  | x :: a, p => by
    have ih := lead_cat hc b a (isDig x)
    rw [List.cons_append, lead, ih, lead]
    cases a with
    | nil => simp [hc]
    | cons y a => simp [Bool.or_assoc]
theorem lead_front {b : List UInt8} : ∀ {a : List UInt8} {p : Bool}, lead p a = true → lead p (a ++ b) = true
  | [], p, h => by simp [lead] at h
  | x :: a, p, h => by
    rw [lead, Bool.or_eq_true] at h
    rw [List.cons_append, lead, Bool.or_eq_true]
    rcases h with h | h
    · left
      cases a with
      | nil => simp at h
      | cons y a => simpa using h
    · exact Or.inr (lead_front h)
theorem lead_digs : ∀ {l : List UInt8}, (∀ b ∈ l, isDig b = true) → lead true l = false
  | [], _ => rfl
  | b :: l, h => by rw [lead, h b (by simp), lead_digs (fun c hc => h c (by simp [hc]))]; simp
/-- Where both ways of reading digits differ a leading zero stands. -/
theorem dig_lead {l : List UInt8} (h : lead false l = false) : digI l = digR l := by
  unfold digI digR
  by_cases h1 : l.length = 0 ∨ 10 < l.length
  · rw [if_pos h1, if_pos (by rcases h1 with h1 | h1 <;> simp [h1])]
  · rw [if_neg h1]
    by_cases h2 : 1 < l.length ∧ l[0]? = some 48
    · rw [if_pos (Or.inr (Or.inr h2))]
      obtain ⟨h3, h4⟩ := h2
      match l, h3, h4, h with
      | a :: b :: r, _, h4, h =>
        simp at h4
        subst h4
        rw [lead] at h
        simp only [List.head?_cons, Option.map_some, Option.getD_some, Bool.or_eq_false_iff] at h
        have hb : isDig b = false := by simpa using h.1
        simp [digGo, dig48, hb]
    · rw [if_neg (fun h => h.elim (fun h => h1 (Or.inl h)) (fun h => h.elim (fun h => h1 (Or.inr h)) h2))]

-- what is written has no leading zeros
theorem dig_isDig (n : Nat) : isDig (dig n) = true := by
  unfold isDig dig
  rw [UInt8.toNat_ofNat', decide_eq_true_eq]
  omega
theorem decL_digs (n : Nat) : ∀ b ∈ decL n, isDig b = true := by
  induction n using Nat.strongRecOn with
  | ind n ih =>
    intro b hb
    by_cases h : n < 10
    · rw [decL_small h, List.mem_singleton] at hb
      rw [hb]; exact dig_isDig n
    · rw [decL_big h, List.mem_append, List.mem_singleton] at hb
      rcases hb with hb | rfl
      · exact ih (n / 10) (by omega) b hb
      · exact dig_isDig n
theorem decL_head (n : Nat) : 0 < n → ∃ d l, decL n = d :: l ∧ d ≠ 48 := by
  induction n using Nat.strongRecOn with
  | ind n ih =>
    intro h0
    by_cases h : n < 10
    · refine ⟨dig n, [], decL_small h, fun e => ?_⟩
      have := congrArg UInt8.toNat e
      unfold dig at this
      rw [UInt8.toNat_ofNat'] at this
      simp at this
      omega
    · obtain ⟨d, l, h1, h2⟩ := ih (n / 10) (by omega) (by omega)
      exact ⟨d, l ++ [dig n], by rw [decL_big h, h1]; rfl, h2⟩
theorem decL_ne (n : Nat) : decL n ≠ [] := by
  by_cases h : n < 10
  · rw [decL_small h]; simp
  · rw [decL_big h]; simp
theorem decL_lead (n : Nat) : lead false (decL n) = false := by
  by_cases h0 : n = 0
  · subst h0; rw [decL_small (by omega)]; rfl
  · obtain ⟨d, l, h1, h2⟩ := decL_head n (by omega)
    have hd := decL_digs n
    rw [h1] at hd
    rw [h1, lead, hd d (by simp), lead_digs (fun b hb => hd b (by simp [hb]))]
    have : (d == 48) = false := by rw [beq_eq_false_iff_ne]; exact h2
    simp [this]
theorem decZ_lead (z : Int) : lead false (decZ z) = false := by
  unfold decZ
  split
  · have := lead_cat (c := 45) (by decide) (decL (-z).toNat) [] false
    rw [List.nil_append] at this
    rw [this, decL_lead]; rfl
  · exact decL_lead _
theorem fracL_lead (a b : Int) : lead false (fracL a b) = false := by
  unfold fracL
  split
  · exact decZ_lead a
  · rw [lead_cat (c := 47) (by decide), decZ_lead, decZ_lead]; rfl
theorem fmtGo_lead (n : Int) : ∀ (k : Nat) (b : Int), lead false (fmtGo n k b) = false
  | 0, b => by
    have := lead_cat (c := 35) (by decide) (decZ n) [] false
    rw [List.nil_append] at this
    rw [fmtGo, this, decZ_lead]; rfl
  | k + 1, b => by
    rw [fmtGo]
    split
    · exact fracL_lead _ _
    · split
      · exact fracL_lead _ _
      · exact fmtGo_lead n k (b + 1)
theorem fmtT_lead (n : Int) : lead false (fmtT n) = false := by
  unfold fmtT
  split
  · exact fmtGo_lead n 9999 1
  · rfl
theorem letter_dig {i : Nat} (h : i < 150) : isDig (UInt8.ofNat (97 + i)) = false := by
  unfold isDig
  rw [UInt8.toNat_ofNat', decide_eq_false_iff_not]
  omega
theorem powL_lead {i : Nat} (n : Int) (h : i < 150) (r : List UInt8) (hr : r = [] ∨ ∃ c l, r = c :: l ∧ isDig c = false) (hl : lead false r = false) : lead false (powL i n ++ r) = false ∧ (powL i n ++ r = [] ∨ ∃ c l, powL i n ++ r = c :: l ∧ isDig c = false) := by
  have hcat : ∀ a : List UInt8, lead false a = false → lead false (a ++ r) = false := fun a ha => by
    rcases hr with rfl | ⟨c, l, rfl, hc⟩
    · simpa using ha
    · have h1 := lead_cat hc l [] false
      rw [List.nil_append, hl] at h1
      have h2 : lead false l = false := by simpa [lead] using h1.symm
      rw [lead_cat hc, ha, h2]; rfl
  unfold powL
  split
  · refine ⟨?_, Or.inr ⟨42, _, rfl, by decide⟩⟩
    have h42 := fun b => lead_cat (c := 42) (by decide) b [] false
    have hlt := fun b => lead_cat (letter_dig h) b [] false
    simp only [List.nil_append, lead, Bool.false_or] at h42 hlt
    rw [List.cons_append, List.cons_append]
    rw [show lead false (42 :: UInt8.ofNat (97 + i) :: ((if 1 < n then decL n.toNat else []) ++ r)) = lead false (UInt8.ofNat (97 + i) :: ((if 1 < n then decL n.toNat else []) ++ r)) from h42 _]
    rw [show lead false (UInt8.ofNat (97 + i) :: ((if 1 < n then decL n.toNat else []) ++ r)) = lead false ((if 1 < n then decL n.toNat else []) ++ r) from hlt _]
    split
    · exact hcat _ (decL_lead _)
    · simpa using hl
  · exact ⟨hl, hr⟩
theorem powsT_lead : ∀ (ps : List Int) (i : Nat), i + ps.length ≤ 150 → lead false (powsT i ps) = false ∧ (powsT i ps = [] ∨ ∃ c l, powsT i ps = c :: l ∧ isDig c = false)
  | [], _, _ => ⟨rfl, Or.inl rfl⟩
  | n :: ps, i, h => by
    have ih := powsT_lead ps (i + 1) (by simp at h; omega)
    rw [powsT]
    exact powL_lead n (by simp at h; omega) _ ih.2 ih.1
theorem monT_lead {m : MonZ} (h : m.pows.length ≤ 150) : lead false (monT m) = false := by
  obtain ⟨h1, h2⟩ := powsT_lead m.pows 0 (by omega)
  unfold monT
  rcases h2 with h2 | ⟨c, l, h2, hc⟩
  · rw [h2, List.append_nil]; exact fmtT_lead _
  · rw [h2] at h1 ⊢
    have h3 := lead_cat hc l [] false
    rw [List.nil_append, h1] at h3
    have h4 : lead false l = false := by simpa [lead] using h3.symm
    rw [lead_cat hc, fmtT_lead, h4]; rfl
theorem lead_seps {b : List UInt8} : ∀ {s : List UInt8}, s ≠ [] → (∀ c ∈ s, isDig c = false) → ∀ (a : List UInt8) (p : Bool), lead p (a ++ (s ++ b)) = (lead p a || lead false b)
  | [], h, _, _, _ => absurd rfl h
  | [c], _, h, a, p => lead_cat (h c (by simp)) b a p
  | c :: d :: s, _, h, a, p => by
    have ih := lead_seps (b := b) (s := d :: s) (by simp) (fun c hc => h c (by simp [hc])) [] false
    rw [List.cons_append, lead_cat (h c (by simp))]
    rw [List.nil_append] at ih
    rw [ih]; simp [lead]
theorem joinTail_lead {sep : List UInt8} (h0 : sep ≠ []) (hs : ∀ c ∈ sep, isDig c = false) : ∀ (xs : List (List UInt8)) (a : List UInt8) (p : Bool), (∀ x ∈ xs, lead false x = false) → lead p a = false → lead p (a ++ Lib.joinTail sep xs) = false
  | [], a, p, _, ha => by simpa [Lib.joinTail] using ha
  | x :: xs, a, p, h, ha => by
    have ih := joinTail_lead h0 hs xs x false (fun y hy => h y (by simp [hy])) (h x (by simp))
    have e : Lib.joinTail sep (x :: xs) = sep ++ (x ++ Lib.joinTail sep xs) := by simp [Lib.joinTail]
    rw [e, lead_seps h0 hs, ha, ih]; rfl
theorem join_lead {sep : List UInt8} (h0 : sep ≠ []) (hs : ∀ c ∈ sep, isDig c = false) {xs : List (List UInt8)} (h : ∀ x ∈ xs, lead false x = false) : lead false (Lib.join xs sep) = false := by
  cases xs with
  | nil => simp [Lib.join_nil, lead]
  | cons x xs => rw [Lib.join_cons]; exact joinTail_lead h0 hs xs x false (fun y hy => h y (by simp [hy])) (h x (by simp))
theorem fldT_lead (f : FldZ) : lead false (fldT f) = false := by
  unfold fldT
  split
  · rename_i h
    obtain ⟨n, _, _, _, hn6, hp⟩ := fldOk_parts h
    refine join_lead (by simp) (by decide) (fun x hx => ?_)
    obtain ⟨p, hpm, rfl⟩ := List.mem_map.1 hx
    unfold polyT
    split
    · rfl
    · refine join_lead (by simp) (by decide) (fun y hy => ?_)
      obtain ⟨m, hm, rfl⟩ := List.mem_map.1 hy
      exact monT_lead (by have := ((hp p hpm).2 m hm).2.1; omega)
  · rfl
end Go.Proofs.Ytbcjhpgkodeoeaa
