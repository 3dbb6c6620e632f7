/- The texts ParM, RndF, Lay4 in one: each says at its head what it proves. Conditions: as said there. -/
import Derived.Shelf.Strings.Prefix
import Derived.Shelf.Strings.Cut
import Derived.Shelf.Strings.Split
import Derived.Test.YtbcjhpgkodeoeaaGreatDoorG28
import Derived.Test.YtbcjhpgkodeoeaaGreatDoorG38
import Derived.Test.YtbcjhpgkodeoeaaGreatDoorG27
set_option linter.unusedSimpArgs false
set_option linter.unusedVariables false
/- Fields read from texts, in plain lists: both ways of reading answer alike. Conditions: none. -/
namespace Go.Proofs.YtbcjhpgkodeoeaaGreatDoor
open Go.RowKit Go.Sort

/-- A word behind the number: whether it begins with a variable, which one, and its power. -/
def varB (dim : Nat) : List UInt8 → Bool
  | [] => false
  | b :: _ => decide (97 ≤ b.toNat ∧ b.toNat < 97 + dim)
def varN (w : List UInt8) : Nat := (w.head?.map fun b => b.toNat - 97).getD 0
def powW (dg : List UInt8 → Int) (w : List UInt8) : Int := if 1 < w.length then dg (w.drop 1) else 1
def powsW (dg : List UInt8 → Int) : List (List UInt8) → List Int → List Int
  | [], ps => ps
  | w :: ws, ps => powsW dg ws (ps.set (varN w) (powW dg w))
theorem powsW_len (dg : List UInt8 → Int) : ∀ (ws : List (List UInt8)) (ps : List Int), (powsW dg ws ps).length = ps.length
  | [], _ => rfl
  | w :: ws, ps => by rw [powsW, powsW_len dg ws, List.length_set]
theorem powsW_snoc (dg : List UInt8 → Int) (w : List UInt8) : ∀ (ws : List (List UInt8)) (ps : List Int), powsW dg (ws ++ [w]) ps = (powsW dg ws ps).set (varN w) (powW dg w)
  | [], _ => rfl
  | x :: ws, ps => by rw [List.cons_append, powsW, powsW_snoc dg w ws, powsW]
theorem powsW_same {ws : List (List UInt8)} : ∀ {ps : List Int}, (∀ w ∈ ws, digI (w.drop 1) = digR (w.drop 1)) → powsW digI ws ps = powsW digR ws ps := by
  induction ws with
  | nil => intro ps _; rfl
  | cons w ws ih =>
    intro ps h
    rw [powsW, powsW, ih (fun x hx => h x (by simp [hx]))]
    congr 2
    unfold powW
    rw [h w (by simp)]
def starS (t : List UInt8) : List (List UInt8) := Lib.split t [42]
/-- A monomial: of the reference, and of the program with whether it is one. -/
def sMon (dim : Nat) (t : List UInt8) : MonZ := if ((starS t).drop 1).all (varB dim) = true then ⟨numV ((starS t)[0]?.getD []), powsW digR ((starS t).drop 1) (List.replicate dim 0)⟩ else ⟨0, []⟩
def iMon (dim : Nat) (t : List UInt8) : MonZ := ⟨numV ((starS t)[0]?.getD []), powsW digI ((starS t).drop 1) (List.replicate dim 0)⟩
def iMonB (dim : Nat) (t : List UInt8) : Bool := okI ((starS t)[0]?.getD []) && ((starS t).drop 1).all (varB dim)
def plusS (t : List UInt8) : List (List UInt8) := Lib.split t [32, 43, 32]
def semiS (t : List UInt8) : List (List UInt8) := Lib.split t [59, 32]
def sPart (dim : Nat) (t : List UInt8) : List MonZ := if t = [48] then [] else (plusS t).map (sMon dim)
def iPart (dim : Nat) (t : List UInt8) : List MonZ := if t = [48] then [] else (plusS t).map (iMon dim)
def iPartB (dim : Nat) (t : List UInt8) : Bool := decide (t = [48]) || (plusS t).all (iMonB dim)
def sFld (l : List UInt8) : FldZ := ⟨(semiS l).length, if (semiS l).length ≤ 6 then (semiS l).map (sPart (semiS l).length) else []⟩
def iFld (l : List UInt8) : FldZ := ⟨(semiS l).length, (semiS l).map (iPart (semiS l).length)⟩
def parB (l : List UInt8) : Bool := decide (l ≠ []) && decide (fldT (sFld l) = l)
def parF (l : List UInt8) : FldZ := if parB l = true then sFld l else ⟨0, []⟩

theorem occ_parts {t sep : List UInt8} {i : Nat} (h : Lib.occAt t sep i = true) : t = t.take i ++ (sep ++ t.drop (i + sep.length)) := by
  unfold Lib.occAt at h
  obtain ⟨r, hr⟩ := List.isPrefixOf_iff_prefix.1 h
  have : t.drop (i + sep.length) = r := by rw [← List.drop_drop, ← hr]; simp
  rw [this, hr, List.take_append_drop]
theorem split_lead {sep : List UInt8} (h0 : sep ≠ []) (hs : ∀ c ∈ sep, isDig c = false) : ∀ (n : Nat) (t : List UInt8), t.length ≤ n → lead false t = false → ∀ x ∈ Lib.split t sep, lead false x = false := by
  intro n
  induction n with
  | zero =>
    intro t ht hl x hx
    have ht0 : t = [] := List.eq_nil_of_length_eq_zero (by omega)
    subst ht0
    rcases Lib.index_spec [] sep with ⟨h1, _⟩ | ⟨i, h1, _, h3, _⟩
    · rw [split_miss h1, List.mem_singleton] at hx
      rw [hx]; exact hl
    · rcases Lib.occAt_room h3 with h | h
      · have := List.length_pos_iff.2 h0; simp at h; exact absurd h.2 h0
      · exact absurd h h0
  | succ n ih =>
    intro t ht hl x hx
    rcases Lib.index_spec t sep with ⟨h1, _⟩ | ⟨i, h1, h2, h3, _⟩
    · rw [split_miss h1, List.mem_singleton] at hx
      rw [hx]; exact hl
    · rw [split_hit h0 h1, List.mem_cons] at hx
      have hp := occ_parts h3
      rw [hp, lead_seps h0 hs, Bool.or_eq_false_iff] at hl
      rcases hx with rfl | hx
      · exact hl.1
      · have := List.length_pos_iff.2 h0
        refine ih (t.drop (i + sep.length)) ?_ hl.2 x hx
        rw [List.length_drop]
        rcases Lib.occAt_room h3 with h | h
        · omega
        · exact absurd h h0
theorem drop_lead {dim : Nat} (hd : dim ≤ 150) {w : List UInt8} (hv : varB dim w = true) (h : lead false w = false) : lead false (w.drop 1) = false := by
  cases w with
  | nil => rfl
  | cons b r =>
    simp only [varB, decide_eq_true_eq] at hv
    exact lead_tail (by unfold isDig; rw [decide_eq_false_iff_not]; omega) h
theorem mon_same {dim : Nat} (hd : dim ≤ 150) {t : List UInt8} (hl : lead false t = false) (hb : iMonB dim t = true) : iMon dim t = sMon dim t := by
  simp only [iMonB, Bool.and_eq_true] at hb
  rw [iMon, sMon, if_pos hb.2]
  congr 1
  refine powsW_same (fun w hw => dig_lead (drop_lead hd (List.all_eq_true.1 hb.2 w hw) ?_))
  exact split_lead (by simp) (by decide) _ t (Nat.le_refl _) hl w (List.mem_of_mem_drop hw)
theorem part_same {dim : Nat} (hd : dim ≤ 150) {t : List UInt8} (hl : lead false t = false) (hb : iPartB dim t = true) : iPart dim t = sPart dim t := by
  unfold iPart sPart
  split
  · rfl
  · rename_i h
    simp only [iPartB, Bool.or_eq_true, decide_eq_true_eq, h, false_or] at hb
    refine List.map_congr_left fun x hx => mon_same hd ?_ (List.all_eq_true.1 hb x hx)
    exact split_lead (by simp) (by decide) _ t (Nat.le_refl _) hl x hx
theorem semi_pos (l : List UInt8) : 1 ≤ (semiS l).length := by have := List.length_pos_iff.2 (split_ne l [59, 32]); exact this
theorem fldT_no' {f : FldZ} (h : fldOkB f = false) : fldT f = [] := by rw [fldT, h]; rfl
theorem parB_dim {l : List UInt8} (h : 6 < (semiS l).length) : parB l = false := by
  have : fldOkB (sFld l) = false := fldOkB_dim (by unfold dimB sFld; rw [decide_eq_false_iff_not]; show ¬ (1 ≤ ((semiS l).length : Int) ∧ ((semiS l).length : Int) ≤ 6); omega)
  rw [parB, fldT_no' this]
  cases l <;> simp
/-- A monomial that is none has no number. -/
theorem sMon_zero {dim : Nat} {t : List UInt8} (h : iMonB dim t = false) : (sMon dim t).coef = 0 := by
  unfold sMon
  split
  · rename_i hv
    simp only [iMonB, hv, Bool.and_true] at h
    exact (numV_no h).2
  · rfl
theorem parB_mon {l : List UInt8} {part t : List UInt8} (hp : part ∈ semiS l) (h0 : part ≠ [48]) (ht : t ∈ plusS part) (hb : iMonB (semiS l).length t = false) : parB l = false := by
  by_cases h6 : 6 < (semiS l).length
  · exact parB_dim h6
  · have hok : fldOkB (sFld l) = false := by
      cases ho : fldOkB (sFld l) with
      | false => rfl
      | true =>
        simp only [fldOkB, Bool.and_eq_true, List.all_eq_true] at ho
        have hpo := ho.2 (sPart (semiS l).length part) (by
          show _ ∈ (if (semiS l).length ≤ 6 then _ else _)
          rw [if_pos (by omega)]
          exact List.mem_map.2 ⟨part, hp, rfl⟩)
        have hm : sMon (semiS l).length t ∈ sPart (semiS l).length part := by
          rw [sPart, if_neg h0]
          exact List.mem_map.2 ⟨t, ht, rfl⟩
        have hz := sMon_zero hb
        simp only [polyOkB, Bool.and_eq_true, List.all_eq_true, List.mem_range] at hpo
        obtain ⟨i, hi, he⟩ := List.getElem_of_mem hm
        have h5 := hpo.2 i hi
        have hmk : monOkB (sFld l).dim (sMon (semiS l).length t) = false := by
          unfold monOkB
          simp [hz]
        rw [stepOk_mon (List.getElem?_eq_getElem hi) (by rw [he]; exact hmk)] at h5
        cases h5
    rw [parB, fldT_no' hok]
    cases l <;> simp
/-- Where every monomial is one, both say the same. -/
theorem par_same {l : List UInt8} (h6 : (semiS l).length ≤ 6) (hb : ∀ p ∈ semiS l, iPartB (semiS l).length p = true) : decide (fldT (iFld l) = l) = parB l ∧ (parB l = true → iFld l = sFld l) := by
  cases hl : lead false l with
  | true =>
    have hf : ∀ f, fldT f ≠ l := fun f e => by have := fldT_lead f; rw [e, hl] at this; cases this
    have h1 : parB l = false := by simp [parB, hf]
    rw [h1]
    exact ⟨by simp [hf], fun h => by cases h⟩
  | false =>
    have he : iFld l = sFld l := by
      unfold iFld sFld
      rw [if_pos h6]
      congr 1
      refine List.map_congr_left fun p hp => part_same (by omega) ?_ (hb p hp)
      exact split_lead (by simp) (by decide) _ l (Nat.le_refl _) hl p hp
    refine ⟨?_, fun _ => he⟩
    rw [he, parB]
    cases hll : l with
    | cons a r => simp
    | nil =>
      -- an empty text has one part, which is no monomial
      subst hll
      have := hb [] (by decide)
      revert this
      decide
end Go.Proofs.YtbcjhpgkodeoeaaGreatDoor

/- A field's text is read back as the field. Plain: no program's step stands here. -/
namespace Go.Proofs.YtbcjhpgkodeoeaaGreatDoor
open Go.RowKit Go.Sort

/-- The signs of a number's text. -/
def numC (b : UInt8) : Prop := isDig b = true ∨ b = 35 ∨ b = 45 ∨ b = 47
theorem decZ_chars (z : Int) : ∀ b ∈ decZ z, numC b := by
  intro b hb
  unfold decZ at hb
  split at hb
  · rcases List.mem_cons.1 hb with rfl | hb
    · exact .inr (.inr (.inl rfl))
    · exact .inl (decL_digs _ b hb)
  · exact .inl (decL_digs _ b hb)
theorem fmtGo_chars (n : Int) : ∀ (k : Nat) (b : Int), ∀ c ∈ fmtGo n k b, numC c
  | 0, b, c, hc => by
    rw [fmtGo] at hc
    rcases List.mem_cons.1 hc with rfl | hc
    · exact .inr (.inl rfl)
    · exact decZ_chars _ c hc
  | k + 1, b, c, hc => by
    have hf : ∀ a : Int, ∀ c ∈ fracL a b, numC c := fun a c hc => by
      unfold fracL at hc
      split at hc
      · exact decZ_chars _ c hc
      · rcases List.mem_append.1 hc with hc | hc
        · exact decZ_chars _ c hc
        · rcases List.mem_cons.1 hc with rfl | hc
          · exact .inr (.inr (.inr rfl))
          · exact decZ_chars _ c hc
    rw [fmtGo] at hc
    split at hc
    · exact hf _ c hc
    · split at hc
      · exact hf _ c hc
      · exact fmtGo_chars n k (b + 1) c hc
theorem fmtT_chars (n : Int) : ∀ c ∈ fmtT n, numC c := by
  intro c hc
  unfold fmtT at hc
  split at hc
  · exact fmtGo_chars n _ _ c hc
  · cases hc
theorem numC_no {c : UInt8} (h : numC c) : c ≠ 42 ∧ c ≠ 32 ∧ c ≠ 59 := by
  rcases h with h | rfl | rfl | rfl
  · refine ⟨?_, ?_, ?_⟩ <;> (intro e; rw [e] at h; revert h; decide)
  · decide
  · decide
  · decide
-- the variables' words
def wordsT : Nat → List Int → List (List UInt8)
  | _, [] => []
  | i, n :: ps => (if 0 < n then [UInt8.ofNat (97 + i) :: (if 1 < n then decL n.toNat else [])] else []) ++ wordsT (i + 1) ps
theorem powsT_join : ∀ (ps : List Int) (i : Nat), powsT i ps = Lib.joinTail [42] (wordsT i ps)
  | [], i => rfl
  | n :: ps, i => by
    rw [powsT, wordsT, powsT_join ps (i + 1)]
    unfold powL Lib.joinTail
    split <;> simp
theorem letter_val {i : Nat} (h : i < 150) : (UInt8.ofNat (97 + i)).toNat = 97 + i := by
  rw [UInt8.toNat_ofNat']
  omega
theorem wordsT_chars {c : UInt8} (h42 : isDig c = false) : ∀ (ps : List Int) (i : Nat), i + ps.length ≤ 150 → (c.toNat < 97) → ∀ w ∈ wordsT i ps, c ∉ w
  | [], i, _, _, w, hw => by cases hw
  | n :: ps, i, hi, hc, w, hw => by
    rw [wordsT] at hw
    rcases List.mem_append.1 hw with hw | hw
    · split at hw
      · rw [List.mem_singleton.1 hw]
        intro hm
        rcases List.mem_cons.1 hm with e | hm
        · rw [e, letter_val (by simp at hi; omega)] at hc
          omega
        · split at hm
          · exact dec_no h42 hm
          · cases hm
      · cases hw
    · exact wordsT_chars h42 ps (i + 1) (by simp at hi; omega) hc w hw
theorem wordsT_var {dim : Nat} (hd : dim ≤ 150) : ∀ (ps : List Int) (i : Nat), i + ps.length ≤ dim → ∀ w ∈ wordsT i ps, varB dim w = true
  | [], i, _, w, hw => by cases hw
  | n :: ps, i, hi, w, hw => by
    rw [wordsT] at hw
    rcases List.mem_append.1 hw with hw | hw
    · split at hw
      · rw [List.mem_singleton.1 hw]
        simp only [varB, decide_eq_true_eq]
        rw [letter_val (by simp at hi; omega)]
        simp at hi
        omega
      · cases hw
    · exact wordsT_var hd ps (i + 1) (by simp at hi; omega) w hw
theorem set_next (A B : List Int) (q : Int) : (A ++ 0 :: B).set A.length q = (A ++ [q]) ++ B := by simp
theorem words_back : ∀ (ps : List Int) (A : List Int), A.length + ps.length ≤ 150 → (∀ x ∈ ps, 0 ≤ x ∧ x ≤ 5) → powsW digR (wordsT A.length ps) (A ++ List.replicate ps.length 0) = A ++ ps
  | [], A, _, _ => by simp [wordsT, powsW]
  | n :: ps, A, hl, hp => by
    have hn := hp n (by simp)
    have ih := words_back ps (A ++ [n]) (by simp at hl ⊢; omega) (fun x hx => hp x (by simp [hx]))
    rw [List.length_append, List.length_singleton] at ih
    rw [wordsT, List.length_cons, List.replicate_succ]
    by_cases h0 : 0 < n
    · rw [if_pos h0, List.singleton_append, powsW]
      have hv : varN (UInt8.ofNat (97 + A.length) :: (if 1 < n then decL n.toNat else [])) = A.length := by
        unfold varN
        simp only [List.head?_cons, Option.map_some, Option.getD_some]
        rw [letter_val (by simp at hl; omega)]
        omega
      have hw : powW digR (UInt8.ofNat (97 + A.length) :: (if 1 < n then decL n.toNat else [])) = n := by
        unfold powW
        by_cases h1 : 1 < n
        · have := List.length_pos_iff.2 (decL_ne n.toNat)
          rw [if_pos h1, if_pos (by simp; omega)]
          simp only [List.drop_succ_cons, List.drop_zero]
          rw [digR_dec (by omega)]
          omega
        · rw [if_neg h1, if_neg (by simp)]
          omega
      rw [hv, hw, set_next, ih]
      simp
    · have : n = 0 := by omega
      subst this
      rw [if_neg h0, List.nil_append, show A ++ 0 :: List.replicate ps.length 0 = (A ++ [0]) ++ List.replicate ps.length 0 by simp, ih]
      simp
theorem star_mon {m : MonZ} (h : m.pows.length ≤ 150) : starS (monT m) = fmtT m.coef :: wordsT 0 m.pows := by
  have e : monT m = Lib.join (fmtT m.coef :: wordsT 0 m.pows) [42] := by rw [monT, powsT_join, Lib.join_cons]
  rw [starS, e]
  refine split_join rfl _ (by simp) (fun x hx => ?_)
  rcases List.mem_cons.1 hx with rfl | hx
  · exact fun hm => (numC_no (fmtT_chars _ _ hm)).1 rfl
  · exact wordsT_chars (by decide) m.pows 0 (by omega) (by decide) x hx
theorem mon_round {n : Nat} {m : MonZ} (h : MonFine n m) (hn : n ≤ 150) : sMon n (monT m) = m := by
  obtain ⟨hc, hl, _, hp⟩ := h
  rw [sMon, star_mon (by omega), if_pos (by
    rw [List.drop_succ_cons, List.drop_zero, List.all_eq_true]
    exact wordsT_var hn m.pows 0 (by omega))]
  have h1 := (num_round (n := m.coef) (isNumB_yes hc.1 (by omega))).2
  have h2 := words_back m.pows [] (by simp; omega) hp
  simp only [List.length_nil, List.nil_append] at h2
  simp only [List.getElem?_cons_zero, Option.getD_some, List.drop_succ_cons, List.drop_zero, h1]
  rw [← hl, h2]
theorem monT_chars {m : MonZ} (h : m.pows.length ≤ 150) {c : UInt8} (hc : c = 32 ∨ c = 59) : c ∉ monT m := by
  intro hm
  rw [monT, powsT_join] at hm
  rcases List.mem_append.1 hm with hm | hm
  · have := numC_no (fmtT_chars _ _ hm)
    rcases hc with rfl | rfl
    · exact this.2.1 rfl
    · exact this.2.2 rfl
  · unfold Lib.joinTail at hm
    obtain ⟨l, hl, hcl⟩ := List.mem_flatten.1 hm
    obtain ⟨w, hw, rfl⟩ := List.mem_map.1 hl
    rcases List.mem_append.1 hcl with hcl | hcl
    · rcases hc with rfl | rfl <;> simp at hcl
    · have : isDig c = false ∧ c.toNat < 97 := by rcases hc with rfl | rfl <;> decide
      exact wordsT_chars this.1 m.pows 0 (by omega) this.2 w hw hcl
theorem join_mem {xs : List (List UInt8)} {sep : List UInt8} {c : UInt8} (h : c ∈ Lib.join xs sep) : (∃ x ∈ xs, c ∈ x) ∨ c ∈ sep := by
  cases xs with
  | nil => rw [Lib.join_nil] at h; cases h
  | cons x xs =>
    rw [Lib.join_cons] at h
    rcases List.mem_append.1 h with h | h
    · exact .inl ⟨x, by simp, h⟩
    · unfold Lib.joinTail at h
      obtain ⟨l, hl, hcl⟩ := List.mem_flatten.1 h
      obtain ⟨w, hw, rfl⟩ := List.mem_map.1 hl
      rcases List.mem_append.1 hcl with hcl | hcl
      · exact .inr hcl
      · exact .inl ⟨w, by simp [hw], hcl⟩
theorem zero_mon {n : Nat} : (sMon n [48]).coef = 0 := by
  have h : starS [48] = [[48]] := split_alone (c := 42) (t := []) rfl (by decide)
  rw [sMon, h]
  have h2 : numV [48] = 0 := by
    have := (num_round (n := 0) (by decide)).2
    rwa [fmtT_zero] at this
  simp [h2]
theorem part_round {n : Nat} {p : List MonZ} (hn : n ≤ 150) (hp : ∀ m ∈ p, MonFine n m) (h0 : ∀ m ∈ p, m.coef ≠ 0) : sPart n (polyT p) = p := by
  by_cases he : p = []
  · subst he
    rw [show polyT [] = [48] from by simp [polyT], sPart, if_pos rfl]
  · have hpt : polyT p = Lib.join (p.map monT) [32, 43, 32] := by simp [polyT, he]
    have hlen : ∀ m ∈ p, m.pows.length ≤ 150 := fun m hm => by have := (hp m hm).2.1; omega
    have hsp : plusS (polyT p) = p.map monT := by
      rw [plusS, hpt]
      refine split_join rfl _ (by simpa using he) (fun x hx => ?_)
      obtain ⟨m, hm, rfl⟩ := List.mem_map.1 hx
      exact monT_chars (hlen m hm) (.inl rfl)
    have hne : polyT p ≠ [48] := by
      intro e
      have h1 : plusS (polyT p) = [[48]] := by rw [e]; exact split_alone (c := 32) (t := [43, 32]) rfl (by decide)
      rw [hsp] at h1
      match p, h1, he with
      | [m], h1, _ =>
        simp only [List.map_cons, List.map_nil, List.cons.injEq, and_true] at h1
        have h2 := mon_round (hp m (by simp)) hn
        rw [h1] at h2
        have := zero_mon (n := n)
        rw [h2] at this
        exact h0 m (by simp) this
      | m :: k :: q, h1, _ => simp at h1
    rw [sPart, if_neg hne, hsp, List.map_map]
    conv => rhs; rw [← List.map_id p]
    refine List.map_congr_left fun m hm => ?_
    exact mon_round (hp m hm) hn
theorem poly_no59 {p : List MonZ} (h : ∀ m ∈ p, m.pows.length ≤ 150) : (59 : UInt8) ∉ polyT p := by
  intro hm
  unfold polyT at hm
  split at hm
  · simp at hm
  · rcases join_mem hm with ⟨x, hx, hc⟩ | hc
    · obtain ⟨m, hm', rfl⟩ := List.mem_map.1 hx
      exact monT_chars (h m hm') (.inr rfl) hc
    · simp at hc
theorem fld_round {f : FldZ} (h : fldOkB f = true) : sFld (fldT f) = f ∧ parB (fldT f) = true ∧ parF (fldT f) = f := by
  obtain ⟨n, hd, hl, h1, h6, hp⟩ := fldOk_parts h
  have h0 : ∀ p ∈ f.parts, ∀ m ∈ p, m.coef ≠ 0 := fun p hpp m hm => by
    simp only [fldOkB, Bool.and_eq_true, List.all_eq_true] at h
    have h2 := h.2 p hpp
    simp only [polyOkB, Bool.and_eq_true, List.all_eq_true, List.mem_range] at h2
    obtain ⟨i, hi, rfl⟩ := List.getElem_of_mem hm
    have h3 := h2.2 i hi
    unfold stepOkB at h3
    rw [List.getElem?_eq_getElem hi] at h3
    simp only [Bool.and_eq_true, monOkB, decide_eq_true_eq] at h3
    exact h3.1.1.1.1
  have hT : fldT f = Lib.join (f.parts.map polyT) [59, 32] := by simp [fldT, h]
  have hs : semiS (fldT f) = f.parts.map polyT := by
    rw [semiS, hT]
    refine split_join rfl _ (by intro e; have := congrArg List.length e; simp at this; rw [this] at hl; simp at hl; omega) (fun x hx => ?_)
    obtain ⟨p, hpp, rfl⟩ := List.mem_map.1 hx
    exact poly_no59 (fun m hm => by have := ((hp p hpp).2 m hm).2.1; omega)
  have hF : sFld (fldT f) = f := by
    unfold sFld
    rw [hs, List.length_map, hl, if_pos h6, List.map_map]
    have : f.parts.map (sPart n ∘ polyT) = f.parts := by
      conv => rhs; rw [← List.map_id f.parts]
      refine List.map_congr_left fun p hpp => ?_
      exact part_round (by omega) (hp p hpp).2 (h0 p hpp)
    rw [this, ← hd]
  have hne : fldT f ≠ [] := by
    intro e
    have h2 : semiS (fldT f) = [[]] := by rw [e]; exact split_alone (c := 59) (t := [32]) rfl (by simp)
    rw [hs] at h2
    cases hq : f.parts with
    | nil => rw [hq] at hl; simp at hl; omega
    | cons p q =>
      rw [hq] at h2
      simp only [List.map_cons, List.cons.injEq] at h2
      have hp0 := h2.1
      have hpp : p ∈ f.parts := by rw [hq]; simp
      have h3 := part_round (n := n) (by omega) (hp p hpp).2 (h0 p hpp)
      unfold polyT at hp0
      split at hp0
      · simp at hp0
      · rename_i hne
        cases p with
        | nil => exact hne rfl
        | cons m r =>
          rw [List.map_cons, Lib.join_cons] at hp0
          have hm := (List.append_eq_nil_iff.1 hp0).1
          unfold monT at hm
          have hc := (List.append_eq_nil_iff.1 hm).1
          have h4 := (num_round (n := m.coef) (isNumB_yes ((hp _ hpp).2 m (by simp)).1.1 (by have := ((hp _ hpp).2 m (by simp)).1.2; omega))).1
          rw [hc] at h4
          revert h4
          decide
  have hB : parB (fldT f) = true := by simp [parB, hF, hne]
  exact ⟨hF, hB, by rw [parF, if_pos hB, hF]⟩
end Go.Proofs.YtbcjhpgkodeoeaaGreatDoor

/- strings.HasPrefix, TrimPrefix, Cut and Split, laid at this program. Conditions: none. -/
namespace Go.Proofs.YtbcjhpgkodeoeaaGreatDoor
open Go.RowKit Go.Sort Go.Shelf

def strRen : Go.Shelf.Ren := ⟨fun | 99 => 179 | 101 => 180 | 138 => 177 | 143 => 178 | 145 => 181 | 146 => 87 | 195 => 203 | 197 => 204 | 206 => 158 | 208 => 207 | 217 => 216 | 218 => 205 | 219 => 206 | 220 => 208 | 221 => 140 | 224 => 218 | 225 => 217 | 260 => 215 | 266 => 221 | 267 => 219 | 268 => 176 | 314 => 222 | n => n, fun | 0 => 0 | 3 => 3 | 4 => 4 | 5 => 5 | 9 => 9 | 21 => 21 | 31 => 34 | 46 => 133 | 51 => 166 | 59 => 178 | 105 => 186 | 119 => 194 | 138 => 196 | 139 => 197 | 146 => 167 | n => n, fun | 1 => 0 | 3 => 1 | 4 => 2 | n => n⟩
theorem strLays99 : Lays.n99 Tryz.prog strRen := {
  mixed := by kernel_rfl
  f99 := Tryz.func179.trans (congrArg some (by kernel_rfl))
  f206 := Tryz.func158.trans (congrArg some (by kernel_rfl))
  t3 := Tryz.underlying3
  a3 := Tryz.isAgg3
  z3 := Tryz.sizeOf3
  v3 := Tryz.zeroValue3
  t4 := Tryz.underlying4
  a4 := Tryz.isAgg4
  z4 := Tryz.sizeOf4
  v4 := Tryz.zeroValue4
  t9 := Tryz.underlying9
  a9 := Tryz.isAgg9
  z9 := Tryz.sizeOf9
  v9 := Tryz.zeroValue9 }
theorem strLays101 : Lays.n101 Tryz.prog strRen := {
  mixed := by kernel_rfl
  f101 := Tryz.func180.trans (congrArg some (by kernel_rfl))
  f206 := Tryz.func158.trans (congrArg some (by kernel_rfl))
  f208 := Tryz.func207.trans (congrArg some (by kernel_rfl))
  t3 := Tryz.underlying3
  a3 := Tryz.isAgg3
  z3 := Tryz.sizeOf3
  v3 := Tryz.zeroValue3
  t4 := Tryz.underlying4
  a4 := Tryz.isAgg4
  z4 := Tryz.sizeOf4
  v4 := Tryz.zeroValue4
  t9 := Tryz.underlying9
  a9 := Tryz.isAgg9
  z9 := Tryz.sizeOf9
  v9 := Tryz.zeroValue9 }
theorem strLays145 : Lays.n145 Tryz.prog strRen := {
  mixed := by kernel_rfl
  f145 := Tryz.func181.trans (congrArg some (by kernel_rfl))
  f217 := Tryz.func216.trans (congrArg some (by kernel_rfl))
  f219 := Tryz.func206.trans (congrArg some (by kernel_rfl))
  f220 := Tryz.func208.trans (congrArg some (by kernel_rfl))
  f224 := Tryz.func218.trans (congrArg some (by kernel_rfl))
  f225 := Tryz.func217.trans (congrArg some (by kernel_rfl))
  f266 := Tryz.func221.trans (congrArg some (by kernel_rfl))
  f267 := Tryz.func219.trans (congrArg some (by kernel_rfl))
  f314 := Tryz.func222.trans (congrArg some (by kernel_rfl))
  t3 := Tryz.underlying3
  a3 := Tryz.isAgg3
  z3 := Tryz.sizeOf3
  v3 := Tryz.zeroValue3
  t4 := Tryz.underlying4
  a4 := Tryz.isAgg4
  z4 := Tryz.sizeOf4
  v4 := Tryz.zeroValue4
  t5 := Tryz.underlying5
  a5 := Tryz.isAgg5
  z5 := Tryz.sizeOf5
  v5 := Tryz.zeroValue5
  t9 := Tryz.underlying9
  a9 := Tryz.isAgg9
  z9 := Tryz.sizeOf9
  v9 := Tryz.zeroValue9
  t46 := Tryz.underlying133
  a46 := Tryz.isAgg133
  z46 := Tryz.sizeOf133
  v46 := Tryz.zeroValue133
  t51 := Tryz.underlying166
  a51 := Tryz.isAgg166
  z51 := Tryz.sizeOf166
  v51 := Tryz.zeroValue166
  t59 := Tryz.underlying178
  a59 := Tryz.isAgg178
  z59 := Tryz.sizeOf178
  v59 := Tryz.zeroValue178
  t146 := Tryz.underlying167
  a146 := Tryz.isAgg167
  z146 := Tryz.sizeOf167
  v146 := Tryz.zeroValue167
  g1 := by kernel_rfl }
theorem strLays146 : Lays.n146 Tryz.prog strRen := {
  mixed := by kernel_rfl
  f138 := Tryz.func177.trans (congrArg some (by kernel_rfl))
  f143 := Tryz.func178.trans (congrArg some (by kernel_rfl))
  f146 := Tryz.func87.trans (congrArg some (by kernel_rfl))
  f195 := Tryz.func203.trans (congrArg some (by kernel_rfl))
  f197 := Tryz.func204.trans (congrArg some (by kernel_rfl))
  f217 := Tryz.func216.trans (congrArg some (by kernel_rfl))
  f218 := Tryz.func205.trans (congrArg some (by kernel_rfl))
  f219 := Tryz.func206.trans (congrArg some (by kernel_rfl))
  f221 := Tryz.func140.trans (congrArg some (by kernel_rfl))
  f224 := Tryz.func218.trans (congrArg some (by kernel_rfl))
  f225 := Tryz.func217.trans (congrArg some (by kernel_rfl))
  f260 := Tryz.func215.trans (congrArg some (by kernel_rfl))
  f266 := Tryz.func221.trans (congrArg some (by kernel_rfl))
  f267 := Tryz.func219.trans (congrArg some (by kernel_rfl))
  f268 := Tryz.func176.trans (congrArg some (by kernel_rfl))
  f314 := Tryz.func222.trans (congrArg some (by kernel_rfl))
  t0 := Tryz.underlying0
  a0 := Tryz.isAgg0
  z0 := Tryz.sizeOf0
  v0 := Tryz.zeroValue0
  t3 := Tryz.underlying3
  a3 := Tryz.isAgg3
  z3 := Tryz.sizeOf3
  v3 := Tryz.zeroValue3
  t4 := Tryz.underlying4
  a4 := Tryz.isAgg4
  z4 := Tryz.sizeOf4
  v4 := Tryz.zeroValue4
  t5 := Tryz.underlying5
  a5 := Tryz.isAgg5
  z5 := Tryz.sizeOf5
  v5 := Tryz.zeroValue5
  t9 := Tryz.underlying9
  a9 := Tryz.isAgg9
  z9 := Tryz.sizeOf9
  v9 := Tryz.zeroValue9
  t21 := Tryz.underlying21
  a21 := Tryz.isAgg21
  z21 := Tryz.sizeOf21
  v21 := Tryz.zeroValue21
  t31 := Tryz.underlying34
  a31 := Tryz.isAgg34
  z31 := Tryz.sizeOf34
  v31 := Tryz.zeroValue34
  t46 := Tryz.underlying133
  a46 := Tryz.isAgg133
  z46 := Tryz.sizeOf133
  v46 := Tryz.zeroValue133
  t51 := Tryz.underlying166
  a51 := Tryz.isAgg166
  z51 := Tryz.sizeOf166
  v51 := Tryz.zeroValue166
  t105 := Tryz.underlying186
  a105 := Tryz.isAgg186
  z105 := Tryz.sizeOf186
  v105 := Tryz.zeroValue186
  t119 := Tryz.underlying194
  a119 := Tryz.isAgg194
  z119 := Tryz.sizeOf194
  t138 := Tryz.underlying196
  a138 := Tryz.isAgg196
  z138 := Tryz.sizeOf196
  v138 := Tryz.zeroValue196
  t139 := Tryz.underlying197
  a139 := Tryz.isAgg197
  z139 := Tryz.sizeOf197
  v139 := Tryz.zeroValue197
  t146 := Tryz.underlying167
  a146 := Tryz.isAgg167
  z146 := Tryz.sizeOf167
  v146 := Tryz.zeroValue167
  g1 := by kernel_rfl
  g3 := by kernel_rfl
  g4 := by kernel_rfl }
theorem str_list {s : ByteArray} {l : List UInt8} (hs : s = ByteArray.mk l.toArray) : s.data.toList = l := by subst hs; simp
theorem hasPrefix_any (l p : List UInt8) (s sp : ByteArray) (hs : s = ByteArray.mk l.toArray) (hp : sp = ByteArray.mk p.toArray) (w : World) :
    Calls Tryz.prog 179 #[.string s, .string sp] w fun e w' => e = .returned (.bool (Lib.hasPrefix l p)) ∧ w = w' := by
  refine (Any.strings_HasPrefix strLays99 s sp w).mono ?_
  rintro e w' ⟨he, hw⟩
  rw [str_list hs, str_list hp] at he
  exact ⟨he, hw.symm⟩
theorem trimPrefix_any (l p : List UInt8) (s sp : ByteArray) (hs : s = ByteArray.mk l.toArray) (hp : sp = ByteArray.mk p.toArray) (w : World) :
    Calls Tryz.prog 180 #[.string s, .string sp] w fun e w' => e = .returned (txt (Lib.trimPrefix l p)) ∧ w = w' := by
  refine (Any.strings_TrimPrefix strLays101 s sp w).mono ?_
  rintro e w' ⟨he, hw⟩
  rw [str_list hs, str_list hp] at he
  exact ⟨he, hw.symm⟩
/-- The cell of internal/bytealg.MaxLen. -/
def MaxCell (w : World) : Prop := ∃ m : Int, w.cell? ⟨0, 0, none⟩ = some (.int .i64 m)
theorem maxCell_mono {w w' : World} (hb : Below w.heap.size w w') (h : MaxCell w) : MaxCell w' := by
  obtain ⟨m, hm⟩ := h
  exact ⟨m, cell_below hb hm⟩
theorem cut_any (l p : List UInt8) (s sp : ByteArray) (hs : s = ByteArray.mk l.toArray) (hp : sp = ByteArray.mk p.toArray) (hl : l.length ≤ 1048576) (w : World) (hm : MaxCell w) :
    Calls Tryz.prog 181 #[.string s, .string sp] w fun e w' => e = .returned (.tuple #[txt (Lib.cut l p).1, txt (Lib.cut l p).2.1, .bool (Lib.cut l p).2.2]) ∧ Below w.heap.size w w' := by
  obtain ⟨m, hm⟩ := hm
  refine (Any.strings_Cut strLays145 s sp m w (by rw [str_size hs]; omega) hm).mono ?_
  rintro e w' ⟨he, n, hw⟩
  rw [str_list hs, str_list hp] at he
  exact ⟨he, hw ▸ blw_drewN (Below.refl _ _) n⟩
theorem splitB_txt (sp : ByteArray) (k : Nat) (s : ByteArray) : (Lib.splitB sp 0 k s).map Value.string = (Lib.splitK sp.data.toList 0 k s.data.toList).map txt := by
  rw [← Lib.splitB_data, List.map_map]
  refine List.map_congr_left fun x _ => ?_
  unfold txt
  simp
theorem split_any (l p : List UInt8) (s sp : ByteArray) (hs : s = ByteArray.mk l.toArray) (hp : sp = ByteArray.mk p.toArray) (hl : l.length ≤ 1048576) (h1 : 1 ≤ p.length) (w : World) (hm : MaxCell w) :
    Calls Tryz.prog 87 #[.string s, .string sp] w (Words w (Lib.split l p)) := by
  obtain ⟨m, hm⟩ := hm
  refine (Any.strings_Split strLays146 (by kernel_rfl) s sp m w (by rw [str_size hs]; omega) hm (by rw [str_size hp]; omega)).mono ?_
  rintro e w' ⟨rfl, rfl⟩
  have hc : Lib.countB s sp = Lib.count l p := by unfold Lib.countB; rw [str_list hs, str_list hp]
  have hlen : (Lib.splitB sp 0 (Lib.countB s sp) s).length = Lib.countB s sp + 1 := Lib.splitB_all sp (by rw [str_size hp]; omega) 0 _ s rfl
  have hx : (Lib.splitB sp 0 (Lib.countB s sp) s).map Value.string = (Lib.split l p).map txt := by rw [splitB_txt, str_list hs, str_list hp, hc]; rfl
  have hxl : (Lib.split l p).length = Lib.countB s sp + 1 := by rw [← hlen, ← List.length_map (f := txt), ← hx, List.length_map]
  have hle := split_len l p
  refine ⟨_, _, _, rfl, hxl, ⟨_, _, rfl, Nat.le_refl _⟩, ?_, (Below.refl _ _).alloc (Nat.le_refl _) _⟩
  rw [hx]
  have := World.ownsRow_lit (base := 0) (e := 9) (size := 1) w ((Lib.split l p).map txt).toArray (Lib.countB s sp + 1) (Nat.zero_le _) (by unfold maxLen; omega) (by simp [hxl])
  simp only [List.toList_toArray] at this
  exact this
end Go.Proofs.YtbcjhpgkodeoeaaGreatDoor
