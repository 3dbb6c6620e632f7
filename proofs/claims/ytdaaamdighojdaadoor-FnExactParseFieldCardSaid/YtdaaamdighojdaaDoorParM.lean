/- Fields read from texts, in plain lists: both ways of reading answer alike. Conditions: none. -/
import Derived.Test.YtdaaamdighojdaaDoorParI
set_option linter.unusedSimpArgs false
set_option linter.unusedVariables false
namespace Go.Proofs.YtdaaamdighojdaaDoor
open Go.RowKit Go.Sort

/-- A word behind the number: whether it begins with a variable, which one, and its power. -/
def varB (dim : Nat) : List UInt8 → Bool
  | [] => false
  | b :: _ => decide (97 ≤ b.toNat ∧ b.toNat < 97 + dim)
def varN (w : List UInt8) : Nat := (w.head?.map fun b => b.toNat - 97).getD 0
def powW (dg : List UInt8 → Int) (w : List UInt8) : Int := if 1 < w.length then dg (w.drop 1) else 1
def powsW (dg : List UInt8 → Int) : List (List UInt8) → List Int → List Int
  | [], ps => ps
  | w :: ws, ps => powsW dg ws (ps.set (varN w) (powW dg w))
theorem powsW_len (dg : List UInt8 → Int) : ∀ (ws : List (List UInt8)) (ps : List Int), (powsW dg ws ps).length = ps.length
  | [], _ => rfl
  | w :: ws, ps => by rw [powsW, powsW_len dg ws, List.length_set]
theorem powsW_snoc (dg : List UInt8 → Int) (w : List UInt8) : ∀ (ws : List (List UInt8)) (ps : List Int), powsW dg (ws ++ [w]) ps = (powsW dg ws ps).set (varN w) (powW dg w)
  | [], _ => rfl
  | x :: ws, ps => by rw [List.cons_append, powsW, powsW_snoc dg w ws, powsW]
theorem powsW_same {ws : List (List UInt8)} : ∀ {ps : List Int}, (∀ w ∈ ws, digI (w.drop 1) = digR (w.drop 1)) → powsW digI ws ps = powsW digR ws ps := by
  induction ws with
  | nil => intro ps _; rfl
  | cons w ws ih =>
    intro ps h
    rw [powsW, powsW, ih (fun x hx => h x (by simp [hx]))]
    congr 2
    unfold powW
    rw [h w (by simp)]
def starS (t : List UInt8) : List (List UInt8) := Lib.split t [42]
/-- A monomial: of the reference, and of the program with whether it is one. -/
def sMon (dim : Nat) (t : List UInt8) : MonZ := if ((starS t).drop 1).all (varB dim) = true then ⟨numV ((starS t)[0]?.getD []), powsW digR ((starS t).drop 1) (List.replicate dim 0)⟩ else ⟨0, []⟩
def iMon (dim : Nat) (t : List UInt8) : MonZ := ⟨numV ((starS t)[0]?.getD []), powsW digI ((starS t).drop 1) (List.replicate dim 0)⟩
def iMonB (dim : Nat) (t : List UInt8) : Bool := okI ((starS t)[0]?.getD []) && ((starS t).drop 1).all (varB dim)
def plusS (t : List UInt8) : List (List UInt8) := Lib.split t [32, 43, 32]
def semiS (t : List UInt8) : List (List UInt8) := Lib.split t [59, 32]
def sPart (dim : Nat) (t : List UInt8) : List MonZ := if t = [48] then [] else (plusS t).map (sMon dim)
def iPart (dim : Nat) (t : List UInt8) : List MonZ := if t = [48] then [] else (plusS t).map (iMon dim)
def iPartB (dim : Nat) (t : List UInt8) : Bool := decide (t = [48]) || (plusS t).all (iMonB dim)
def sFld (l : List UInt8) : FldZ := ⟨(semiS l).length, if (semiS l).length ≤ 6 then (semiS l).map (sPart (semiS l).length) else []⟩
def iFld (l : List UInt8) : FldZ := ⟨(semiS l).length, (semiS l).map (iPart (semiS l).length)⟩
def parB (l : List UInt8) : Bool := decide (l ≠ []) && decide (fldT (sFld l) = l)
def parF (l : List UInt8) : FldZ := if parB l = true then sFld l else ⟨0, []⟩

theorem occ_parts {t sep : List UInt8} {i : Nat} (h : Lib.occAt t sep i = true) : t = t.take i ++ (sep ++ t.drop (i + sep.length)) := by
  unfold Lib.occAt at h
  obtain ⟨r, hr⟩ := List.isPrefixOf_iff_prefix.1 h
  have : t.drop (i + sep.length) = r := by rw [← List.drop_drop, ← hr]; simp
  rw [this, hr, List.take_append_drop]
theorem split_lead {sep : List UInt8} (h0 : sep ≠ []) (hs : ∀ c ∈ sep, isDig c = false) : ∀ (n : Nat) (t : List UInt8), t.length ≤ n → lead false t = false → ∀ x ∈ Lib.split t sep, lead false x = false := by
  intro n
  induction n with
  | zero =>
    intro t ht hl x hx
    have ht0 : t = [] := List.eq_nil_of_length_eq_zero (by omega)
    subst ht0
    rcases Lib.index_spec [] sep with ⟨h1, _⟩ | ⟨i, h1, _, h3, _⟩
    · rw [split_miss h1, List.mem_singleton] at hx
      rw [hx]; exact hl
    · rcases Lib.occAt_room h3 with h | h
      · have := List.length_pos_iff.2 h0; simp at h; exact absurd h.2 h0
      · exact absurd h h0
  | succ n ih =>
    intro t ht hl x hx
    rcases Lib.index_spec t sep with ⟨h1, _⟩ | ⟨i, h1, h2, h3, _⟩
    · rw [split_miss h1, List.mem_singleton] at hx
      rw [hx]; exact hl
    · rw [split_hit h0 h1, List.mem_cons] at hx
      have hp := occ_parts h3
      rw [hp, lead_seps h0 hs, Bool.or_eq_false_iff] at hl
      rcases hx with rfl | hx
      · exact hl.1
      · have := List.length_pos_iff.2 h0
        refine ih (t.drop (i + sep.length)) ?_ hl.2 x hx
        rw [List.length_drop]
        rcases Lib.occAt_room h3 with h | h
        · omega
        · exact absurd h h0
theorem drop_lead {dim : Nat} (hd : dim ≤ 150) {w : List UInt8} (hv : varB dim w = true) (h : lead false w = false) : lead false (w.drop 1) = false := by
  cases w with
  | nil => rfl
  | cons b r =>
    simp only [varB, decide_eq_true_eq] at hv
    exact lead_tail (by unfold isDig; rw [decide_eq_false_iff_not]; omega) h
theorem mon_same {dim : Nat} (hd : dim ≤ 150) {t : List UInt8} (hl : lead false t = false) (hb : iMonB dim t = true) : iMon dim t = sMon dim t := by
  simp only [iMonB, Bool.and_eq_true] at hb
  rw [iMon, sMon, if_pos hb.2]
  congr 1
  refine powsW_same (fun w hw => dig_lead (drop_lead hd (List.all_eq_true.1 hb.2 w hw) ?_))
  exact split_lead (by simp) (by decide) _ t (Nat.le_refl _) hl w (List.mem_of_mem_drop hw)
theorem part_same {dim : Nat} (hd : dim ≤ 150) {t : List UInt8} (hl : lead false t = false) (hb : iPartB dim t = true) : iPart dim t = sPart dim t := by
  unfold iPart sPart
  split
  · rfl
  · rename_i h
    simp only [iPartB, Bool.or_eq_true, decide_eq_true_eq, h, false_or] at hb
    refine List.map_congr_left fun x hx => mon_same hd ?_ (List.all_eq_true.1 hb x hx)
    exact split_lead (by simp) (by decide) _ t (Nat.le_refl _) hl x hx
theorem semi_pos (l : List UInt8) : 1 ≤ (semiS l).length := by have := List.length_pos_iff.2 (split_ne l [59, 32]); exact this
theorem fldT_no' {f : FldZ} (h : fldOkB f = false) : fldT f = [] := by rw [fldT, h]; rfl
theorem parB_dim {l : List UInt8} (h : 6 < (semiS l).length) : parB l = false := by
  have : fldOkB (sFld l) = false := fldOkB_dim (by unfold dimB sFld; rw [decide_eq_false_iff_not]; show ¬ (1 ≤ ((semiS l).length : Int) ∧ ((semiS l).length : Int) ≤ 6); omega)
  rw [parB, fldT_no' this]
  cases l <;> simp
/-- A monomial that is none has no number. -/
theorem sMon_zero {dim : Nat} {t : List UInt8} (h : iMonB dim t = false) : (sMon dim t).coef = 0 := by
  unfold sMon
  split
  · rename_i hv
    simp only [iMonB, hv, Bool.and_true] at h
    exact (numV_no h).2
  · rfl
theorem parB_mon {l : List UInt8} {part t : List UInt8} (hp : part ∈ semiS l) (h0 : part ≠ [48]) (ht : t ∈ plusS part) (hb : iMonB (semiS l).length t = false) : parB l = false := by
  by_cases h6 : 6 < (semiS l).length
  · exact parB_dim h6
  · have hok : fldOkB (sFld l) = false := by
      cases ho : fldOkB (sFld l) with
      | false => rfl
      | true =>
        simp only [fldOkB, Bool.and_eq_true, List.all_eq_true] at ho
        have hpo := ho.2 (sPart (semiS l).length part) (by
          show _ ∈ (if (semiS l).length ≤ 6 then _ else _)
          rw [if_pos (by omega)]
          exact List.mem_map.2 ⟨part, hp, rfl⟩)
        have hm : sMon (semiS l).length t ∈ sPart (semiS l).length part := by
          rw [sPart, if_neg h0]
          exact List.mem_map.2 ⟨t, ht, rfl⟩
        have hz := sMon_zero hb
        simp only [polyOkB, Bool.and_eq_true, List.all_eq_true, List.mem_range] at hpo
        obtain ⟨i, hi, he⟩ := List.getElem_of_mem hm
        have h5 := hpo.2 i hi
        have hmk : monOkB (sFld l).dim (sMon (semiS l).length t) = false := by
          unfold monOkB
          simp [hz]
        rw [stepOk_mon (List.getElem?_eq_getElem hi) (by rw [he]; exact hmk)] at h5
        cases h5
    rw [parB, fldT_no' hok]
    cases l <;> simp
/-- Where every monomial is one, both say the same. -/
theorem par_same {l : List UInt8} (h6 : (semiS l).length ≤ 6) (hb : ∀ p ∈ semiS l, iPartB (semiS l).length p = true) : decide (fldT (iFld l) = l) = parB l ∧ (parB l = true → iFld l = sFld l) := by
  cases hl : lead false l with
  | true =>
    have hf : ∀ f, fldT f ≠ l := fun f e => by have := fldT_lead f; rw [e, hl] at this; cases this
    have h1 : parB l = false := by simp [parB, hf]
    rw [h1]
    exact ⟨by simp [hf], fun h => by cases h⟩
  | false =>
    have he : iFld l = sFld l := by
      unfold iFld sFld
      rw [if_pos h6]
      congr 1
      refine List.map_congr_left fun p hp => part_same (by omega) ?_ (hb p hp)
      exact split_lead (by simp) (by decide) _ l (Nat.le_refl _) hl p hp
    refine ⟨?_, fun _ => he⟩
    rw [he, parB]
    cases hll : l with
    | cons a r => simp
    | nil =>
      -- an empty text has one part, which is no monomial
      subst hll
      have := hb [] (by decide)
      revert this
      decide
end Go.Proofs.YtdaaamdighojdaaDoor
