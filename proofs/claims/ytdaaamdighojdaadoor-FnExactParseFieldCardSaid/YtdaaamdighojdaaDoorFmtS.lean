/- FormatField of the reference: what it returns. Conditions: none. -/
import Derived.Test.YtdaaamdighojdaaDoorFmtW
set_option linter.unusedSimpArgs false
set_option linter.unusedVariables false
namespace Go.Proofs.YtdaaamdighojdaaDoor
open Go.RowKit Go.Sort

theorem join_snoc (xs : List (List UInt8)) (y sep : List UInt8) : Lib.join (xs ++ [y]) sep = if xs = [] then y else Lib.join xs sep ++ (sep ++ y) := by
  cases xs with
  | nil => simp [Lib.join_one]
  | cons x r =>
    rw [if_neg (by simp), List.cons_append, Lib.join_cons, Lib.join_cons, List.append_assoc]
    congr 1
    simp [Lib.joinTail]
theorem decL_ne (n : Nat) : decL n ≠ [] := by
  by_cases h : n < 10
  · rw [decL_small h]; simp
  · rw [decL_big h]; simp
theorem decZ_ne (z : Int) : decZ z ≠ [] := by
  unfold decZ
  split
  · simp
  · exact decL_ne _
theorem fracL_ne (a b : Int) : fracL a b ≠ [] := by
  unfold fracL
  split
  · exact decZ_ne a
  · simp
theorem fmtGo_ne (n : Int) : ∀ (k : Nat) (b : Int), fmtGo n k b ≠ []
  | 0, b => by simp [fmtGo]
  | k + 1, b => by
    rw [fmtGo]
    split
    · exact fracL_ne _ _
    · split
      · exact fracL_ne _ _
      · exact fmtGo_ne n k (b + 1)
theorem monT_ne {m : MonZ} (h : 0 ≤ m.coef ∧ m.coef ≤ 1000000270) : monT m ≠ [] := by
  have h1 : isNumB m.coef = true := by simp [isNumB]; omega
  rw [monT, fmtT, if_pos h1]
  have := fmtGo_ne m.coef 9999 1
  unfold fmtN
  simp [this]
theorem polyT_take {p : List MonZ} {i : Nat} {m : MonZ} (h : p[i]? = some m) : Lib.join ((p.take (i + 1)).map monT) [32, 43, 32] = (if i = 0 then [] else Lib.join ((p.take i).map monT) [32, 43, 32] ++ [32, 43, 32]) ++ monT m := by
  have hi := (List.getElem?_eq_some_iff.1 h).1
  rw [take_snoc h, List.map_append, List.map_singleton, join_snoc]
  by_cases h0 : i = 0
  · subst h0; simp
  · rw [if_neg h0, if_neg (by simp; exact ⟨h0, fun e => by subst e; simp at hi⟩)]
    simp

theorem toList_loop_ne (s : ByteArray) : ∀ (k i : Nat) (r : List UInt8), s.size - i ≤ k → r ≠ [] → ByteArray.toList.loop s i r ≠ []
  | 0, i, r, h, hr => by
    unfold ByteArray.toList.loop
    rw [if_neg (by omega)]
    simpa using hr
  | k + 1, i, r, h, hr => by
    unfold ByteArray.toList.loop
    by_cases hi : i < s.size
    · rw [if_pos hi]
      exact toList_loop_ne s k (i + 1) _ (by omega) (by simp)
    · rw [if_neg hi]
      simpa using hr
theorem toList_some {s : ByteArray} (h : s.data.toList ≠ []) : s.toList.isEmpty = false := by
  have h0 : 0 < s.size := by
    rcases Nat.eq_zero_or_pos s.size with h1 | h1
    · exact absurd (List.eq_nil_of_length_eq_zero (by rw [Array.length_toList]; exact h1)) h
    · exact h1
  have : s.toList ≠ [] := by
    unfold ByteArray.toList
    unfold ByteArray.toList.loop
    rw [if_pos h0]
    exact toList_loop_ne s s.size 1 _ (by omega) (by simp)
  cases hs : s.toList with
  | nil => exact absurd hs this
  | cons a b => rfl
theorem letter_cut {r : Nat} (h : r < 6) : (ByteArray.mk #[97, 98, 99, 100, 101, 102]).extract r (r + 1) = ByteArray.mk [UInt8.ofNat (97 + r)].toArray := by
  rcases (by omega : r = 0 ∨ r = 1 ∨ r = 2 ∨ r = 3 ∨ r = 4 ∨ r = 5) with h | h | h | h | h | h <;> subst h <;> rfl

set_option maxRecDepth 100000 in
set_option maxHeartbeats 6400000 in
theorem sText_any (vp : Value) (p : List MonZ) (n : Nat) (w : World) (hp : RdMs w vp p) (hp12 : p.length ≤ 12) (hpm : ∀ m ∈ p, MonFine n m) (hn6 : n ≤ 6) :
    Calls Tryd.prog 24 #[vp] w fun e w' => e = .returned (txt (polyT p)) ∧ Below w.heap.size w w' := by
  obtain ⟨ad1, l1, c1, rfl, hl1, _, _, h1'⟩ := rdS_open hp
  rw [hl1] at hp12
  have HL := Lib.hid hl1
  have HPM := Lib.hid hpm
  have HP := Lib.hid h1'
  have HBR := Lib.hid (Below.refl w.heap.size w)
  clear hp hl1 hpm h1'
  go_enter Tryd.func24, Tryd.ntmps24
  go_wp2
  go_loopw [3, 4] (fun ss si wr => ∃ (i : Nat) (s : ByteArray), si = .int .i64 i ∧ ss = .string s ∧ i ≤ l1 ∧ s = ByteArray.mk (Lib.join ((p.take i).map monT) [32, 43, 32]).toArray ∧ Below w.heap.size w wr) (fun _ si _ => l1 - (intOf si).toNat)
  case atStart => exact ⟨0, _, rfl, rfl, Nat.zero_le _, by simp [Lib.join_nil], HBR.out⟩
  case round =>
    obtain ⟨wk, rfl⟩ : ∃ W, W = wr := ⟨_, rfl⟩
    clear HBR
    obtain ⟨i, s, rfl, rfl, hi, hs, hb⟩ := hrel
    by_cases hlt : i < l1
    case neg =>
      obtain rfl : i = l1 := by omega
      have hpt : p.take i = p := List.take_of_length_le (by rw [HL.out]; exact Nat.le_refl _)
      rw [hpt] at hs
      by_cases hl0 : i = 0
      · have HP0 := Lib.hid (show p = [] from List.eq_nil_of_length_eq_zero (by rw [HL.out]; exact hl0))
        have HE := Lib.hid (show Value.string (ByteArray.mk #[48]) = txt (polyT p) from by rw [HP0.out, polyT_nil]; rfl)
        have hs0 : s = ByteArray.mk #[] := by rw [hs, HP0.out]; rfl
        subst hs0
        clear hs hpt
        go_wp2
        go_ret
        exact ⟨ret_eq HE.out, hb⟩
      · have hne : p ≠ [] := fun h => by have := HL.out; rw [h] at this; simp at this; omega
        have HE := Lib.hid (show Value.string s = txt (polyT p) from by rw [hs, polyT_some hne]; rfl)
        have hsn : s.data.toList ≠ [] := by
          rw [hs]
          cases p with
          | nil => exact absurd rfl hne
          | cons m q =>
            have := monT_ne (HPM.out m (by simp)).1
            rw [List.map_cons, Lib.join_cons]
            simp [this]
        have hse : s.toList.isEmpty = false := toList_some hsn
        clear hs hpt hsn
        go_wp2
        go_ret
        exact ⟨ret_eq HE.out, hb⟩
    obtain ⟨b5, o5, adm, lm, cm, m, hbm, hm, hc0, hc1, hIm, hm1, hm2, hm3, hm4, _⟩ := rdMs_get HP.out hlt
    obtain ⟨hmc, hml, hmd, hmp⟩ := HPM.out m (List.mem_of_getElem? hm)
    subst hbm
    have hc0 := cell_below hb hc0
    have hc1 := cell_below hb hc1
    have HRM := Lib.hid hm4
    have HMP := Lib.hid hmp
    have HML := Lib.hid hm1
    have hlm6 : lm ≤ 6 := by omega
    have hjt := polyT_take hm
    have hjl : (Lib.join ((p.take i).map monT) [32, 43, 32]).length ≤ 528 := by
      have h1 := join_len (xs := (p.take i).map monT) (sep := [32, 43, 32]) (k := 41) (fun x hx => by
        obtain ⟨m, hmm, rfl⟩ := List.mem_map.1 hx
        have := HPM.out m (List.mem_of_mem_take hmm)
        exact monT_len (by have := this.2.1; omega) (fun n hn => (this.2.2.2 n hn).2))
      rw [List.length_map, List.length_take] at h1
      have h2 : min i p.length * (41 + [32, 43, (32 : UInt8)].length) ≤ 12 * 44 := Nat.mul_le_mul (by omega) (by decide)
      omega
    have hiI : (i : Int) < l1 := by omega
    by_cases h0 : i = 0
    · have hpre : ∃ PRE : List UInt8, PRE = [] := ⟨_, rfl⟩
      obtain ⟨PRE, hPRE⟩ := hpre
      obtain ⟨sp, hsp0⟩ : ∃ sp, sp = s := ⟨_, rfl⟩
      have hsp : sp = ByteArray.mk PRE.toArray := by rw [hsp0, hs, hPRE, h0]; rfl
      have HJN := Lib.hid (show Lib.join ((p.take (i + 1)).map monT) [32, 43, 32] = PRE ++ (fmtT m.coef ++ powsT 0 m.pows) from by rw [hjt, if_pos h0, hPRE]; rfl)
      have HPL := Lib.hid (show PRE.length ≤ 600 from by rw [hPRE]; simp)
      have hpl := HPL.out
      have hi0 : (i : Int) ≤ 0 := by omega
      subst hsp0
      obtain ⟨s1, hs1⟩ : ∃ s1, s1 = ByteArray.mk (PRE ++ fmtT m.coef).toArray := ⟨_, rfl⟩
      obtain ⟨f0, hf0⟩ : ∃ f0, f0 = ByteArray.mk (fmtT m.coef).toArray := ⟨_, rfl⟩
      have hfl := fmtT_len m.coef
      have FN := Lib.hid (show Calls Tryd.prog 36 #[.int .i64 m.coef] wk fun e w' => e = .returned (.string f0) ∧ Below wk.heap.size wk w' from by rw [hf0]; exact sFmtNum_any m.coef wk)
      have hcf : ∀ w : World, (Op.stringOp .add sp f0).run Tryd.prog w = .ok (.string s1) w := fun w => by
        rw [hsp, hf0, hs1]
        exact cat_run _ _ (by omega) w
      have HS1 := Lib.hid hs1
      clear hs1 hf0 hfl
      clear hs hsp hPRE hjt hjl hpl hm hm1 hm4 hml hmd hmp hmc h0
      go_wp2_with fail
      refine FN.out.mono ?_
      rintro e w2 ⟨rfl, hb2⟩
      have hc1b := cell_below hb2 hc1
      have hb2w := hb.trans (hb2.mono hb.size)
      have HB2 := Lib.hid hb2w
      clear hb2 hb2w hb hc0 hc1
      go_wp2
      go_loopw [3, 5] (fun sv si wr => ∃ (r : Nat) (s : ByteArray), si = .int .i64 r ∧ sv = .string s ∧ r ≤ lm ∧ s = ByteArray.mk (PRE ++ fmtT m.coef ++ powsT 0 (m.pows.take r)).toArray ∧ Below w.heap.size w wr ∧ wr.cell? ⟨b5, o5 + i * 2 + 1, none⟩ = some (.slice adm lm cm)) (fun _ si _ => lm - (intOf si).toNat)
      case atStart => exact ⟨0, s1, rfl, rfl, Nat.zero_le _, by rw [HS1.out]; simp [powsT], HB2.out, hc1b⟩
      case round =>
        obtain ⟨wy, rfl⟩ : ∃ W, W = wr := ⟨_, rfl⟩
        clear hc1b
        obtain ⟨r, s9, rfl, rfl, hr, hs9, hb9, hc9⟩ := hrel
        by_cases hlt3 : r < lm
        case neg =>
          obtain rfl : r = lm := by omega
          have HN := Lib.hid (show s9 = ByteArray.mk (Lib.join ((p.take (i + 1)).map monT) [32, 43, 32]).toArray from by
            rw [HJN.out, hs9, List.take_of_length_le (by rw [HML.out]; exact Nat.le_refl _), List.append_assoc])
          clear hs9
          go_wp2
          go_roundw
          case rel => exact ⟨i + 1, s9, by go_num, rfl, by omega, HN.out, hb9⟩
          case measure => (simp [intOf]; try omega)
        obtain ⟨bq, oq, x, rfl, hx, hcx, hIx, _⟩ := rdI_get (rdI_mono hb9 HRM.out) hlt3
        obtain ⟨hx0', hx5⟩ := HMP.out x (List.mem_of_getElem? hx)
        have hnx : powsT 0 (m.pows.take (r + 1)) = powsT 0 (m.pows.take r) ++ powL r x := by
          rw [take_snoc hx, powsT_snoc, List.length_take, HML.out, Nat.min_eq_left (by omega), Nat.zero_add]
        have hsl : (PRE ++ fmtT m.coef ++ powsT 0 (m.pows.take r)).length ≤ 1000 := by
          have h1 := fmtT_len m.coef
          have h2 := powsT_len (m.pows.take r) 0 (fun n hn => (HMP.out n (List.mem_of_mem_take hn)).2)
          have h3 := HPL.out
          rw [List.length_append, List.length_append]
          rw [List.length_take] at h2
          omega
        by_cases hp0 : 0 < x
        case neg =>
          have HN := Lib.hid (show s9 = ByteArray.mk (PRE ++ fmtT m.coef ++ powsT 0 (m.pows.take (r + 1))).toArray from by rw [hs9, hnx, powL, if_neg hp0, List.append_nil])
          clear hs9 hnx hx hsl
          go_wp2
          go_roundw
          case rel => exact ⟨r + 1, s9, by go_num, rfl, by omega, HN.out, hb9, hc9⟩
          case measure => (simp [intOf]; try omega)
        obtain ⟨t1, ht1⟩ : ∃ t1, t1 = ByteArray.mk ((PRE ++ fmtT m.coef ++ powsT 0 (m.pows.take r)) ++ [42]).toArray := ⟨_, rfl⟩
        obtain ⟨t2, ht2⟩ : ∃ t2, t2 = ByteArray.mk (((PRE ++ fmtT m.coef ++ powsT 0 (m.pows.take r)) ++ [42]) ++ [UInt8.ofNat (97 + r)]).toArray := ⟨_, rfl⟩
        have hc1 : ∀ w : World, (Op.stringOp .add s9 (ByteArray.mk #[42])).run Tryd.prog w = .ok (.string t1) w := fun w => by
          rw [hs9, ht1]
          exact cat_run _ [42] (by simp only [List.length_singleton]; omega) w
        obtain ⟨lt, hlt9⟩ : ∃ lt, lt = ByteArray.mk [UInt8.ofNat (97 + r)].toArray := ⟨_, rfl⟩
        have hc2 : ∀ w : World, (Op.stringOp .add t1 lt).run Tryd.prog w = .ok (.string t2) w := fun w => by
          rw [ht1, hlt9, ht2]
          exact cat_run _ _ (by rw [List.length_append]; simp only [List.length_singleton]; omega) w
        have hr6 : (r : Int) + 1 ≤ 6 := by omega
        have LET : (ByteArray.mk #[97, 98, 99, 100, 101, 102]).extract r (r + 1) = lt := by rw [hlt9]; exact letter_cut (by omega)
        by_cases hp1 : 1 < x
        · obtain ⟨d, hd⟩ : ∃ d, d = ByteArray.mk (decL x.toNat).toArray := ⟨_, rfl⟩
          obtain ⟨t3, ht3⟩ : ∃ t3, t3 = ByteArray.mk ((((PRE ++ fmtT m.coef ++ powsT 0 (m.pows.take r)) ++ [42]) ++ [UInt8.ofNat (97 + r)]) ++ decL x.toNat).toArray := ⟨_, rfl⟩
          have hdl := decL_len x.toNat 0 (by omega)
          have hc3 : ∀ w : World, (Op.stringOp .add t2 d).run Tryd.prog w = .ok (.string t3) w := fun w => by
            rw [ht2, hd, ht3]
            exact cat_run _ _ (by rw [List.length_append, List.length_append]; simp only [List.length_singleton]; omega) w
          have D1 := Lib.hid (show Calls Tryd.prog 38 #[.int .i64 x] wy fun e w' => e = .returned (.string d) ∧ Below wy.heap.size wy w' from by
            have h := sDecimal_any x (by omega) (by omega) wy
            rw [decZ_pos (by omega)] at h
            rw [hd]
            exact h)
          have HN := Lib.hid (show t3 = ByteArray.mk (PRE ++ fmtT m.coef ++ powsT 0 (m.pows.take (r + 1))).toArray from by rw [ht3, hnx, powL, if_pos hp0, if_pos hp1]; simp)
          clear hs9 hnx hx hsl ht1 ht2 hlt9 hd ht3 hdl
          go_wp2_with fail
          refine D1.out.mono ?_
          rintro e w8 ⟨rfl, hb8⟩
          have hc9b := cell_below hb8 hc9
          have hb8w := hb9.trans (hb8.mono hb9.size)
          clear hb8 hb9 hc9
          go_wp2
          go_roundw
          case rel => exact ⟨r + 1, t3, by go_num, rfl, by omega, HN.out, hb8w, hc9b⟩
          case measure => (simp [intOf]; try omega)
        · have HN := Lib.hid (show t2 = ByteArray.mk (PRE ++ fmtT m.coef ++ powsT 0 (m.pows.take (r + 1))).toArray from by rw [ht2, hnx, powL, if_pos hp0, if_neg hp1]; simp)
          clear hs9 hnx hx hsl ht1 ht2 hlt9
          go_wp2
          go_roundw
          case rel => exact ⟨r + 1, t2, by go_num, rfl, by omega, HN.out, hb9, hc9⟩
          case measure => (simp [intOf]; try omega)
    · have hpre : ∃ PRE : List UInt8, PRE = Lib.join ((p.take i).map monT) [32, 43, 32] ++ [32, 43, 32] := ⟨_, rfl⟩
      obtain ⟨PRE, hPRE⟩ := hpre
      obtain ⟨sp, hsp⟩ : ∃ sp, sp = ByteArray.mk PRE.toArray := ⟨_, rfl⟩
      have hcp : ∀ w : World, (Op.stringOp .add s (ByteArray.mk #[32, 43, 32])).run Tryd.prog w = .ok (.string sp) w := fun w => by
        rw [hs, hsp, hPRE]
        exact cat_run _ [32, 43, 32] (by simp only [List.length_cons, List.length_nil]; omega) w
      have HJN := Lib.hid (show Lib.join ((p.take (i + 1)).map monT) [32, 43, 32] = PRE ++ (fmtT m.coef ++ powsT 0 m.pows) from by rw [hjt, if_neg h0, hPRE]; rfl)
      have HPL := Lib.hid (show PRE.length ≤ 600 from by rw [hPRE, List.length_append]; simp only [List.length_cons, List.length_nil]; omega)
      have hpl := HPL.out
      have hi0 : (0 : Int) < (i : Int) := by omega
      obtain ⟨s1, hs1⟩ : ∃ s1, s1 = ByteArray.mk (PRE ++ fmtT m.coef).toArray := ⟨_, rfl⟩
      obtain ⟨f0, hf0⟩ : ∃ f0, f0 = ByteArray.mk (fmtT m.coef).toArray := ⟨_, rfl⟩
      have hfl := fmtT_len m.coef
      have FN := Lib.hid (show Calls Tryd.prog 36 #[.int .i64 m.coef] wk fun e w' => e = .returned (.string f0) ∧ Below wk.heap.size wk w' from by rw [hf0]; exact sFmtNum_any m.coef wk)
      have hcf : ∀ w : World, (Op.stringOp .add sp f0).run Tryd.prog w = .ok (.string s1) w := fun w => by
        rw [hsp, hf0, hs1]
        exact cat_run _ _ (by omega) w
      have HS1 := Lib.hid hs1
      clear hs1 hf0 hfl
      clear hs hsp hPRE hjt hjl hpl hm hm1 hm4 hml hmd hmp hmc h0
      go_wp2_with fail
      refine FN.out.mono ?_
      rintro e w2 ⟨rfl, hb2⟩
      have hc1b := cell_below hb2 hc1
      have hb2w := hb.trans (hb2.mono hb.size)
      have HB2 := Lib.hid hb2w
      clear hb2 hb2w hb hc0 hc1
      go_wp2
      go_loopw [3, 5] (fun sv si wr => ∃ (r : Nat) (s : ByteArray), si = .int .i64 r ∧ sv = .string s ∧ r ≤ lm ∧ s = ByteArray.mk (PRE ++ fmtT m.coef ++ powsT 0 (m.pows.take r)).toArray ∧ Below w.heap.size w wr ∧ wr.cell? ⟨b5, o5 + i * 2 + 1, none⟩ = some (.slice adm lm cm)) (fun _ si _ => lm - (intOf si).toNat)
      case atStart => exact ⟨0, s1, rfl, rfl, Nat.zero_le _, by rw [HS1.out]; simp [powsT], HB2.out, hc1b⟩
      case round =>
        obtain ⟨wy, rfl⟩ : ∃ W, W = wr := ⟨_, rfl⟩
        clear hc1b
        obtain ⟨r, s9, rfl, rfl, hr, hs9, hb9, hc9⟩ := hrel
        by_cases hlt3 : r < lm
        case neg =>
          obtain rfl : r = lm := by omega
          have HN := Lib.hid (show s9 = ByteArray.mk (Lib.join ((p.take (i + 1)).map monT) [32, 43, 32]).toArray from by
            rw [HJN.out, hs9, List.take_of_length_le (by rw [HML.out]; exact Nat.le_refl _), List.append_assoc])
          clear hs9
          go_wp2
          go_roundw
          case rel => exact ⟨i + 1, s9, by go_num, rfl, by omega, HN.out, hb9⟩
          case measure => (simp [intOf]; try omega)
        obtain ⟨bq, oq, x, rfl, hx, hcx, hIx, _⟩ := rdI_get (rdI_mono hb9 HRM.out) hlt3
        obtain ⟨hx0', hx5⟩ := HMP.out x (List.mem_of_getElem? hx)
        have hnx : powsT 0 (m.pows.take (r + 1)) = powsT 0 (m.pows.take r) ++ powL r x := by
          rw [take_snoc hx, powsT_snoc, List.length_take, HML.out, Nat.min_eq_left (by omega), Nat.zero_add]
        have hsl : (PRE ++ fmtT m.coef ++ powsT 0 (m.pows.take r)).length ≤ 1000 := by
          have h1 := fmtT_len m.coef
          have h2 := powsT_len (m.pows.take r) 0 (fun n hn => (HMP.out n (List.mem_of_mem_take hn)).2)
          have h3 := HPL.out
          rw [List.length_append, List.length_append]
          rw [List.length_take] at h2
          omega
        by_cases hp0 : 0 < x
        case neg =>
          have HN := Lib.hid (show s9 = ByteArray.mk (PRE ++ fmtT m.coef ++ powsT 0 (m.pows.take (r + 1))).toArray from by rw [hs9, hnx, powL, if_neg hp0, List.append_nil])
          clear hs9 hnx hx hsl
          go_wp2
          go_roundw
          case rel => exact ⟨r + 1, s9, by go_num, rfl, by omega, HN.out, hb9, hc9⟩
          case measure => (simp [intOf]; try omega)
        obtain ⟨t1, ht1⟩ : ∃ t1, t1 = ByteArray.mk ((PRE ++ fmtT m.coef ++ powsT 0 (m.pows.take r)) ++ [42]).toArray := ⟨_, rfl⟩
        obtain ⟨t2, ht2⟩ : ∃ t2, t2 = ByteArray.mk (((PRE ++ fmtT m.coef ++ powsT 0 (m.pows.take r)) ++ [42]) ++ [UInt8.ofNat (97 + r)]).toArray := ⟨_, rfl⟩
        have hc1 : ∀ w : World, (Op.stringOp .add s9 (ByteArray.mk #[42])).run Tryd.prog w = .ok (.string t1) w := fun w => by
          rw [hs9, ht1]
          exact cat_run _ [42] (by simp only [List.length_singleton]; omega) w
        obtain ⟨lt, hlt9⟩ : ∃ lt, lt = ByteArray.mk [UInt8.ofNat (97 + r)].toArray := ⟨_, rfl⟩
        have hc2 : ∀ w : World, (Op.stringOp .add t1 lt).run Tryd.prog w = .ok (.string t2) w := fun w => by
          rw [ht1, hlt9, ht2]
          exact cat_run _ _ (by rw [List.length_append]; simp only [List.length_singleton]; omega) w
        have hr6 : (r : Int) + 1 ≤ 6 := by omega
        have LET : (ByteArray.mk #[97, 98, 99, 100, 101, 102]).extract r (r + 1) = lt := by rw [hlt9]; exact letter_cut (by omega)
        by_cases hp1 : 1 < x
        · obtain ⟨d, hd⟩ : ∃ d, d = ByteArray.mk (decL x.toNat).toArray := ⟨_, rfl⟩
          obtain ⟨t3, ht3⟩ : ∃ t3, t3 = ByteArray.mk ((((PRE ++ fmtT m.coef ++ powsT 0 (m.pows.take r)) ++ [42]) ++ [UInt8.ofNat (97 + r)]) ++ decL x.toNat).toArray := ⟨_, rfl⟩
          have hdl := decL_len x.toNat 0 (by omega)
          have hc3 : ∀ w : World, (Op.stringOp .add t2 d).run Tryd.prog w = .ok (.string t3) w := fun w => by
            rw [ht2, hd, ht3]
            exact cat_run _ _ (by rw [List.length_append, List.length_append]; simp only [List.length_singleton]; omega) w
          have D1 := Lib.hid (show Calls Tryd.prog 38 #[.int .i64 x] wy fun e w' => e = .returned (.string d) ∧ Below wy.heap.size wy w' from by
            have h := sDecimal_any x (by omega) (by omega) wy
            rw [decZ_pos (by omega)] at h
            rw [hd]
            exact h)
          have HN := Lib.hid (show t3 = ByteArray.mk (PRE ++ fmtT m.coef ++ powsT 0 (m.pows.take (r + 1))).toArray from by rw [ht3, hnx, powL, if_pos hp0, if_pos hp1]; simp)
          clear hs9 hnx hx hsl ht1 ht2 hlt9 hd ht3 hdl
          go_wp2_with fail
          refine D1.out.mono ?_
          rintro e w8 ⟨rfl, hb8⟩
          have hc9b := cell_below hb8 hc9
          have hb8w := hb9.trans (hb8.mono hb9.size)
          clear hb8 hb9 hc9
          go_wp2
          go_roundw
          case rel => exact ⟨r + 1, t3, by go_num, rfl, by omega, HN.out, hb8w, hc9b⟩
          case measure => (simp [intOf]; try omega)
        · have HN := Lib.hid (show t2 = ByteArray.mk (PRE ++ fmtT m.coef ++ powsT 0 (m.pows.take (r + 1))).toArray from by rw [ht2, hnx, powL, if_pos hp0, if_neg hp1]; simp)
          clear hs9 hnx hx hsl ht1 ht2 hlt9
          go_wp2
          go_roundw
          case rel => exact ⟨r + 1, t2, by go_num, rfl, by omega, HN.out, hb9, hc9⟩
          case measure => (simp [intOf]; try omega)
end Go.Proofs.YtdaaamdighojdaaDoor
