/- The texts FmtS, FmtF, DrwB, RndN in one: each says at its head what it proves. Conditions: as said there. -/
import Derived.Test.YtbcjhpgkodeoeaaGreatDoorG37
import Derived.Test.YtbcjhpgkodeoeaaGreatDoorG36
import Derived.Test.YtbcjhpgkodeoeaaGreatDoorG28
import Derived.Test.YtbcjhpgkodeoeaaGreatDoorG13
set_option linter.unusedSimpArgs false
set_option linter.unusedVariables false
/- FormatField of the reference: what it returns. Conditions: none. -/
namespace Go.Proofs.YtbcjhpgkodeoeaaGreatDoor
open Go.RowKit Go.Sort

theorem join_snoc (xs : List (List UInt8)) (y sep : List UInt8) : Lib.join (xs ++ [y]) sep = if xs = [] then y else Lib.join xs sep ++ (sep ++ y) := by
  cases xs with
  | nil => simp [Lib.join_one]
  | cons x r =>
    rw [if_neg (by simp), List.cons_append, Lib.join_cons, Lib.join_cons, List.append_assoc]
    congr 1
    simp [Lib.joinTail]
theorem decL_neS (n : Nat) : decL n ≠ [] := by
  by_cases h : n < 10
  · rw [decL_small h]; simp
  · rw [decL_big h]; simp
theorem decZ_ne (z : Int) : decZ z ≠ [] := by
  unfold decZ
  split
  · simp
  · exact decL_neS _
theorem fracL_ne (a b : Int) : fracL a b ≠ [] := by
  unfold fracL
  split
  · exact decZ_ne a
  · simp
theorem fmtGo_ne (n : Int) : ∀ (k : Nat) (b : Int), fmtGo n k b ≠ []
  | 0, b => by simp [fmtGo]
  | k + 1, b => by
    rw [fmtGo]
    split
    · exact fracL_ne _ _
    · split
      · exact fracL_ne _ _
      · exact fmtGo_ne n k (b + 1)
theorem monT_ne {m : MonZ} (h : 0 ≤ m.coef ∧ m.coef ≤ 1000000270) : monT m ≠ [] := by
  have h1 : isNumB m.coef = true := by simp [isNumB]; omega
  rw [monT, fmtT, if_pos h1]
  have := fmtGo_ne m.coef 9999 1
  unfold fmtN
  simp [this]
theorem polyT_take {p : List MonZ} {i : Nat} {m : MonZ} (h : p[i]? = some m) : Lib.join ((p.take (i + 1)).map monT) [32, 43, 32] = (if i = 0 then [] else Lib.join ((p.take i).map monT) [32, 43, 32] ++ [32, 43, 32]) ++ monT m := by
  have hi := (List.getElem?_eq_some_iff.1 h).1
  rw [take_snoc h, List.map_append, List.map_singleton, join_snoc]
  by_cases h0 : i = 0
  · subst h0; simp
  · rw [if_neg h0, if_neg (by simp; exact ⟨h0, fun e => by subst e; simp at hi⟩)]
    simp

theorem toList_loop_ne (s : ByteArray) : ∀ (k i : Nat) (r : List UInt8), s.size - i ≤ k → r ≠ [] → ByteArray.toList.loop s i r ≠ []
  | 0, i, r, h, hr => by
    unfold ByteArray.toList.loop
    rw [if_neg (by omega)]
    simpa using hr
  | k + 1, i, r, h, hr => by
    unfold ByteArray.toList.loop
    by_cases hi : i < s.size
    · rw [if_pos hi]
      exact toList_loop_ne s k (i + 1) _ (by omega) (by simp)
    · rw [if_neg hi]
      simpa using hr
theorem toList_some {s : ByteArray} (h : s.data.toList ≠ []) : s.toList.isEmpty = false := by
  have h0 : 0 < s.size := by
    rcases Nat.eq_zero_or_pos s.size with h1 | h1
    · exact absurd (List.eq_nil_of_length_eq_zero (by rw [Array.length_toList]; exact h1)) h
    · exact h1
  have : s.toList ≠ [] := by
    unfold ByteArray.toList
    unfold ByteArray.toList.loop
    rw [if_pos h0]
    exact toList_loop_ne s s.size 1 _ (by omega) (by simp)
  cases hs : s.toList with
  | nil => exact absurd hs this
  | cons a b => rfl
theorem letter_cut {r : Nat} (h : r < 6) : (ByteArray.mk #[97, 98, 99, 100, 101, 102]).extract r (r + 1) = ByteArray.mk [UInt8.ofNat (97 + r)].toArray := by
  rcases (by omega : r = 0 ∨ r = 1 ∨ r = 2 ∨ r = 3 ∨ r = 4 ∨ r = 5) with h | h | h | h | h | h <;> subst h <;> rfl

set_option maxRecDepth 100000 in
set_option maxHeartbeats 6400000 in
theorem sText_any (vp : Value) (p : List MonZ) (n : Nat) (w : World) (hp : RdMs w vp p) (hp12 : p.length ≤ 12) (hpm : ∀ m ∈ p, MonFine n m) (hn6 : n ≤ 6) :
    Calls Tryz.prog 98 #[vp] w fun e w' => e = .returned (txt (polyT p)) ∧ Below w.heap.size w w' := by
  obtain ⟨ad1, l1, c1, rfl, hl1, _, _, h1'⟩ := rdS_open hp
  rw [hl1] at hp12
  have HL := Lib.hid hl1
  have HPM := Lib.hid hpm
  have HP := Lib.hid h1'
  have HBR := Lib.hid (Below.refl w.heap.size w)
  clear hp hl1 hpm h1'
  go_enter Tryz.func98, Tryz.ntmps98
  go_wp2
  go_loopw [3, 4] (fun ss si wr => ∃ (i : Nat) (s : ByteArray), si = .int .i64 i ∧ ss = .string s ∧ i ≤ l1 ∧ s = ByteArray.mk (Lib.join ((p.take i).map monT) [32, 43, 32]).toArray ∧ Below w.heap.size w wr) (fun _ si _ => l1 - (intOf si).toNat)
  case atStart => exact ⟨0, _, rfl, rfl, Nat.zero_le _, by simp [Lib.join_nil], HBR.out⟩
  case round =>
    obtain ⟨wk, rfl⟩ : ∃ W, W = wr := ⟨_, rfl⟩
    clear HBR
    obtain ⟨i, s, rfl, rfl, hi, hs, hb⟩ := hrel
    by_cases hlt : i < l1
    case neg =>
      obtain rfl : i = l1 := by omega
      have hpt : p.take i = p := List.take_of_length_le (by rw [HL.out]; exact Nat.le_refl _)
      rw [hpt] at hs
      by_cases hl0 : i = 0
      · have HP0 := Lib.hid (show p = [] from List.eq_nil_of_length_eq_zero (by rw [HL.out]; exact hl0))
        have HE := Lib.hid (show Value.string (ByteArray.mk #[48]) = txt (polyT p) from by rw [HP0.out, polyT_nil]; rfl)
        have hs0 : s = ByteArray.mk #[] := by rw [hs, HP0.out]; rfl
        subst hs0
        clear hs hpt
        go_wp2
        go_ret
        exact ⟨ret_eq HE.out, hb⟩
      · have hne : p ≠ [] := fun h => by have := HL.out; rw [h] at this; simp at this; omega
        have HE := Lib.hid (show Value.string s = txt (polyT p) from by rw [hs, polyT_some hne]; rfl)
        have hsn : s.data.toList ≠ [] := by
          rw [hs]
          cases p with
          | nil => exact absurd rfl hne
          | cons m q =>
            have := monT_ne (HPM.out m (by simp)).1
            rw [List.map_cons, Lib.join_cons]
            simp [this]
        have hse : s.toList.isEmpty = false := toList_some hsn
        clear hs hpt hsn
        go_wp2
        go_ret
        exact ⟨ret_eq HE.out, hb⟩
    obtain ⟨b5, o5, adm, lm, cm, m, hbm, hm, hc0, hc1, hIm, hm1, hm2, hm3, hm4, _⟩ := rdMs_get HP.out hlt
    obtain ⟨hmc, hml, hmd, hmp⟩ := HPM.out m (List.mem_of_getElem? hm)
    subst hbm
    have hc0 := cell_below hb hc0
    have hc1 := cell_below hb hc1
    have HRM := Lib.hid hm4
    have HMP := Lib.hid hmp
    have HML := Lib.hid hm1
    have hlm6 : lm ≤ 6 := by omega
    have hjt := polyT_take hm
    have hjl : (Lib.join ((p.take i).map monT) [32, 43, 32]).length ≤ 528 := by
      have h1 := join_len (xs := (p.take i).map monT) (sep := [32, 43, 32]) (k := 41) (fun x hx => by
        obtain ⟨m, hmm, rfl⟩ := List.mem_map.1 hx
        have := HPM.out m (List.mem_of_mem_take hmm)
        exact monT_len (by have := this.2.1; omega) (fun n hn => (this.2.2.2 n hn).2))
      rw [List.length_map, List.length_take] at h1
      have h2 : min i p.length * (41 + [32, 43, (32 : UInt8)].length) ≤ 12 * 44 := Nat.mul_le_mul (by omega) (by decide)
      omega
    have hiI : (i : Int) < l1 := by omega
    by_cases h0 : i = 0
    · have hpre : ∃ PRE : List UInt8, PRE = [] := ⟨_, rfl⟩
      obtain ⟨PRE, hPRE⟩ := hpre
      obtain ⟨sp, hsp0⟩ : ∃ sp, sp = s := ⟨_, rfl⟩
      have hsp : sp = ByteArray.mk PRE.toArray := by rw [hsp0, hs, hPRE, h0]; rfl
      have HJN := Lib.hid (show Lib.join ((p.take (i + 1)).map monT) [32, 43, 32] = PRE ++ (fmtT m.coef ++ powsT 0 m.pows) from by rw [hjt, if_pos h0, hPRE]; rfl)
      have HPL := Lib.hid (show PRE.length ≤ 600 from by rw [hPRE]; simp)
      have hpl := HPL.out
      have hi0 : (i : Int) ≤ 0 := by omega
      subst hsp0
      obtain ⟨s1, hs1⟩ : ∃ s1, s1 = ByteArray.mk (PRE ++ fmtT m.coef).toArray := ⟨_, rfl⟩
      obtain ⟨f0, hf0⟩ : ∃ f0, f0 = ByteArray.mk (fmtT m.coef).toArray := ⟨_, rfl⟩
      have hfl := fmtT_len m.coef
      have FN := Lib.hid (show Calls Tryz.prog 149 #[.int .i64 m.coef] wk fun e w' => e = .returned (.string f0) ∧ Below wk.heap.size wk w' from by rw [hf0]; exact sFmtNum_any m.coef wk)
      have hcf : ∀ w : World, (Op.stringOp .add sp f0).run Tryz.prog w = .ok (.string s1) w := fun w => by
        rw [hsp, hf0, hs1]
        exact cat_run _ _ (by omega) w
      have HS1 := Lib.hid hs1
      clear hs1 hf0 hfl
      clear hs hsp hPRE hjt hjl hpl hm hm1 hm4 hml hmd hmp hmc h0
      go_wp2_with fail
      refine FN.out.mono ?_
      rintro e w2 ⟨rfl, hb2⟩
      have hc1b := cell_below hb2 hc1
      have hb2w := hb.trans (hb2.mono hb.size)
      have HB2 := Lib.hid hb2w
      clear hb2 hb2w hb hc0 hc1
      go_wp2
      go_loopw [3, 5] (fun sv si wr => ∃ (r : Nat) (s : ByteArray), si = .int .i64 r ∧ sv = .string s ∧ r ≤ lm ∧ s = ByteArray.mk (PRE ++ fmtT m.coef ++ powsT 0 (m.pows.take r)).toArray ∧ Below w.heap.size w wr ∧ wr.cell? ⟨b5, o5 + i * 2 + 1, none⟩ = some (.slice adm lm cm)) (fun _ si _ => lm - (intOf si).toNat)
      case atStart => exact ⟨0, s1, rfl, rfl, Nat.zero_le _, by rw [HS1.out]; simp [powsT], HB2.out, hc1b⟩
      case round =>
        obtain ⟨wy, rfl⟩ : ∃ W, W = wr := ⟨_, rfl⟩
        clear hc1b
        obtain ⟨r, s9, rfl, rfl, hr, hs9, hb9, hc9⟩ := hrel
        by_cases hlt3 : r < lm
        case neg =>
          obtain rfl : r = lm := by omega
          have HN := Lib.hid (show s9 = ByteArray.mk (Lib.join ((p.take (i + 1)).map monT) [32, 43, 32]).toArray from by
            rw [HJN.out, hs9, List.take_of_length_le (by rw [HML.out]; exact Nat.le_refl _), List.append_assoc])
          clear hs9
          go_wp2
          go_roundw
          case rel => exact ⟨i + 1, s9, by go_num, rfl, by omega, HN.out, hb9⟩
          case measure => (simp [intOf]; try omega)
        obtain ⟨bq, oq, x, rfl, hx, hcx, hIx, _⟩ := rdI_get (rdI_mono hb9 HRM.out) hlt3
        obtain ⟨hx0', hx5⟩ := HMP.out x (List.mem_of_getElem? hx)
        have hnx : powsT 0 (m.pows.take (r + 1)) = powsT 0 (m.pows.take r) ++ powL r x := by
          rw [take_snoc hx, powsT_snoc, List.length_take, HML.out, Nat.min_eq_left (by omega), Nat.zero_add]
        have hsl : (PRE ++ fmtT m.coef ++ powsT 0 (m.pows.take r)).length ≤ 1000 := by
          have h1 := fmtT_len m.coef
          have h2 := powsT_len (m.pows.take r) 0 (fun n hn => (HMP.out n (List.mem_of_mem_take hn)).2)
          have h3 := HPL.out
          rw [List.length_append, List.length_append]
          rw [List.length_take] at h2
          omega
        by_cases hp0 : 0 < x
        case neg =>
          have HN := Lib.hid (show s9 = ByteArray.mk (PRE ++ fmtT m.coef ++ powsT 0 (m.pows.take (r + 1))).toArray from by rw [hs9, hnx, powL, if_neg hp0, List.append_nil])
          clear hs9 hnx hx hsl
          go_wp2
          go_roundw
          case rel => exact ⟨r + 1, s9, by go_num, rfl, by omega, HN.out, hb9, hc9⟩
          case measure => (simp [intOf]; try omega)
        obtain ⟨t1, ht1⟩ : ∃ t1, t1 = ByteArray.mk ((PRE ++ fmtT m.coef ++ powsT 0 (m.pows.take r)) ++ [42]).toArray := ⟨_, rfl⟩
        obtain ⟨t2, ht2⟩ : ∃ t2, t2 = ByteArray.mk (((PRE ++ fmtT m.coef ++ powsT 0 (m.pows.take r)) ++ [42]) ++ [UInt8.ofNat (97 + r)]).toArray := ⟨_, rfl⟩
        have hc1 : ∀ w : World, (Op.stringOp .add s9 (ByteArray.mk #[42])).run Tryz.prog w = .ok (.string t1) w := fun w => by
          rw [hs9, ht1]
          exact cat_run _ [42] (by simp only [List.length_singleton]; omega) w
        obtain ⟨lt, hlt9⟩ : ∃ lt, lt = ByteArray.mk [UInt8.ofNat (97 + r)].toArray := ⟨_, rfl⟩
        have hc2 : ∀ w : World, (Op.stringOp .add t1 lt).run Tryz.prog w = .ok (.string t2) w := fun w => by
          rw [ht1, hlt9, ht2]
          exact cat_run _ _ (by rw [List.length_append]; simp only [List.length_singleton]; omega) w
        have hr6 : (r : Int) + 1 ≤ 6 := by omega
        have LET : (ByteArray.mk #[97, 98, 99, 100, 101, 102]).extract r (r + 1) = lt := by rw [hlt9]; exact letter_cut (by omega)
        by_cases hp1 : 1 < x
        · obtain ⟨d, hd⟩ : ∃ d, d = ByteArray.mk (decL x.toNat).toArray := ⟨_, rfl⟩
          obtain ⟨t3, ht3⟩ : ∃ t3, t3 = ByteArray.mk ((((PRE ++ fmtT m.coef ++ powsT 0 (m.pows.take r)) ++ [42]) ++ [UInt8.ofNat (97 + r)]) ++ decL x.toNat).toArray := ⟨_, rfl⟩
          have hdl := decL_len x.toNat 0 (by omega)
          have hc3 : ∀ w : World, (Op.stringOp .add t2 d).run Tryz.prog w = .ok (.string t3) w := fun w => by
            rw [ht2, hd, ht3]
            exact cat_run _ _ (by rw [List.length_append, List.length_append]; simp only [List.length_singleton]; omega) w
          have D1 := Lib.hid (show Calls Tryz.prog 150 #[.int .i64 x] wy fun e w' => e = .returned (.string d) ∧ Below wy.heap.size wy w' from by
            have h := sDecimal_any x (by omega) (by omega) wy
            rw [decZ_pos (by omega)] at h
            rw [hd]
            exact h)
          have HN := Lib.hid (show t3 = ByteArray.mk (PRE ++ fmtT m.coef ++ powsT 0 (m.pows.take (r + 1))).toArray from by rw [ht3, hnx, powL, if_pos hp0, if_pos hp1]; simp)
          clear hs9 hnx hx hsl ht1 ht2 hlt9 hd ht3 hdl
          go_wp2_with fail
          refine D1.out.mono ?_
          rintro e w8 ⟨rfl, hb8⟩
          have hc9b := cell_below hb8 hc9
          have hb8w := hb9.trans (hb8.mono hb9.size)
          clear hb8 hb9 hc9
          go_wp2
          go_roundw
          case rel => exact ⟨r + 1, t3, by go_num, rfl, by omega, HN.out, hb8w, hc9b⟩
          case measure => (simp [intOf]; try omega)
        · have HN := Lib.hid (show t2 = ByteArray.mk (PRE ++ fmtT m.coef ++ powsT 0 (m.pows.take (r + 1))).toArray from by rw [ht2, hnx, powL, if_pos hp0, if_neg hp1]; simp)
          clear hs9 hnx hx hsl ht1 ht2 hlt9
          go_wp2
          go_roundw
          case rel => exact ⟨r + 1, t2, by go_num, rfl, by omega, HN.out, hb9, hc9⟩
          case measure => (simp [intOf]; try omega)
    · have hpre : ∃ PRE : List UInt8, PRE = Lib.join ((p.take i).map monT) [32, 43, 32] ++ [32, 43, 32] := ⟨_, rfl⟩
      obtain ⟨PRE, hPRE⟩ := hpre
      obtain ⟨sp, hsp⟩ : ∃ sp, sp = ByteArray.mk PRE.toArray := ⟨_, rfl⟩
      have hcp : ∀ w : World, (Op.stringOp .add s (ByteArray.mk #[32, 43, 32])).run Tryz.prog w = .ok (.string sp) w := fun w => by
        rw [hs, hsp, hPRE]
        exact cat_run _ [32, 43, 32] (by simp only [List.length_cons, List.length_nil]; omega) w
      have HJN := Lib.hid (show Lib.join ((p.take (i + 1)).map monT) [32, 43, 32] = PRE ++ (fmtT m.coef ++ powsT 0 m.pows) from by rw [hjt, if_neg h0, hPRE]; rfl)
      have HPL := Lib.hid (show PRE.length ≤ 600 from by rw [hPRE, List.length_append]; simp only [List.length_cons, List.length_nil]; omega)
      have hpl := HPL.out
      have hi0 : (0 : Int) < (i : Int) := by omega
      obtain ⟨s1, hs1⟩ : ∃ s1, s1 = ByteArray.mk (PRE ++ fmtT m.coef).toArray := ⟨_, rfl⟩
      obtain ⟨f0, hf0⟩ : ∃ f0, f0 = ByteArray.mk (fmtT m.coef).toArray := ⟨_, rfl⟩
      have hfl := fmtT_len m.coef
      have FN := Lib.hid (show Calls Tryz.prog 149 #[.int .i64 m.coef] wk fun e w' => e = .returned (.string f0) ∧ Below wk.heap.size wk w' from by rw [hf0]; exact sFmtNum_any m.coef wk)
      have hcf : ∀ w : World, (Op.stringOp .add sp f0).run Tryz.prog w = .ok (.string s1) w := fun w => by
        rw [hsp, hf0, hs1]
        exact cat_run _ _ (by omega) w
      have HS1 := Lib.hid hs1
      clear hs1 hf0 hfl
      clear hs hsp hPRE hjt hjl hpl hm hm1 hm4 hml hmd hmp hmc h0
      go_wp2_with fail
      refine FN.out.mono ?_
      rintro e w2 ⟨rfl, hb2⟩
      have hc1b := cell_below hb2 hc1
      have hb2w := hb.trans (hb2.mono hb.size)
      have HB2 := Lib.hid hb2w
      clear hb2 hb2w hb hc0 hc1
      go_wp2
      go_loopw [3, 5] (fun sv si wr => ∃ (r : Nat) (s : ByteArray), si = .int .i64 r ∧ sv = .string s ∧ r ≤ lm ∧ s = ByteArray.mk (PRE ++ fmtT m.coef ++ powsT 0 (m.pows.take r)).toArray ∧ Below w.heap.size w wr ∧ wr.cell? ⟨b5, o5 + i * 2 + 1, none⟩ = some (.slice adm lm cm)) (fun _ si _ => lm - (intOf si).toNat)
      case atStart => exact ⟨0, s1, rfl, rfl, Nat.zero_le _, by rw [HS1.out]; simp [powsT], HB2.out, hc1b⟩
      case round =>
        obtain ⟨wy, rfl⟩ : ∃ W, W = wr := ⟨_, rfl⟩
        clear hc1b
        obtain ⟨r, s9, rfl, rfl, hr, hs9, hb9, hc9⟩ := hrel
        by_cases hlt3 : r < lm
        case neg =>
          obtain rfl : r = lm := by omega
          have HN := Lib.hid (show s9 = ByteArray.mk (Lib.join ((p.take (i + 1)).map monT) [32, 43, 32]).toArray from by
            rw [HJN.out, hs9, List.take_of_length_le (by rw [HML.out]; exact Nat.le_refl _), List.append_assoc])
          clear hs9
          go_wp2
          go_roundw
          case rel => exact ⟨i + 1, s9, by go_num, rfl, by omega, HN.out, hb9⟩
          case measure => (simp [intOf]; try omega)
        obtain ⟨bq, oq, x, rfl, hx, hcx, hIx, _⟩ := rdI_get (rdI_mono hb9 HRM.out) hlt3
        obtain ⟨hx0', hx5⟩ := HMP.out x (List.mem_of_getElem? hx)
        have hnx : powsT 0 (m.pows.take (r + 1)) = powsT 0 (m.pows.take r) ++ powL r x := by
          rw [take_snoc hx, powsT_snoc, List.length_take, HML.out, Nat.min_eq_left (by omega), Nat.zero_add]
        have hsl : (PRE ++ fmtT m.coef ++ powsT 0 (m.pows.take r)).length ≤ 1000 := by
          have h1 := fmtT_len m.coef
          have h2 := powsT_len (m.pows.take r) 0 (fun n hn => (HMP.out n (List.mem_of_mem_take hn)).2)
          have h3 := HPL.out
          rw [List.length_append, List.length_append]
          rw [List.length_take] at h2
          omega
        by_cases hp0 : 0 < x
        case neg =>
          have HN := Lib.hid (show s9 = ByteArray.mk (PRE ++ fmtT m.coef ++ powsT 0 (m.pows.take (r + 1))).toArray from by rw [hs9, hnx, powL, if_neg hp0, List.append_nil])
          clear hs9 hnx hx hsl
          go_wp2
          go_roundw
          case rel => exact ⟨r + 1, s9, by go_num, rfl, by omega, HN.out, hb9, hc9⟩
          case measure => (simp [intOf]; try omega)
        obtain ⟨t1, ht1⟩ : ∃ t1, t1 = ByteArray.mk ((PRE ++ fmtT m.coef ++ powsT 0 (m.pows.take r)) ++ [42]).toArray := ⟨_, rfl⟩
        obtain ⟨t2, ht2⟩ : ∃ t2, t2 = ByteArray.mk (((PRE ++ fmtT m.coef ++ powsT 0 (m.pows.take r)) ++ [42]) ++ [UInt8.ofNat (97 + r)]).toArray := ⟨_, rfl⟩
        have hc1 : ∀ w : World, (Op.stringOp .add s9 (ByteArray.mk #[42])).run Tryz.prog w = .ok (.string t1) w := fun w => by
          rw [hs9, ht1]
          exact cat_run _ [42] (by simp only [List.length_singleton]; omega) w
        obtain ⟨lt, hlt9⟩ : ∃ lt, lt = ByteArray.mk [UInt8.ofNat (97 + r)].toArray := ⟨_, rfl⟩
        have hc2 : ∀ w : World, (Op.stringOp .add t1 lt).run Tryz.prog w = .ok (.string t2) w := fun w => by
          rw [ht1, hlt9, ht2]
          exact cat_run _ _ (by rw [List.length_append]; simp only [List.length_singleton]; omega) w
        have hr6 : (r : Int) + 1 ≤ 6 := by omega
        have LET : (ByteArray.mk #[97, 98, 99, 100, 101, 102]).extract r (r + 1) = lt := by rw [hlt9]; exact letter_cut (by omega)
        by_cases hp1 : 1 < x
        · obtain ⟨d, hd⟩ : ∃ d, d = ByteArray.mk (decL x.toNat).toArray := ⟨_, rfl⟩
          obtain ⟨t3, ht3⟩ : ∃ t3, t3 = ByteArray.mk ((((PRE ++ fmtT m.coef ++ powsT 0 (m.pows.take r)) ++ [42]) ++ [UInt8.ofNat (97 + r)]) ++ decL x.toNat).toArray := ⟨_, rfl⟩
          have hdl := decL_len x.toNat 0 (by omega)
          have hc3 : ∀ w : World, (Op.stringOp .add t2 d).run Tryz.prog w = .ok (.string t3) w := fun w => by
            rw [ht2, hd, ht3]
            exact cat_run _ _ (by rw [List.length_append, List.length_append]; simp only [List.length_singleton]; omega) w
          have D1 := Lib.hid (show Calls Tryz.prog 150 #[.int .i64 x] wy fun e w' => e = .returned (.string d) ∧ Below wy.heap.size wy w' from by
            have h := sDecimal_any x (by omega) (by omega) wy
            rw [decZ_pos (by omega)] at h
            rw [hd]
            exact h)
          have HN := Lib.hid (show t3 = ByteArray.mk (PRE ++ fmtT m.coef ++ powsT 0 (m.pows.take (r + 1))).toArray from by rw [ht3, hnx, powL, if_pos hp0, if_pos hp1]; simp)
          clear hs9 hnx hx hsl ht1 ht2 hlt9 hd ht3 hdl
          go_wp2_with fail
          refine D1.out.mono ?_
          rintro e w8 ⟨rfl, hb8⟩
          have hc9b := cell_below hb8 hc9
          have hb8w := hb9.trans (hb8.mono hb9.size)
          clear hb8 hb9 hc9
          go_wp2
          go_roundw
          case rel => exact ⟨r + 1, t3, by go_num, rfl, by omega, HN.out, hb8w, hc9b⟩
          case measure => (simp [intOf]; try omega)
        · have HN := Lib.hid (show t2 = ByteArray.mk (PRE ++ fmtT m.coef ++ powsT 0 (m.pows.take (r + 1))).toArray from by rw [ht2, hnx, powL, if_pos hp0, if_neg hp1]; simp)
          clear hs9 hnx hx hsl ht1 ht2 hlt9
          go_wp2
          go_roundw
          case rel => exact ⟨r + 1, t2, by go_num, rfl, by omega, HN.out, hb9, hc9⟩
          case measure => (simp [intOf]; try omega)
end Go.Proofs.YtbcjhpgkodeoeaaGreatDoor

/- FormatField of the reference: what it returns. Conditions: none. -/
namespace Go.Proofs.YtbcjhpgkodeoeaaGreatDoor
open Go.RowKit Go.Sort

theorem fldJ_take {ps : List (List MonZ)} {i : Nat} {p : List MonZ} (h : ps[i]? = some p) : Lib.join ((ps.take (i + 1)).map polyT) [59, 32] = (if i = 0 then [] else Lib.join ((ps.take i).map polyT) [59, 32] ++ [59, 32]) ++ polyT p := by
  have hi := (List.getElem?_eq_some_iff.1 h).1
  rw [take_snoc h, List.map_append, List.map_singleton, join_snoc]
  by_cases h0 : i = 0
  · subst h0; simp
  · rw [if_neg h0, if_neg (by simp; exact ⟨h0, fun e => by subst e; simp at hi⟩)]
    simp

set_option maxRecDepth 100000 in
set_option maxHeartbeats 6400000 in
theorem sFmtFld_any (vf : Value) (f : FldZ) (w : World) (hf : RdFld w vf f) :
    Calls Tryz.prog 36 #[vf] w fun e w' => e = .returned (txt (fldT f)) ∧ Below w.heap.size w w' := by
  have hff' := hf
  obtain ⟨vP, rfl, hIf, hP⟩ := hf
  obtain ⟨adp, lp, cp, rfl⟩ := rdMss_slice hP
  have hb0 : Below w.heap.size w (w.alloc (.cells #[.int .i64 f.dim, .slice adp lp cp] 30)) := (Below.refl _ _).alloc (Nat.le_refl _) _
  have FOK := Lib.hid (fun (c : Bool) (hc : fldOkB f = c) => sFldOk_eq (.agg #[.int .i64 f.dim, .slice adp lp cp]) f _ (rdFld_mono hb0 hff') hc)
  have HB0 := Lib.hid hb0
  cases hfo : fldOkB f with
  | false =>
    have F1 := Lib.hid (FOK.out false hfo)
    have HE := Lib.hid (show Value.string (ByteArray.mk #[]) = txt (fldT f) from by rw [fldT_no hfo]; rfl)
    clear hff' hP hb0 hfo FOK
    go_enter Tryz.func36, Tryz.ntmps36
    go_wp2_with fail
    refine F1.out.mono ?_
    rintro e w1 ⟨rfl, hb1⟩
    go_wp2
    go_ret
    exact ⟨ret_eq HE.out, HB0.out.trans (hb1.mono HB0.out.size)⟩
  | true =>
  have F1 := Lib.hid (FOK.out true hfo)
  have HC0 := Lib.hid (show (w.alloc (.cells #[.int .i64 f.dim, .slice adp lp cp] 30)).cell? ⟨w.heap.size, 0, none⟩ = some (.int .i64 f.dim) from by simp)
  have HC1 := Lib.hid (show (w.alloc (.cells #[.int .i64 f.dim, .slice adp lp cp] 30)).cell? ⟨w.heap.size, 1, none⟩ = some (.slice adp lp cp) from by simp)
  have HE := Lib.hid (fldT_yes hfo)
  obtain ⟨n, hdn, hpn, hn1, hn6, hparts⟩ := fldOk_parts hfo
  obtain ⟨_, _, _, hvp, hlp, _, _, _⟩ := rdS_open hP
  injection hvp with e1 e2 e3
  subst e1 e2 e3
  obtain rfl : lp = n := by omega
  have HPN := Lib.hid hpn
  have HPA := Lib.hid hparts
  have HP := Lib.hid hP
  have HDN := Lib.hid hdn
  clear hff' hP hb0 hfo FOK hparts hpn hlp hdn
  go_enter Tryz.func36, Tryz.ntmps36
  go_wp2_with fail
  refine F1.out.mono ?_
  rintro e w1 ⟨rfl, hb1⟩
  have hc0 := cell_below hb1 HC0.out
  have hc1 := cell_below hb1 HC1.out
  rw [HDN.out] at hc0
  have hbw := HB0.out.trans (hb1.mono HB0.out.size)
  clear hb1 F1 HC0 HC1
  go_wp2
  go_loopw [3, 4] (fun ss si wr => ∃ (i : Nat) (s : ByteArray), si = .int .i64 i ∧ ss = .string s ∧ i ≤ lp ∧ s = ByteArray.mk (Lib.join ((f.parts.take i).map polyT) [59, 32]).toArray ∧ Below w.heap.size w wr ∧ wr.cell? ⟨w.heap.size, 0, none⟩ = some (.int .i64 lp) ∧ wr.cell? ⟨w.heap.size, 1, none⟩ = some (.slice adp lp cp)) (fun _ si _ => lp - (intOf si).toNat)
  case atStart => exact ⟨0, _, rfl, rfl, Nat.zero_le _, by simp [Lib.join_nil], hbw, hc0, hc1⟩
  case round =>
    obtain ⟨wk, rfl⟩ : ∃ W, W = wr := ⟨_, rfl⟩
    clear hbw hc0 hc1
    obtain ⟨i, s, rfl, rfl, hi, hs, hb, hc0, hc1⟩ := hrel
    by_cases hlt : i < lp
    case neg =>
      obtain rfl : i = lp := by omega
      have HR := Lib.hid (show Value.string s = txt (fldT f) from by rw [hs, HE.out, List.take_of_length_le (by rw [HPN.out]; exact Nat.le_refl _)]; rfl)
      clear hs
      go_wp2
      go_ret
      exact ⟨ret_eq HR.out, hb⟩
    obtain ⟨bq, oq, adq, lq, cq, q, hbq, hq, hcq, hql, hqc, hqc', hqr, _⟩ := rdMss_get HP.out hlt
    obtain ⟨hq12, hqm⟩ := HPA.out q (List.mem_of_getElem? hq)
    subst hbq
    have hcq := cell_below hb hcq
    have L1 := Lib.hid (sText_any _ q lp wk (rdMs_mono hb hqr) hq12 hqm hn6)
    have hpl := polyT_len hq12 (fun m hm => ⟨by have := (hqm m hm).2.1; omega, fun x hx => ((hqm m hm).2.2.2 x hx).2⟩)
    have hjt := fldJ_take hq
    have hjl : (Lib.join ((f.parts.take i).map polyT) [59, 32]).length ≤ 3180 := by
      have h1 := join_len (xs := (f.parts.take i).map polyT) (sep := [59, 32]) (k := 528) (fun x hx => by
        obtain ⟨p, hpp, rfl⟩ := List.mem_map.1 hx
        have hpf := HPA.out p (List.mem_of_mem_take hpp)
        exact polyT_len hpf.1 (fun m hm => ⟨by have := (hpf.2 m hm).2.1; omega, fun x hx => ((hpf.2 m hm).2.2.2 x hx).2⟩))
      rw [List.length_map, List.length_take] at h1
      have h2 : min i f.parts.length * (528 + [59, (32 : UInt8)].length) ≤ 6 * 530 := Nat.mul_le_mul (by omega) (by decide)
      omega
    obtain ⟨u, hu⟩ : ∃ u, u = ByteArray.mk (polyT q).toArray := ⟨_, rfl⟩
    have L2 := Lib.hid (show Calls Tryz.prog 98 #[.slice adq lq cq] wk fun e w' => e = .returned (.string u) ∧ Below wk.heap.size wk w' from by rw [hu]; exact L1.out)
    obtain ⟨s2, hs2⟩ : ∃ s2, s2 = ByteArray.mk (Lib.join ((f.parts.take (i + 1)).map polyT) [59, 32]).toArray := ⟨_, rfl⟩
    have HN := Lib.hid hs2
    have hi1 : (i : Int) < lp := by omega
    by_cases h0 : i = 0
    · have hcc : ∀ w : World, (Op.stringOp .add s u).run Tryz.prog w = .ok (.string s2) w := fun w => by
        rw [hs, hu, hs2, hjt, if_pos h0, h0]
        exact cat_run _ _ (by simp [Lib.join_nil]; omega) w
      have hi0 : (i : Int) ≤ 0 := by omega
      clear hs hu hs2 hjt hjl hpl hq hql hqr hqm L1 h0
      go_wp2_with fail
      refine L2.out.mono ?_
      rintro e w2 ⟨rfl, hb2⟩
      have hd0 := cell_below hb2 hc0
      have hd1 := cell_below hb2 hc1
      have hb2w := hb.trans (hb2.mono hb.size)
      clear hb2 hc0 hc1 hb hcq
      go_wp2
      go_roundw
      case rel => exact ⟨i + 1, s2, by go_num, rfl, by omega, HN.out, hb2w, hd0, hd1⟩
      case measure => (simp [intOf]; try omega)
    · obtain ⟨s1, hs1⟩ : ∃ s1, s1 = ByteArray.mk (Lib.join ((f.parts.take i).map polyT) [59, 32] ++ [59, 32]).toArray := ⟨_, rfl⟩
      have hcp : ∀ w : World, (Op.stringOp .add s (ByteArray.mk #[59, 32])).run Tryz.prog w = .ok (.string s1) w := fun w => by
        rw [hs, hs1]
        exact cat_run _ [59, 32] (by simp only [List.length_cons, List.length_nil]; omega) w
      have hcc : ∀ w : World, (Op.stringOp .add s1 u).run Tryz.prog w = .ok (.string s2) w := fun w => by
        rw [hs1, hu, hs2, hjt, if_neg h0]
        exact cat_run _ _ (by rw [List.length_append]; simp only [List.length_cons, List.length_nil]; omega) w
      have hi0 : (0 : Int) < (i : Int) := by omega
      clear hs hs1 hu hs2 hjt hjl hpl hq hql hqr hqm L1 h0
      go_wp2_with fail
      refine L2.out.mono ?_
      rintro e w2 ⟨rfl, hb2⟩
      have hd0 := cell_below hb2 hc0
      have hd1 := cell_below hb2 hc1
      have hb2w := hb.trans (hb2.mono hb.size)
      clear hb2 hc0 hc1 hb hcq
      go_wp2
      go_roundw
      case rel => exact ⟨i + 1, s2, by go_num, rfl, by omega, HN.out, hb2w, hd0, hd1⟩
      case measure => (simp [intOf]; try omega)
end Go.Proofs.YtbcjhpgkodeoeaaGreatDoor

/- A drawn text of a field, drawn integers. Conditions: none. -/
namespace Go.Proofs.YtbcjhpgkodeoeaaGreatDoor
open Go.RowKit Go.Sort

theorem fldT_small (f : FldZ) : (fldT f).length ≤ 3180 := by
  cases h : fldOkB f with
  | false => rw [fldT_no h]; simp
  | true =>
    obtain ⟨n, _, hpn, _, hn6, hp⟩ := fldOk_parts h
    rw [fldT_yes h]
    exact fldT_join_len hpn hn6 hp
/-- Some text. -/
def GivesStr (m : Nat) (w : World) : Ending → World → Prop := fun e w' => ∃ s : ByteArray, e = .returned (.string s) ∧ s.size ≤ m ∧ Below w.heap.size w w'
theorem gives_str {m : Nat} {w w' : World} (s : ByteArray) (h : s.size ≤ m) (hb : Below w.heap.size w w') : GivesStr m w (.returned (.string s)) w' := ⟨s, rfl, h, hb⟩
set_option maxRecDepth 100000 in
set_option maxHeartbeats 1600000 in
theorem drawParse_any (v : Value) (bs : List Int) (w : World) (h : RdB w v bs) : Calls Tryz.prog 31 #[v] w (GivesStr 4000 w) := by
  obtain ⟨adc, lc, cc, rfl, _, _, _, h'⟩ := rdS_open h
  clear h
  go_enter Tryz.func31, Tryz.ntmps31
  go_wp2_with fail
  refine (new_any _ bs w h').mono ?_
  rintro e w1 ⟨g, rfl, hg, hcu, hb1⟩
  clear h'
  go_wp2_with fail
  refine (anyField_any g w1 hcu).mono ?_
  rintro e w2 ⟨vf, f, rfl, hf, _, hd2⟩
  obtain ⟨vP, rfl, hI, hM⟩ := hf
  have hf : RdFld w2 (.agg #[.int .i64 f.dim, vP]) f := ⟨_, rfl, hI, hM⟩
  have HF := Lib.hid (sFmtFld_any _ f w2 hf)
  have HD2 := Lib.hid hd2
  have HB1 := Lib.hid hb1
  have HCU := Lib.hid hcu
  clear hf hI hM hd2 hb1 hcu
  go_wp2_with fail
  refine HF.out.mono ?_
  rintro e w3 ⟨rfl, hb3⟩
  have HD3 := Lib.hid (HD2.out.below hb3)
  have hsz := fldT_small f
  obtain ⟨s, hs⟩ : ∃ s, s = ByteArray.mk (fldT f).toArray := ⟨_, rfl⟩
  have hsz' : s.size ≤ 3180 := by rw [hs]; simpa [ByteArray.size] using hsz
  have HTX : txt (fldT f) = .string s := by rw [hs]; rfl
  rw [HTX]
  clear hb3 HF hs HTX hsz
  go_wp2_with fail
  refine (crumb_any g s (by omega) w3 HD3.out.cur).mono ?_
  rintro e w4 ⟨s4, rfl, hs4, hd4⟩
  have HD4 := Lib.hid (HD3.out.trans hd4)
  clear hd4
  go_wp2
  go_ret
  exact gives_str s4 (by omega) (HB1.out.trans (HD4.out.only.below HB1.out.size (by simpa using hg)))
/-- Three integers. -/
def Gives3Int (w : World) : Ending → World → Prop := fun e w' => ∃ x y z : Int, e = .returned (.tuple #[.int .i64 x, .int .i64 y, .int .i64 z]) ∧ I64 x ∧ I64 y ∧ I64 z ∧ Below w.heap.size w w'
set_option maxRecDepth 100000 in
set_option maxHeartbeats 1600000 in
theorem integers_any (v : Value) (bs : List Int) (w : World) (h : RdB w v bs) : Calls Tryz.prog 19 #[v] w (Gives3Int w) := by
  obtain ⟨adc, lc, cc, rfl, _, _, _, h'⟩ := rdS_open h
  clear h
  go_enter Tryz.func19, Tryz.ntmps19
  go_wp2_with fail
  refine (new_any _ bs w h').mono ?_
  rintro e w1 ⟨g, rfl, hg, hcu, hb1⟩
  have HB1 := Lib.hid hb1
  clear h' hb1
  go_wp2_with fail
  refine (int_any g w1 hcu).mono ?_
  rintro e w2 ⟨x, rfl, hx, hd2⟩
  have HX := Lib.hid hx
  have HD2 := Lib.hid hd2
  clear hx hd2
  go_wp2_with fail
  refine (int_any g w2 HD2.out.cur).mono ?_
  rintro e w3 ⟨y, rfl, hy, hd3⟩
  have HY := Lib.hid hy
  have HD3 := Lib.hid (HD2.out.trans hd3)
  clear hy hd3
  go_wp2_with fail
  refine (int_any g w3 HD3.out.cur).mono ?_
  rintro e w4 ⟨z, rfl, hz, hd4⟩
  have HZ := Lib.hid hz
  have HD4 := Lib.hid (HD3.out.trans hd4)
  clear hz hd4
  go_wp2
  refine bodyPost_ret (v := .tuple #[.int .i64 x, .int .i64 y, .int .i64 z]) (by simp [results, Tryz.results19, go_sem]) rfl ?_
  exact ⟨x, y, z, rfl, HX.out, HY.out, HZ.out, HB1.out.trans (HD4.out.only.below HB1.out.size (by simpa using hg))⟩
end Go.Proofs.YtbcjhpgkodeoeaaGreatDoor

/- A number's text is read back as the number. Plain: no program's step stands here. -/
namespace Go.Proofs.YtbcjhpgkodeoeaaGreatDoor
open Go.RowKit Go.Sort

theorem digGo_append : ∀ (a r : List UInt8) (n : Int), (∀ b ∈ a, isDig b = true) → digGo n (a ++ r) = digGo (digGo n a) r
  | [], r, n, _ => rfl
  | b :: a, r, n, h => by
    have hb := h b (by simp)
    rw [List.cons_append, digGo, if_pos hb, digGo_append a r _ (fun x hx => h x (by simp [hx])), digGo, if_pos hb]
theorem dig_val (n : Nat) : ((dig n).toNat : Int) - 48 = ((n % 10 : Nat) : Int) := by
  have : (dig n).toNat = 48 + n % 10 := by
    unfold dig
    rw [UInt8.toNat_ofNat']
    omega
  omega
theorem digGo_dec (n : Nat) : digGo 0 (decL n) = n := by
  induction n using Nat.strongRecOn with
  | ind n ih =>
    by_cases h : n < 10
    · rw [decL_small h, digGo, if_pos (dig_isDig n), digGo, dig_val]
      omega
    · rw [decL_big h, digGo_append _ _ _ (decL_digs _), ih (n / 10) (by omega), digGo, if_pos (dig_isDig n), digGo, dig_val]
      omega
theorem digR_dec {n : Nat} (h : n < 10000000000) : digR (decL n) = n := by
  have h1 := decL_len n 9 (by omega)
  have h2 := List.length_pos_iff.2 (decL_ne n)
  rw [digR, if_neg (by omega), digGo_dec]

-- texts cut at a sign that stands nowhere else
theorem occ_no {x sep : List UInt8} {c : UInt8} {t : List UInt8} (hs : sep = c :: t) (hx : c ∉ x) (r : List UInt8) {j : Nat} (hj : j < x.length) : Lib.occAt (x ++ r) sep j = false := by
  cases ho : Lib.occAt (x ++ r) sep j with
  | false => rfl
  | true =>
    have := Lib.occAt_head hs ho
    rw [List.getElem?_append_left hj] at this
    exact absurd (List.mem_of_getElem? this) hx
theorem index_join {x sep : List UInt8} {c : UInt8} {t : List UInt8} (hs : sep = c :: t) (hx : c ∉ x) (r : List UInt8) : Lib.index (x ++ (sep ++ r)) sep = (x.length : Nat) := by
  refine Lib.index_first (by simp) ?_ (fun j hj => occ_no hs hx _ hj)
  unfold Lib.occAt
  rw [List.drop_left]
  exact List.isPrefixOf_iff_prefix.2 (List.prefix_append _ _)
theorem index_alone {x sep : List UInt8} {c : UInt8} {t : List UInt8} (hs : sep = c :: t) (hx : c ∉ x) : Lib.index x sep = -1 := by
  refine Lib.index_none (fun j hj => ?_)
  by_cases h : j < x.length
  · have := occ_no hs hx [] h
    rwa [List.append_nil] at this
  · have hj' : j = x.length := by omega
    unfold Lib.occAt
    rw [hj', List.drop_length, hs]
    rfl
theorem split_join {sep : List UInt8} {c : UInt8} {t : List UInt8} (hs : sep = c :: t) : ∀ (xs : List (List UInt8)), xs ≠ [] → (∀ x ∈ xs, c ∉ x) → Lib.split (Lib.join xs sep) sep = xs
  | [], h, _ => absurd rfl h
  | [x], _, h => by rw [Lib.join_one, split_miss (index_alone hs (h x (by simp)))]
  | x :: y :: xs, _, h => by
    have ih := split_join hs (y :: xs) (by simp) (fun z hz => h z (by simp [hz]))
    have e : Lib.join (x :: y :: xs) sep = x ++ (sep ++ Lib.join (y :: xs) sep) := by
      rw [Lib.join_cons, Lib.join_cons]
      simp [Lib.joinTail]
    rw [e, split_hit (by rw [hs]; simp) (index_join hs (h x (by simp)) _)]
    rw [List.take_left, ← List.append_assoc, List.drop_append_of_le_length (by simp)]
    rw [show (x ++ sep).drop (x.length + sep.length) = [] from by rw [← List.length_append, List.drop_length], List.nil_append, ih]
theorem split_alone {sep : List UInt8} {c : UInt8} {t : List UInt8} (hs : sep = c :: t) {x : List UInt8} (h : c ∉ x) : Lib.split x sep = [x] := split_miss (index_alone hs h)

-- numbers
theorem frac_back {a n b : Int} (hn : 0 ≤ n) (hp : n < 1000000271) (hb : b % 1000000271 ≠ 0) (ha : ∃ k, a = n * b + 1000000271 * k) : fracZ a b = n := by
  obtain ⟨k, rfl⟩ := ha
  have h1 := inv_one hb
  unfold timesZ at h1
  obtain ⟨q, hq⟩ : ∃ q, b * powZ b 1000000269 = 1 + 1000000271 * q := ⟨b * powZ b 1000000269 / 1000000271, by omega⟩
  unfold fracZ timesZ
  have e : (n * b + 1000000271 * k) * powZ b 1000000269 = n + 1000000271 * (n * q + k * powZ b 1000000269) := by
    rw [Int.add_mul, Int.mul_assoc n b, hq]
    grind
  rw [e, Int.add_mul_emod_self_left]
  omega
theorem dec_no {n : Nat} {c : UInt8} (hc : isDig c = false) : c ∉ decL n := fun h => by
  have := decL_digs n c h
  rw [hc] at this
  cases this
theorem decL_cons (n : Nat) : ∃ d r, decL n = d :: r ∧ isDig d = true := by
  cases h : decL n with
  | nil => exact absurd h (decL_ne n)
  | cons d r => exact ⟨d, r, rfl, decL_digs n d (by rw [h]; simp)⟩
theorem numS_pos {l : List UInt8} {d : UInt8} {r : List UInt8} (hl : l = d :: r) (hd : isDig d = true) : numS l = fracS false (Lib.split l [47]) := by
  have h1 : d ≠ 35 := fun e => by rw [e] at hd; revert hd; decide
  have h2 : d ≠ 45 := fun e => by rw [e] at hd; revert hd; decide
  rw [hl, numS, if_neg h1, if_neg h2]
theorem numS_neg (r : List UInt8) : numS (45 :: r) = fracS true (Lib.split r [47]) := by
  rw [numS, if_neg (by decide), if_pos rfl]
theorem fracS_one {neg : Bool} {m : Nat} (h : m < 10000000000) : fracS neg [decL m] = some (fracZ ((if neg = true then -1 else 1) * (m : Int)) 1) := by
  unfold fracS
  simp only [List.getElem?_cons_zero, Option.getD_some, List.length_cons, List.length_nil, digR_dec h]
  rw [if_neg (by simp)]
  simp
theorem fracS_two {neg : Bool} {m b : Nat} (h : m < 10000000000) (hb : b < 10000000000) : fracS neg [decL m, decL b] = some (fracZ ((if neg = true then -1 else 1) * (m : Int)) b) := by
  unfold fracS
  simp only [List.getElem?_cons_zero, List.getElem?_cons_succ, Option.getD_some, List.length_cons, List.length_nil, digR_dec h, digR_dec hb]
  rw [if_neg (by simp)]
  simp
theorem split_two (m b : Nat) : Lib.split (decL m ++ 47 :: decL b) [47] = [decL m, decL b] := by
  have h := split_join (sep := [47]) (c := 47) (t := []) rfl [decL m, decL b] (by simp) (by
    intro x hx
    simp at hx
    rcases hx with rfl | rfl <;> exact dec_no (by decide))
  have e : Lib.join [decL m, decL b] [47] = decL m ++ 47 :: decL b := by rw [Lib.join_cons]; simp [Lib.joinTail]
  rwa [e] at h
/-- A short fraction's text. -/
theorem numS_frac {a n : Int} {b : Nat} (hn : 0 ≤ n) (hp : n < 1000000271) (h1 : 1 ≤ b) (hb : b < 10000000) (ha : -1000000271 < a ∧ a < 1000000271) (hk : ∃ k, a = n * b + 1000000271 * k) : numS (fracL a b) = some n := by
  have hbm : (b : Int) % 1000000271 ≠ 0 := by omega
  have hback := frac_back hn hp hbm hk
  have hz : decZ (b : Int) = decL b := by rw [decZ_pos (by omega)]; rfl
  by_cases hs : 0 ≤ a
  · obtain ⟨m, rfl⟩ : ∃ m : Nat, a = m := ⟨a.toNat, by omega⟩
    have hm : decZ (m : Int) = decL m := by rw [decZ_pos (by omega)]; rfl
    obtain ⟨d, r, hd, hdd⟩ := decL_cons m
    by_cases hb1 : b = 1
    · subst hb1
      rw [fracL, if_pos (show ((1 : Nat) : Int) = 1 from rfl), hm, numS_pos hd hdd, split_alone (c := 47) (t := []) rfl (dec_no (by decide)), fracS_one (by omega)]
      simpa using hback
    · rw [fracL, if_neg (by omega), hm, hz, numS_pos (l := decL m ++ 47 :: decL b) (d := d) (r := r ++ 47 :: decL b) (by rw [hd]; rfl) hdd, split_two, fracS_two (by omega) (by omega)]
      simpa using hback
  · obtain ⟨m, hm'⟩ : ∃ m : Nat, -a = m := ⟨(-a).toNat, by omega⟩
    have hm : decZ a = 45 :: decL m := by rw [decZ_neg (by omega), hm']; rfl
    have hma : (-1 : Int) * (m : Int) = a := by omega
    by_cases hb1 : b = 1
    · subst hb1
      rw [fracL, if_pos (show ((1 : Nat) : Int) = 1 from rfl), hm, numS_neg, split_alone (c := 47) (t := []) rfl (dec_no (by decide)), fracS_one (by omega)]
      simp only [if_true, hma]
      simpa using hback
    · rw [fracL, if_neg (by omega), hm, hz, List.cons_append, numS_neg, split_two, fracS_two (by omega) (by omega)]
      simp only [if_true, hma]
      simpa using hback
theorem numS_go {n : Int} (hn : 0 ≤ n) (hp : n < 1000000271) : ∀ (k b : Nat), 1 ≤ b → b + k ≤ 100000 → numS (fmtGo n k b) = some n
  | 0, b, h1, h2 => by
    have hm : decZ n = decL n.toNat := decZ_pos hn
    rw [fmtGo, hm, numS, if_pos rfl, digR_dec (by omega)]
    congr 1
    omega
  | k + 1, b, h1, h2 => by
    rw [fmtGo]
    split
    · exact numS_frac hn hp h1 (by omega) (by omega) ⟨-(n * b / 1000000271), by have := Int.emod_add_mul_ediv (n * b) 1000000271; omega⟩
    · split
      · exact numS_frac hn hp h1 (by omega) (by omega) ⟨-(n * b / 1000000271) - 1, by have := Int.emod_add_mul_ediv (n * b) 1000000271; omega⟩
      · have := numS_go hn hp k (b + 1) (by omega) (by omega)
        simpa using this
theorem num_round {n : Int} (h : isNumB n = true) : okI (fmtT n) = true ∧ numV (fmtT n) = n := by
  have hn := h
  simp only [isNumB, decide_eq_true_eq] at hn
  refine numV_yes ?_ rfl
  rw [fmtT, if_pos h]
  exact numS_go hn.1 (by omega) 9999 1 (by omega) (by omega)
end Go.Proofs.YtbcjhpgkodeoeaaGreatDoor
