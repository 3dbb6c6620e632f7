/- Field numbers as texts. Conditions: none. -/
import Derived.Test.YtdaaamdighojdaaDoorTxt
set_option linter.unusedSimpArgs false
set_option linter.unusedVariables false
namespace Go.Proofs.YtdaaamdighojdaaDoor
open Go.RowKit Go.Sort

/-- A fraction as a text. -/
def fracL (a b : Int) : List UInt8 := if b = 1 then decZ a else decZ a ++ 47 :: decZ b
/-- The first short fraction from a denominator on. -/
def fmtGo (n : Int) : Nat → Int → List UInt8
  | 0, _ => 35 :: decZ n
  | k + 1, b =>
    if n * b % 1000000271 ≤ 9999 then fracL (n * b % 1000000271) b
    else if 999990272 ≤ n * b % 1000000271 then fracL (n * b % 1000000271 - 1000000271) b
    else fmtGo n k (b + 1)
def fmtN (n : Int) : List UInt8 := fmtGo n 9999 1
/-- FormatNumber. -/
def fmtT (n : Int) : List UInt8 := if isNumB n = true then fmtN n else []
theorem decZ_pos {z : Int} (h : 0 ≤ z) : decZ z = decL z.toNat := by rw [decZ, if_neg (by omega)]
theorem decZ_neg {z : Int} (h : z < 0) : decZ z = 45 :: decL (-z).toNat := by rw [decZ, if_pos h]
theorem decZ_len {z : Int} (h0 : -2000000000 < z) (h1 : z < 2000000000) : (decZ z).length ≤ 11 := by
  unfold decZ
  split
  · have := decL_len (-z).toNat 9 (by omega)
    simp; omega
  · have := decL_len z.toNat 9 (by omega)
    omega
theorem mod_step (n b : Int) : (n * (b - 1) % 1000000271 + n) % 1000000271 = n * b % 1000000271 := by
  rw [Int.emod_add_emod]
  congr 1
  rw [Int.mul_sub, Int.mul_one]
  omega

set_option maxRecDepth 100000 in
set_option maxHeartbeats 1600000 in
theorem fmtNum_any (n : Int) (w : World) : Calls Tryd.prog 29 #[.int .i64 n] w fun e w' => e = .returned (txt (fmtT n)) ∧ w = w' := by
  cases hn : isNumB n with
  | false =>
    have N1 := Lib.hid (isNumber_eq hn w)
    have HE := Lib.hid (show Value.string (ByteArray.mk #[]) = txt (fmtT n) from by rw [fmtT, hn]; rfl)
    clear hn
    go_enter Tryd.func29, Tryd.ntmps29
    go_wp2_with fail
    refine N1.out.mono ?_
    rintro e w' ⟨rfl, rfl⟩
    go_wp2
    go_ret
    exact ⟨ret_eq HE.out, rfl⟩
  | true =>
    have N1 := Lib.hid (isNumber_eq hn w)
    have HT := Lib.hid (show fmtT n = fmtN n from by rw [fmtT, hn]; rfl)
    simp only [isNumB, decide_eq_true_eq] at hn
    obtain ⟨hn0, hn1⟩ := hn
    go_enter Tryd.func29, Tryd.ntmps29
    go_wp2_with fail
    refine N1.out.mono ?_
    rintro e w' ⟨rfl, rfl⟩
    go_wp2
    go_loopw [3, 4] (fun sa sb wr => ∃ (a b : Int), sa = .int .i64 a ∧ sb = .int .i64 b ∧ 1 ≤ b ∧ b ≤ 10000 ∧ a = n * (b - 1) % 1000000271 ∧ 0 ≤ a ∧ a ≤ 1000000270 ∧ fmtN n = fmtGo n (10000 - b).toNat b ∧ w = wr) (fun _ sb _ => 10000 - (intOf sb).toNat)
    case atStart => exact ⟨0, 1, rfl, rfl, by omega, by omega, by simp, by omega, by omega, rfl, rfl⟩
    case round =>
      obtain ⟨a, b, rfl, rfl, hb1, hb2, ha, ha0, ha1, hf, rfl⟩ := hrel
      by_cases hb9 : b ≤ 9999
      · obtain ⟨a1, hst⟩ : ∃ a1, (a + n) % 1000000271 = a1 := ⟨_, rfl⟩
        have ha1' : n * b % 1000000271 = a1 := by rw [← hst, ha, mod_step]
        have hfu : fmtGo n (10000 - b).toNat b = if a1 ≤ 9999 then fracL a1 b else if 999990272 ≤ a1 then fracL (a1 - 1000000271) b else fmtGo n (10000 - (b + 1)).toNat (b + 1) := by
          rw [show (10000 - b).toNat = (10000 - (b + 1)).toNat + 1 by omega, fmtGo, ha1']
        have g0 : 0 ≤ a1 := by omega
        have g1 : a1 ≤ 1000000270 := by omega
        have hst2 := hst
        by_cases c1 : a1 ≤ 9999
        · rw [if_pos c1] at hfu
          obtain ⟨s, hs⟩ : ∃ s, s = ByteArray.mk (decL a1.toNat).toArray := ⟨_, rfl⟩
          obtain ⟨x, hx⟩ : ∃ x, x = ByteArray.mk ([] ++ decL a1.toNat).toArray := ⟨_, rfl⟩
          have hml := decL_len a1.toNat 3 (by omega)
          have hc1 : ∀ w : World, (Op.stringOp .add (ByteArray.mk #[]) s).run Tryd.prog w = .ok (.string x) w := fun w => by
            rw [hs, hx]
            exact cat_run [] (decL a1.toNat) (by simp; omega) w
          have hdz : decZ a1 = [] ++ decL a1.toNat := by rw [decZ_pos (by omega)]; rfl
          have D1 := Lib.hid (show Calls Tryd.prog 30 #[.int .i64 a1] w fun e w' => e = .returned (.string s) ∧ w = w' from by
            rw [hs]
            exact decimal_any (n := a1.toNat) (by omega) (by omega) w)
          by_cases hb : b = 1
          · subst hb
            have HR := Lib.hid (show Value.string x = txt (fmtT n) from by rw [HT.out, hf, hfu, fracL, if_pos rfl, hdz, hx]; rfl)
            clear hs hx hml hdz hf hfu ha hst ha1'
            go_wp2_with fail
            refine D1.out.mono ?_
            rintro e w' ⟨rfl, rfl⟩
            go_wp2
            go_ret
            exact ⟨ret_eq HR.out, rfl⟩
          · obtain ⟨y, hy⟩ : ∃ y, y = ByteArray.mk ([] ++ decL a1.toNat ++ [47]).toArray := ⟨_, rfl⟩
            obtain ⟨s2, hs2⟩ : ∃ s, s = ByteArray.mk (decL b.toNat).toArray := ⟨_, rfl⟩
            obtain ⟨u, hu⟩ : ∃ u, u = ByteArray.mk ([] ++ decL a1.toNat ++ [47] ++ decL b.toNat).toArray := ⟨_, rfl⟩
            have hbl := decL_len b.toNat 3 (by omega)
            have hc2 : ∀ w : World, (Op.stringOp .add x (ByteArray.mk #[47])).run Tryd.prog w = .ok (.string y) w := fun w => by
              rw [hx, hy]
              exact cat_run ([] ++ decL a1.toNat) [47] (by simp; omega) w
            have hc3 : ∀ w : World, (Op.stringOp .add y s2).run Tryd.prog w = .ok (.string u) w := fun w => by
              rw [hy, hs2, hu]
              exact cat_run ([] ++ decL a1.toNat ++ [47]) (decL b.toNat) (by simp; omega) w
            have D2 := Lib.hid (show Calls Tryd.prog 30 #[.int .i64 b] w fun e w' => e = .returned (.string s2) ∧ w = w' from by
              rw [hs2]
              exact decimal_any (n := b.toNat) (by omega) (by omega) w)
            have HR := Lib.hid (show Value.string u = txt (fmtT n) from by rw [HT.out, hf, hfu, fracL, if_neg hb, hdz, hu, decZ_pos (z := b) (by omega)]; simp [txt])
            have hb9 : (b == 1) = false := by simpa using hb
            clear hs hx hml hdz hf hfu ha hy hs2 hu hbl hb hst
            go_wp2_with fail
            refine D1.out.mono ?_
            rintro e w' ⟨rfl, rfl⟩
            go_wp2_with fail
            refine D2.out.mono ?_
            rintro e w' ⟨rfl, rfl⟩
            go_wp2
            go_ret
            exact ⟨ret_eq HR.out, rfl⟩
        · rw [if_neg c1] at hfu
          by_cases c2 : 999990272 ≤ a1
          · rw [if_pos c2] at hfu
            obtain ⟨s, hs⟩ : ∃ s, s = ByteArray.mk (decL (1000000271 - a1).toNat).toArray := ⟨_, rfl⟩
            obtain ⟨x, hx⟩ : ∃ x, x = ByteArray.mk ([45] ++ decL (1000000271 - a1).toNat).toArray := ⟨_, rfl⟩
            have hml := decL_len (1000000271 - a1).toNat 3 (by omega)
            have hc1 : ∀ w : World, (Op.stringOp .add (ByteArray.mk #[45]) s).run Tryd.prog w = .ok (.string x) w := fun w => by
              rw [hs, hx]
              exact cat_run [45] (decL (1000000271 - a1).toNat) (by simp; omega) w
            have hdz : decZ (a1 - 1000000271) = [45] ++ decL (1000000271 - a1).toNat := by rw [decZ_neg (by omega), show (-(a1 - 1000000271)).toNat = (1000000271 - a1).toNat by omega]; rfl
            have D1 := Lib.hid (show Calls Tryd.prog 30 #[.int .i64 (1000000271 - a1)] w fun e w' => e = .returned (.string s) ∧ w = w' from by
              rw [hs]
              exact decimal_any (n := (1000000271 - a1).toNat) (by omega) (by omega) w)
            by_cases hb : b = 1
            · subst hb
              have HR := Lib.hid (show Value.string x = txt (fmtT n) from by rw [HT.out, hf, hfu, fracL, if_pos rfl, hdz, hx]; rfl)
              clear hs hx hml hdz hf hfu ha hst ha1'
              go_wp2_with fail
              refine D1.out.mono ?_
              rintro e w' ⟨rfl, rfl⟩
              go_wp2
              go_ret
              exact ⟨ret_eq HR.out, rfl⟩
            · obtain ⟨y, hy⟩ : ∃ y, y = ByteArray.mk ([45] ++ decL (1000000271 - a1).toNat ++ [47]).toArray := ⟨_, rfl⟩
              obtain ⟨s2, hs2⟩ : ∃ s, s = ByteArray.mk (decL b.toNat).toArray := ⟨_, rfl⟩
              obtain ⟨u, hu⟩ : ∃ u, u = ByteArray.mk ([45] ++ decL (1000000271 - a1).toNat ++ [47] ++ decL b.toNat).toArray := ⟨_, rfl⟩
              have hbl := decL_len b.toNat 3 (by omega)
              have hc2 : ∀ w : World, (Op.stringOp .add x (ByteArray.mk #[47])).run Tryd.prog w = .ok (.string y) w := fun w => by
                rw [hx, hy]
                exact cat_run ([45] ++ decL (1000000271 - a1).toNat) [47] (by simp; omega) w
              have hc3 : ∀ w : World, (Op.stringOp .add y s2).run Tryd.prog w = .ok (.string u) w := fun w => by
                rw [hy, hs2, hu]
                exact cat_run ([45] ++ decL (1000000271 - a1).toNat ++ [47]) (decL b.toNat) (by simp; omega) w
              have D2 := Lib.hid (show Calls Tryd.prog 30 #[.int .i64 b] w fun e w' => e = .returned (.string s2) ∧ w = w' from by
                rw [hs2]
                exact decimal_any (n := b.toNat) (by omega) (by omega) w)
              have HR := Lib.hid (show Value.string u = txt (fmtT n) from by rw [HT.out, hf, hfu, fracL, if_neg hb, hdz, hu, decZ_pos (z := b) (by omega)]; simp [txt])
              have hb9 : (b == 1) = false := by simpa using hb
              clear hs hx hml hdz hf hfu ha hy hs2 hu hbl hb hst
              go_wp2_with fail
              refine D1.out.mono ?_
              rintro e w' ⟨rfl, rfl⟩
              go_wp2_with fail
              refine D2.out.mono ?_
              rintro e w' ⟨rfl, rfl⟩
              go_wp2
              go_ret
              exact ⟨ret_eq HR.out, rfl⟩
          · rw [if_neg c2] at hfu
            have HF := Lib.hid (hf.trans hfu)
            have HA := Lib.hid (show a1 = n * (b + 1 - 1) % 1000000271 from by rw [← ha1']; congr 2; omega)
            clear hf hfu ha ha1' hst
            go_wp2
            go_roundw
            case rel => exact ⟨(a + n) % 1000000271, b + 1, rfl, rfl, by omega, by omega, hst2.trans HA.out, by omega, by omega, HF.out, by first | trivial | rfl⟩
            case measure => (simp [intOf]; omega)
      · obtain rfl : b = 10000 := by omega
        have hml := decL_len n.toNat 9 (by omega)
        obtain ⟨s, hs⟩ : ∃ s, s = ByteArray.mk (decL n.toNat).toArray := ⟨_, rfl⟩
        obtain ⟨x, hx⟩ : ∃ x, x = ByteArray.mk (35 :: decL n.toNat).toArray := ⟨_, rfl⟩
        have hc1 : ∀ w : World, (Op.stringOp .add (ByteArray.mk #[35]) s).run Tryd.prog w = .ok (.string x) w := fun w => by
          rw [hs, hx]
          exact cat_run [35] (decL n.toNat) (by simp; omega) w
        have D1 := Lib.hid (show Calls Tryd.prog 30 #[.int .i64 n] w fun e w' => e = .returned (.string s) ∧ w = w' from by
          rw [hs]
          exact decimal_any (n := n.toNat) (by omega) (by omega) w)
        have HR := Lib.hid (show Value.string x = txt (fmtT n) from by rw [HT.out, hf, show ((10000 : Int) - 10000).toNat = 0 by omega, fmtGo, decZ_pos hn0, hx]; rfl)
        clear hs hx hml hf ha
        go_wp2_with fail
        refine D1.out.mono ?_
        rintro e w' ⟨rfl, rfl⟩
        go_wp2
        go_ret
        exact ⟨ret_eq HR.out, rfl⟩

theorem timesZ_mul (n b : Int) : timesZ n b = n * b % 1000000271 := rfl

set_option maxRecDepth 100000 in
set_option maxHeartbeats 1600000 in
theorem sFmtNum_any (n : Int) (w : World) : Calls Tryd.prog 36 #[.int .i64 n] w fun e w' => e = .returned (txt (fmtT n)) ∧ Below w.heap.size w w' := by
  have HBR := Lib.hid (Below.refl w.heap.size w)
  cases hn : isNumB n with
  | false =>
    have N1 := Lib.hid (sIsNumber_eq hn w)
    have HE := Lib.hid (show Value.string (ByteArray.mk #[]) = txt (fmtT n) from by rw [fmtT, hn]; rfl)
    clear hn
    go_enter Tryd.func36, Tryd.ntmps36
    go_wp2_with fail
    refine N1.out.mono ?_
    rintro e w' ⟨rfl, rfl⟩
    go_wp2
    go_ret
    exact ⟨ret_eq HE.out, HBR.out⟩
  | true =>
    have N1 := Lib.hid (sIsNumber_eq hn w)
    have HT := Lib.hid (show fmtT n = fmtN n from by rw [fmtT, hn]; rfl)
    simp only [isNumB, decide_eq_true_eq] at hn
    obtain ⟨hn0, hn1⟩ := hn
    go_enter Tryd.func36, Tryd.ntmps36
    go_wp2_with fail
    refine N1.out.mono ?_
    rintro e w' ⟨rfl, rfl⟩
    go_wp2
    go_loopw [3] (fun sb wr => ∃ (b : Int), sb = .int .i64 b ∧ 1 ≤ b ∧ b ≤ 10000 ∧ fmtN n = fmtGo n (10000 - b).toNat b ∧ Below w.heap.size w wr) (fun sb _ => 10000 - (intOf sb).toNat)
    case atStart => exact ⟨1, rfl, by omega, by omega, rfl, HBR.out⟩
    case round =>
      obtain ⟨wk, rfl⟩ : ∃ W, W = wr := ⟨_, rfl⟩
      clear HBR
      obtain ⟨b, rfl, hb1, hb2, hf, hb9w⟩ := hrel
      by_cases hb9 : b ≤ 9999
      · obtain ⟨a1, ha1⟩ : ∃ a1, timesZ n b = a1 := ⟨_, rfl⟩
        have T1 := Lib.hid (fun W : World => show Calls Tryd.prog 55 #[.int .i64 n, .int .i64 b] W fun e w' => e = .returned (.int .i64 a1) ∧ W = w' from ha1 ▸ sTimes_any n b W)
        have hfu : fmtGo n (10000 - b).toNat b = if a1 ≤ 9999 then fracL a1 b else if 999990272 ≤ a1 then fracL (a1 - 1000000271) b else fmtGo n (10000 - (b + 1)).toNat (b + 1) := by
          rw [show (10000 - b).toNat = (10000 - (b + 1)).toNat + 1 by omega, fmtGo, ← timesZ_mul, ha1]
        have g0 : 0 ≤ a1 := by have := timesZ_bd n b; omega
        have g1 : a1 ≤ 1000000270 := by have := timesZ_bd n b; omega
        by_cases c1 : a1 ≤ 9999
        · rw [if_pos c1] at hfu
          by_cases hb : b = 1
          · subst hb
            have HR := Lib.hid (show txt (decZ a1) = txt (fmtT n) from by rw [HT.out, hf, hfu, fracL, if_pos rfl])
            have D1 := Lib.hid (fun W : World => show Calls Tryd.prog 38 #[.int .i64 a1] W fun e w' => e = .returned (txt (fmtT n)) ∧ Below W.heap.size W w' from by
              have := sDecimal_any a1 (by omega) (by omega) W
              rwa [HR.out] at this)
            clear hf hfu ha1 HR
            obtain ⟨x, hx⟩ : ∃ x, txt (fmtT n) = .string x := ⟨_, rfl⟩
            rw [hx] at D1
            go_wp2_with ((go_at_call 55; (with_reducible refine (T1.out _).mono ?_); rintro e w' ⟨rfl, rfl⟩))
            refine (D1.out _).mono ?_
            rintro e w' ⟨rfl, hbd⟩
            have hbz := hb9w.trans (hbd.mono hb9w.size)
            go_wp2
            go_ret
            exact ⟨ret_eq hx.symm, hbz⟩
          · obtain ⟨s, hs⟩ : ∃ s, s = ByteArray.mk (decZ a1).toArray := ⟨_, rfl⟩
            obtain ⟨y, hy⟩ : ∃ y, y = ByteArray.mk (decZ a1 ++ [47]).toArray := ⟨_, rfl⟩
            obtain ⟨s2, hs2⟩ : ∃ s, s = ByteArray.mk (decZ b).toArray := ⟨_, rfl⟩
            obtain ⟨u, hu⟩ : ∃ u, u = ByteArray.mk (decZ a1 ++ [47] ++ decZ b).toArray := ⟨_, rfl⟩
            have hal := decZ_len (z := a1) (by omega) (by omega)
            have hbl := decZ_len (z := b) (by omega) (by omega)
            have hc2 : ∀ w : World, (Op.stringOp .add s (ByteArray.mk #[47])).run Tryd.prog w = .ok (.string y) w := fun w => by
              rw [hs, hy]
              exact cat_run (decZ a1) [47] (by simp; omega) w
            have hc3 : ∀ w : World, (Op.stringOp .add y s2).run Tryd.prog w = .ok (.string u) w := fun w => by
              rw [hy, hs2, hu]
              exact cat_run (decZ a1 ++ [47]) (decZ b) (by simp; omega) w
            have D1 := Lib.hid (fun W : World => show Calls Tryd.prog 38 #[.int .i64 a1] W fun e w' => e = .returned (.string s) ∧ Below W.heap.size W w' from by
              rw [hs]
              exact sDecimal_any a1 (by omega) (by omega) W)
            have D2 := Lib.hid (fun W : World => show Calls Tryd.prog 38 #[.int .i64 b] W fun e w' => e = .returned (.string s2) ∧ Below W.heap.size W w' from by
              rw [hs2]
              exact sDecimal_any b (by omega) (by omega) W)
            have HR := Lib.hid (show Value.string u = txt (fmtT n) from by rw [HT.out, hf, hfu, fracL, if_neg hb, hu]; simp [txt])
            have hbq : (b == 1) = false := by simpa using hb
            clear hf hfu ha1 hs hy hs2 hu hal hbl hb
            go_wp2_with ((go_at_call 55; (with_reducible refine (T1.out _).mono ?_); rintro e w' ⟨rfl, rfl⟩))
            refine (D1.out _).mono ?_
            rintro e w' ⟨rfl, hbd⟩
            have hbz := hb9w.trans (hbd.mono hb9w.size)
            go_wp2_with fail
            refine (D2.out _).mono ?_
            rintro e w2 ⟨rfl, hbd2⟩
            have hby := hbz.trans (hbd2.mono hbz.size)
            go_wp2
            go_ret
            exact ⟨ret_eq HR.out, hby⟩
        · rw [if_neg c1] at hfu
          by_cases c2 : 999990272 ≤ a1
          · rw [if_pos c2] at hfu
            by_cases hb : b = 1
            · subst hb
              have HR := Lib.hid (show txt (decZ (a1 - 1000000271)) = txt (fmtT n) from by rw [HT.out, hf, hfu, fracL, if_pos rfl])
              have D1 := Lib.hid (fun W : World => show Calls Tryd.prog 38 #[.int .i64 (a1 - 1000000271)] W fun e w' => e = .returned (txt (fmtT n)) ∧ Below W.heap.size W w' from by
                have := sDecimal_any (a1 - 1000000271) (by omega) (by omega) W
                rwa [HR.out] at this)
              clear hf hfu ha1 HR
              obtain ⟨x, hx⟩ : ∃ x, txt (fmtT n) = .string x := ⟨_, rfl⟩
              rw [hx] at D1
              go_wp2_with ((go_at_call 55; (with_reducible refine (T1.out _).mono ?_); rintro e w' ⟨rfl, rfl⟩))
              refine (D1.out _).mono ?_
              rintro e w' ⟨rfl, hbd⟩
              have hbz := hb9w.trans (hbd.mono hb9w.size)
              go_wp2
              go_ret
              exact ⟨ret_eq hx.symm, hbz⟩
            · obtain ⟨s, hs⟩ : ∃ s, s = ByteArray.mk (decZ (a1 - 1000000271)).toArray := ⟨_, rfl⟩
              obtain ⟨y, hy⟩ : ∃ y, y = ByteArray.mk (decZ (a1 - 1000000271) ++ [47]).toArray := ⟨_, rfl⟩
              obtain ⟨s2, hs2⟩ : ∃ s, s = ByteArray.mk (decZ b).toArray := ⟨_, rfl⟩
              obtain ⟨u, hu⟩ : ∃ u, u = ByteArray.mk (decZ (a1 - 1000000271) ++ [47] ++ decZ b).toArray := ⟨_, rfl⟩
              have hal := decZ_len (z := (a1 - 1000000271)) (by omega) (by omega)
              have hbl := decZ_len (z := b) (by omega) (by omega)
              have hc2 : ∀ w : World, (Op.stringOp .add s (ByteArray.mk #[47])).run Tryd.prog w = .ok (.string y) w := fun w => by
                rw [hs, hy]
                exact cat_run (decZ (a1 - 1000000271)) [47] (by simp; omega) w
              have hc3 : ∀ w : World, (Op.stringOp .add y s2).run Tryd.prog w = .ok (.string u) w := fun w => by
                rw [hy, hs2, hu]
                exact cat_run (decZ (a1 - 1000000271) ++ [47]) (decZ b) (by simp; omega) w
              have D1 := Lib.hid (fun W : World => show Calls Tryd.prog 38 #[.int .i64 (a1 - 1000000271)] W fun e w' => e = .returned (.string s) ∧ Below W.heap.size W w' from by
                rw [hs]
                exact sDecimal_any (a1 - 1000000271) (by omega) (by omega) W)
              have D2 := Lib.hid (fun W : World => show Calls Tryd.prog 38 #[.int .i64 b] W fun e w' => e = .returned (.string s2) ∧ Below W.heap.size W w' from by
                rw [hs2]
                exact sDecimal_any b (by omega) (by omega) W)
              have HR := Lib.hid (show Value.string u = txt (fmtT n) from by rw [HT.out, hf, hfu, fracL, if_neg hb, hu]; simp [txt])
              have hbq : (b == 1) = false := by simpa using hb
              clear hf hfu ha1 hs hy hs2 hu hal hbl hb
              go_wp2_with ((go_at_call 55; (with_reducible refine (T1.out _).mono ?_); rintro e w' ⟨rfl, rfl⟩))
              refine (D1.out _).mono ?_
              rintro e w' ⟨rfl, hbd⟩
              have hbz := hb9w.trans (hbd.mono hb9w.size)
              go_wp2_with fail
              refine (D2.out _).mono ?_
              rintro e w2 ⟨rfl, hbd2⟩
              have hby := hbz.trans (hbd2.mono hbz.size)
              go_wp2
              go_ret
              exact ⟨ret_eq HR.out, hby⟩
          · rw [if_neg c2] at hfu
            have HF := Lib.hid (hf.trans hfu)
            clear hf hfu ha1
            go_wp2_with ((go_at_call 55; (with_reducible refine (T1.out _).mono ?_); rintro e w' ⟨rfl, rfl⟩))
            go_roundw
            case rel => exact ⟨b + 1, rfl, by omega, by omega, HF.out, hb9w⟩
            case measure => (simp [intOf]; omega)
      · obtain rfl : b = 10000 := by omega
        have hml := decZ_len (z := n) (by omega) (by omega)
        obtain ⟨s, hs⟩ : ∃ s, s = ByteArray.mk (decZ n).toArray := ⟨_, rfl⟩
        obtain ⟨x, hx⟩ : ∃ x, x = ByteArray.mk (35 :: decZ n).toArray := ⟨_, rfl⟩
        have hc1 : ∀ w : World, (Op.stringOp .add (ByteArray.mk #[35]) s).run Tryd.prog w = .ok (.string x) w := fun w => by
          rw [hs, hx]
          exact cat_run [35] (decZ n) (by simp; omega) w
        have D1 := Lib.hid (fun W : World => show Calls Tryd.prog 38 #[.int .i64 n] W fun e w' => e = .returned (.string s) ∧ Below W.heap.size W w' from by
          rw [hs]
          exact sDecimal_any n (by omega) (by omega) W)
        have HR := Lib.hid (show Value.string x = txt (fmtT n) from by rw [HT.out, hf, show ((10000 : Int) - 10000).toNat = 0 by omega, fmtGo, hx]; rfl)
        clear hs hx hml hf
        go_wp2_with fail
        refine (D1.out _).mono ?_
        rintro e w' ⟨rfl, hbd⟩
        have hbz := hb9w.trans (hbd.mono hb9w.size)
        go_wp2
        go_ret
        exact ⟨ret_eq HR.out, hbz⟩
end Go.Proofs.YtdaaamdighojdaaDoor
