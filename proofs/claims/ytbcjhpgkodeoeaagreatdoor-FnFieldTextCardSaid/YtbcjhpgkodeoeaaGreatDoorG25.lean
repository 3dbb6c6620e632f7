/- The texts TxtN, FmtL, ParP in one: each says at its head what it proves. Conditions: as said there. -/
import Derived.Lib.Join
import Derived.Deep.AppendLies
import Derived.Deep.RegionLaw
import Derived.Lib.SplitLaws
import Derived.Test.YtbcjhpgkodeoeaaGreatDoorG16
import Derived.Test.YtbcjhpgkodeoeaaGreatDoorG09
set_option linter.unusedSimpArgs false
set_option linter.unusedVariables false
/- Field numbers as texts. Conditions: none. -/
namespace Go.Proofs.YtbcjhpgkodeoeaaGreatDoor
open Go.RowKit Go.Sort

/-- A fraction as a text. -/
def fracL (a b : Int) : List UInt8 := if b = 1 then decZ a else decZ a ++ 47 :: decZ b
/-- The first short fraction from a denominator on. -/
def fmtGo (n : Int) : Nat → Int → List UInt8
  | 0, _ => 35 :: decZ n
  | k + 1, b =>
    if n * b % 1000000271 ≤ 9999 then fracL (n * b % 1000000271) b
    else if 999990272 ≤ n * b % 1000000271 then fracL (n * b % 1000000271 - 1000000271) b
    else fmtGo n k (b + 1)
def fmtN (n : Int) : List UInt8 := fmtGo n 9999 1
/-- FormatNumber. -/
def fmtT (n : Int) : List UInt8 := if isNumB n = true then fmtN n else []
theorem decZ_pos {z : Int} (h : 0 ≤ z) : decZ z = decL z.toNat := by rw [decZ, if_neg (by omega)]
theorem decZ_neg {z : Int} (h : z < 0) : decZ z = 45 :: decL (-z).toNat := by rw [decZ, if_pos h]
theorem decZ_len {z : Int} (h0 : -2000000000 < z) (h1 : z < 2000000000) : (decZ z).length ≤ 11 := by
  unfold decZ
  split
  · have := decL_len (-z).toNat 9 (by omega)
    simp; omega
  · have := decL_len z.toNat 9 (by omega)
    omega
theorem mod_step (n b : Int) : (n * (b - 1) % 1000000271 + n) % 1000000271 = n * b % 1000000271 := by
  rw [Int.emod_add_emod]
  congr 1
  rw [Int.mul_sub, Int.mul_one]
  omega

set_option maxRecDepth 100000 in
set_option maxHeartbeats 1600000 in
theorem fmtNum_any (n : Int) (w : World) : Calls Tryz.prog 90 #[.int .i64 n] w fun e w' => e = .returned (txt (fmtT n)) ∧ w = w' := by
  cases hn : isNumB n with
  | false =>
    have N1 := Lib.hid (isNumber_eq hn w)
    have HE := Lib.hid (show Value.string (ByteArray.mk #[]) = txt (fmtT n) from by rw [fmtT, hn]; rfl)
    clear hn
    go_enter Tryz.func90, Tryz.ntmps90
    go_wp2_with fail
    refine N1.out.mono ?_
    rintro e w' ⟨rfl, rfl⟩
    go_wp2
    go_ret
    exact ⟨ret_eq HE.out, rfl⟩
  | true =>
    have N1 := Lib.hid (isNumber_eq hn w)
    have HT := Lib.hid (show fmtT n = fmtN n from by rw [fmtT, hn]; rfl)
    simp only [isNumB, decide_eq_true_eq] at hn
    obtain ⟨hn0, hn1⟩ := hn
    go_enter Tryz.func90, Tryz.ntmps90
    go_wp2_with fail
    refine N1.out.mono ?_
    rintro e w' ⟨rfl, rfl⟩
    go_wp2
    go_loopw [3, 4] (fun sa sb wr => ∃ (a b : Int), sa = .int .i64 a ∧ sb = .int .i64 b ∧ 1 ≤ b ∧ b ≤ 10000 ∧ a = n * (b - 1) % 1000000271 ∧ 0 ≤ a ∧ a ≤ 1000000270 ∧ fmtN n = fmtGo n (10000 - b).toNat b ∧ w = wr) (fun _ sb _ => 10000 - (intOf sb).toNat)
    case atStart => exact ⟨0, 1, rfl, rfl, by omega, by omega, by simp, by omega, by omega, rfl, rfl⟩
    case round =>
      obtain ⟨a, b, rfl, rfl, hb1, hb2, ha, ha0, ha1, hf, rfl⟩ := hrel
      by_cases hb9 : b ≤ 9999
      · obtain ⟨a1, hst⟩ : ∃ a1, (a + n) % 1000000271 = a1 := ⟨_, rfl⟩
        have ha1' : n * b % 1000000271 = a1 := by rw [← hst, ha, mod_step]
        have hfu : fmtGo n (10000 - b).toNat b = if a1 ≤ 9999 then fracL a1 b else if 999990272 ≤ a1 then fracL (a1 - 1000000271) b else fmtGo n (10000 - (b + 1)).toNat (b + 1) := by
          rw [show (10000 - b).toNat = (10000 - (b + 1)).toNat + 1 by omega, fmtGo, ha1']
        have g0 : 0 ≤ a1 := by omega
        have g1 : a1 ≤ 1000000270 := by omega
        have hst2 := hst
        by_cases c1 : a1 ≤ 9999
        · rw [if_pos c1] at hfu
          obtain ⟨s, hs⟩ : ∃ s, s = ByteArray.mk (decL a1.toNat).toArray := ⟨_, rfl⟩
          obtain ⟨x, hx⟩ : ∃ x, x = ByteArray.mk ([] ++ decL a1.toNat).toArray := ⟨_, rfl⟩
          have hml := decL_len a1.toNat 3 (by omega)
          have hc1 : ∀ w : World, (Op.stringOp .add (ByteArray.mk #[]) s).run Tryz.prog w = .ok (.string x) w := fun w => by
            rw [hs, hx]
            exact cat_run [] (decL a1.toNat) (by simp; omega) w
          have hdz : decZ a1 = [] ++ decL a1.toNat := by rw [decZ_pos (by omega)]; rfl
          have D1 := Lib.hid (show Calls Tryz.prog 91 #[.int .i64 a1] w fun e w' => e = .returned (.string s) ∧ w = w' from by
            rw [hs]
            exact decimal_any (n := a1.toNat) (by omega) (by omega) w)
          by_cases hb : b = 1
          · subst hb
            have HR := Lib.hid (show Value.string x = txt (fmtT n) from by rw [HT.out, hf, hfu, fracL, if_pos rfl, hdz, hx]; rfl)
            clear hs hx hml hdz hf hfu ha hst ha1'
            go_wp2_with fail
            refine D1.out.mono ?_
            rintro e w' ⟨rfl, rfl⟩
            go_wp2
            go_ret
            exact ⟨ret_eq HR.out, rfl⟩
          · obtain ⟨y, hy⟩ : ∃ y, y = ByteArray.mk ([] ++ decL a1.toNat ++ [47]).toArray := ⟨_, rfl⟩
            obtain ⟨s2, hs2⟩ : ∃ s, s = ByteArray.mk (decL b.toNat).toArray := ⟨_, rfl⟩
            obtain ⟨u, hu⟩ : ∃ u, u = ByteArray.mk ([] ++ decL a1.toNat ++ [47] ++ decL b.toNat).toArray := ⟨_, rfl⟩
            have hbl := decL_len b.toNat 3 (by omega)
            have hc2 : ∀ w : World, (Op.stringOp .add x (ByteArray.mk #[47])).run Tryz.prog w = .ok (.string y) w := fun w => by
              rw [hx, hy]
              exact cat_run ([] ++ decL a1.toNat) [47] (by simp; omega) w
            have hc3 : ∀ w : World, (Op.stringOp .add y s2).run Tryz.prog w = .ok (.string u) w := fun w => by
              rw [hy, hs2, hu]
              exact cat_run ([] ++ decL a1.toNat ++ [47]) (decL b.toNat) (by simp; omega) w
            have D2 := Lib.hid (show Calls Tryz.prog 91 #[.int .i64 b] w fun e w' => e = .returned (.string s2) ∧ w = w' from by
              rw [hs2]
              exact decimal_any (n := b.toNat) (by omega) (by omega) w)
            have HR := Lib.hid (show Value.string u = txt (fmtT n) from by rw [HT.out, hf, hfu, fracL, if_neg hb, hdz, hu, decZ_pos (z := b) (by omega)]; simp [txt])
            have hb9 : (b == 1) = false := by simpa using hb
            clear hs hx hml hdz hf hfu ha hy hs2 hu hbl hb hst
            go_wp2_with fail
            refine D1.out.mono ?_
            rintro e w' ⟨rfl, rfl⟩
            go_wp2_with fail
            refine D2.out.mono ?_
            rintro e w' ⟨rfl, rfl⟩
            go_wp2
            go_ret
            exact ⟨ret_eq HR.out, rfl⟩
        · rw [if_neg c1] at hfu
          by_cases c2 : 999990272 ≤ a1
          · rw [if_pos c2] at hfu
            obtain ⟨s, hs⟩ : ∃ s, s = ByteArray.mk (decL (1000000271 - a1).toNat).toArray := ⟨_, rfl⟩
            obtain ⟨x, hx⟩ : ∃ x, x = ByteArray.mk ([45] ++ decL (1000000271 - a1).toNat).toArray := ⟨_, rfl⟩
            have hml := decL_len (1000000271 - a1).toNat 3 (by omega)
            have hc1 : ∀ w : World, (Op.stringOp .add (ByteArray.mk #[45]) s).run Tryz.prog w = .ok (.string x) w := fun w => by
              rw [hs, hx]
              exact cat_run [45] (decL (1000000271 - a1).toNat) (by simp; omega) w
            have hdz : decZ (a1 - 1000000271) = [45] ++ decL (1000000271 - a1).toNat := by rw [decZ_neg (by omega), show (-(a1 - 1000000271)).toNat = (1000000271 - a1).toNat by omega]; rfl
            have D1 := Lib.hid (show Calls Tryz.prog 91 #[.int .i64 (1000000271 - a1)] w fun e w' => e = .returned (.string s) ∧ w = w' from by
              rw [hs]
              exact decimal_any (n := (1000000271 - a1).toNat) (by omega) (by omega) w)
            by_cases hb : b = 1
            · subst hb
              have HR := Lib.hid (show Value.string x = txt (fmtT n) from by rw [HT.out, hf, hfu, fracL, if_pos rfl, hdz, hx]; rfl)
              clear hs hx hml hdz hf hfu ha hst ha1'
              go_wp2_with fail
              refine D1.out.mono ?_
              rintro e w' ⟨rfl, rfl⟩
              go_wp2
              go_ret
              exact ⟨ret_eq HR.out, rfl⟩
            · obtain ⟨y, hy⟩ : ∃ y, y = ByteArray.mk ([45] ++ decL (1000000271 - a1).toNat ++ [47]).toArray := ⟨_, rfl⟩
              obtain ⟨s2, hs2⟩ : ∃ s, s = ByteArray.mk (decL b.toNat).toArray := ⟨_, rfl⟩
              obtain ⟨u, hu⟩ : ∃ u, u = ByteArray.mk ([45] ++ decL (1000000271 - a1).toNat ++ [47] ++ decL b.toNat).toArray := ⟨_, rfl⟩
              have hbl := decL_len b.toNat 3 (by omega)
              have hc2 : ∀ w : World, (Op.stringOp .add x (ByteArray.mk #[47])).run Tryz.prog w = .ok (.string y) w := fun w => by
                rw [hx, hy]
                exact cat_run ([45] ++ decL (1000000271 - a1).toNat) [47] (by simp; omega) w
              have hc3 : ∀ w : World, (Op.stringOp .add y s2).run Tryz.prog w = .ok (.string u) w := fun w => by
                rw [hy, hs2, hu]
                exact cat_run ([45] ++ decL (1000000271 - a1).toNat ++ [47]) (decL b.toNat) (by simp; omega) w
              have D2 := Lib.hid (show Calls Tryz.prog 91 #[.int .i64 b] w fun e w' => e = .returned (.string s2) ∧ w = w' from by
                rw [hs2]
                exact decimal_any (n := b.toNat) (by omega) (by omega) w)
              have HR := Lib.hid (show Value.string u = txt (fmtT n) from by rw [HT.out, hf, hfu, fracL, if_neg hb, hdz, hu, decZ_pos (z := b) (by omega)]; simp [txt])
              have hb9 : (b == 1) = false := by simpa using hb
              clear hs hx hml hdz hf hfu ha hy hs2 hu hbl hb hst
              go_wp2_with fail
              refine D1.out.mono ?_
              rintro e w' ⟨rfl, rfl⟩
              go_wp2_with fail
              refine D2.out.mono ?_
              rintro e w' ⟨rfl, rfl⟩
              go_wp2
              go_ret
              exact ⟨ret_eq HR.out, rfl⟩
          · rw [if_neg c2] at hfu
            have HF := Lib.hid (hf.trans hfu)
            have HA := Lib.hid (show a1 = n * (b + 1 - 1) % 1000000271 from by rw [← ha1']; congr 2; omega)
            clear hf hfu ha ha1' hst
            go_wp2
            go_roundw
            case rel => exact ⟨(a + n) % 1000000271, b + 1, rfl, rfl, by omega, by omega, hst2.trans HA.out, by omega, by omega, HF.out, by first | trivial | rfl⟩
            case measure => (simp [intOf]; omega)
      · obtain rfl : b = 10000 := by omega
        have hml := decL_len n.toNat 9 (by omega)
        obtain ⟨s, hs⟩ : ∃ s, s = ByteArray.mk (decL n.toNat).toArray := ⟨_, rfl⟩
        obtain ⟨x, hx⟩ : ∃ x, x = ByteArray.mk (35 :: decL n.toNat).toArray := ⟨_, rfl⟩
        have hc1 : ∀ w : World, (Op.stringOp .add (ByteArray.mk #[35]) s).run Tryz.prog w = .ok (.string x) w := fun w => by
          rw [hs, hx]
          exact cat_run [35] (decL n.toNat) (by simp; omega) w
        have D1 := Lib.hid (show Calls Tryz.prog 91 #[.int .i64 n] w fun e w' => e = .returned (.string s) ∧ w = w' from by
          rw [hs]
          exact decimal_any (n := n.toNat) (by omega) (by omega) w)
        have HR := Lib.hid (show Value.string x = txt (fmtT n) from by rw [HT.out, hf, show ((10000 : Int) - 10000).toNat = 0 by omega, fmtGo, decZ_pos hn0, hx]; rfl)
        clear hs hx hml hf ha
        go_wp2_with fail
        refine D1.out.mono ?_
        rintro e w' ⟨rfl, rfl⟩
        go_wp2
        go_ret
        exact ⟨ret_eq HR.out, rfl⟩

theorem timesZ_mul (n b : Int) : timesZ n b = n * b % 1000000271 := rfl

set_option maxRecDepth 100000 in
set_option maxHeartbeats 1600000 in
theorem sFmtNum_any (n : Int) (w : World) : Calls Tryz.prog 149 #[.int .i64 n] w fun e w' => e = .returned (txt (fmtT n)) ∧ Below w.heap.size w w' := by
  have HBR := Lib.hid (Below.refl w.heap.size w)
  cases hn : isNumB n with
  | false =>
    have N1 := Lib.hid (sIsNumber_eq hn w)
    have HE := Lib.hid (show Value.string (ByteArray.mk #[]) = txt (fmtT n) from by rw [fmtT, hn]; rfl)
    clear hn
    go_enter Tryz.func149, Tryz.ntmps149
    go_wp2_with fail
    refine N1.out.mono ?_
    rintro e w' ⟨rfl, rfl⟩
    go_wp2
    go_ret
    exact ⟨ret_eq HE.out, HBR.out⟩
  | true =>
    have N1 := Lib.hid (sIsNumber_eq hn w)
    have HT := Lib.hid (show fmtT n = fmtN n from by rw [fmtT, hn]; rfl)
    simp only [isNumB, decide_eq_true_eq] at hn
    obtain ⟨hn0, hn1⟩ := hn
    go_enter Tryz.func149, Tryz.ntmps149
    go_wp2_with fail
    refine N1.out.mono ?_
    rintro e w' ⟨rfl, rfl⟩
    go_wp2
    go_loopw [3] (fun sb wr => ∃ (b : Int), sb = .int .i64 b ∧ 1 ≤ b ∧ b ≤ 10000 ∧ fmtN n = fmtGo n (10000 - b).toNat b ∧ Below w.heap.size w wr) (fun sb _ => 10000 - (intOf sb).toNat)
    case atStart => exact ⟨1, rfl, by omega, by omega, rfl, HBR.out⟩
    case round =>
      obtain ⟨wk, rfl⟩ : ∃ W, W = wr := ⟨_, rfl⟩
      clear HBR
      obtain ⟨b, rfl, hb1, hb2, hf, hb9w⟩ := hrel
      by_cases hb9 : b ≤ 9999
      · obtain ⟨a1, ha1⟩ : ∃ a1, timesZ n b = a1 := ⟨_, rfl⟩
        have T1 := Lib.hid (fun W : World => show Calls Tryz.prog 23 #[.int .i64 n, .int .i64 b] W fun e w' => e = .returned (.int .i64 a1) ∧ W = w' from ha1 ▸ sTimes_any n b W)
        have hfu : fmtGo n (10000 - b).toNat b = if a1 ≤ 9999 then fracL a1 b else if 999990272 ≤ a1 then fracL (a1 - 1000000271) b else fmtGo n (10000 - (b + 1)).toNat (b + 1) := by
          rw [show (10000 - b).toNat = (10000 - (b + 1)).toNat + 1 by omega, fmtGo, ← timesZ_mul, ha1]
        have g0 : 0 ≤ a1 := by have := timesZ_bd n b; omega
        have g1 : a1 ≤ 1000000270 := by have := timesZ_bd n b; omega
        by_cases c1 : a1 ≤ 9999
        · rw [if_pos c1] at hfu
          by_cases hb : b = 1
          · subst hb
            have HR := Lib.hid (show txt (decZ a1) = txt (fmtT n) from by rw [HT.out, hf, hfu, fracL, if_pos rfl])
            have D1 := Lib.hid (fun W : World => show Calls Tryz.prog 150 #[.int .i64 a1] W fun e w' => e = .returned (txt (fmtT n)) ∧ Below W.heap.size W w' from by
              have := sDecimal_any a1 (by omega) (by omega) W
              rwa [HR.out] at this)
            clear hf hfu ha1 HR
            obtain ⟨x, hx⟩ : ∃ x, txt (fmtT n) = .string x := ⟨_, rfl⟩
            rw [hx] at D1
            go_wp2_with ((go_at_call 23; (with_reducible refine (T1.out _).mono ?_); rintro e w' ⟨rfl, rfl⟩))
            refine (D1.out _).mono ?_
            rintro e w' ⟨rfl, hbd⟩
            have hbz := hb9w.trans (hbd.mono hb9w.size)
            go_wp2
            go_ret
            exact ⟨ret_eq hx.symm, hbz⟩
          · obtain ⟨s, hs⟩ : ∃ s, s = ByteArray.mk (decZ a1).toArray := ⟨_, rfl⟩
            obtain ⟨y, hy⟩ : ∃ y, y = ByteArray.mk (decZ a1 ++ [47]).toArray := ⟨_, rfl⟩
            obtain ⟨s2, hs2⟩ : ∃ s, s = ByteArray.mk (decZ b).toArray := ⟨_, rfl⟩
            obtain ⟨u, hu⟩ : ∃ u, u = ByteArray.mk (decZ a1 ++ [47] ++ decZ b).toArray := ⟨_, rfl⟩
            have hal := decZ_len (z := a1) (by omega) (by omega)
            have hbl := decZ_len (z := b) (by omega) (by omega)
            have hc2 : ∀ w : World, (Op.stringOp .add s (ByteArray.mk #[47])).run Tryz.prog w = .ok (.string y) w := fun w => by
              rw [hs, hy]
              exact cat_run (decZ a1) [47] (by simp; omega) w
            have hc3 : ∀ w : World, (Op.stringOp .add y s2).run Tryz.prog w = .ok (.string u) w := fun w => by
              rw [hy, hs2, hu]
              exact cat_run (decZ a1 ++ [47]) (decZ b) (by simp; omega) w
            have D1 := Lib.hid (fun W : World => show Calls Tryz.prog 150 #[.int .i64 a1] W fun e w' => e = .returned (.string s) ∧ Below W.heap.size W w' from by
              rw [hs]
              exact sDecimal_any a1 (by omega) (by omega) W)
            have D2 := Lib.hid (fun W : World => show Calls Tryz.prog 150 #[.int .i64 b] W fun e w' => e = .returned (.string s2) ∧ Below W.heap.size W w' from by
              rw [hs2]
              exact sDecimal_any b (by omega) (by omega) W)
            have HR := Lib.hid (show Value.string u = txt (fmtT n) from by rw [HT.out, hf, hfu, fracL, if_neg hb, hu]; simp [txt])
            have hbq : (b == 1) = false := by simpa using hb
            clear hf hfu ha1 hs hy hs2 hu hal hbl hb
            go_wp2_with ((go_at_call 23; (with_reducible refine (T1.out _).mono ?_); rintro e w' ⟨rfl, rfl⟩))
            refine (D1.out _).mono ?_
            rintro e w' ⟨rfl, hbd⟩
            have hbz := hb9w.trans (hbd.mono hb9w.size)
            go_wp2_with fail
            refine (D2.out _).mono ?_
            rintro e w2 ⟨rfl, hbd2⟩
            have hby := hbz.trans (hbd2.mono hbz.size)
            go_wp2
            go_ret
            exact ⟨ret_eq HR.out, hby⟩
        · rw [if_neg c1] at hfu
          by_cases c2 : 999990272 ≤ a1
          · rw [if_pos c2] at hfu
            by_cases hb : b = 1
            · subst hb
              have HR := Lib.hid (show txt (decZ (a1 - 1000000271)) = txt (fmtT n) from by rw [HT.out, hf, hfu, fracL, if_pos rfl])
              have D1 := Lib.hid (fun W : World => show Calls Tryz.prog 150 #[.int .i64 (a1 - 1000000271)] W fun e w' => e = .returned (txt (fmtT n)) ∧ Below W.heap.size W w' from by
                have := sDecimal_any (a1 - 1000000271) (by omega) (by omega) W
                rwa [HR.out] at this)
              clear hf hfu ha1 HR
              obtain ⟨x, hx⟩ : ∃ x, txt (fmtT n) = .string x := ⟨_, rfl⟩
              rw [hx] at D1
              go_wp2_with ((go_at_call 23; (with_reducible refine (T1.out _).mono ?_); rintro e w' ⟨rfl, rfl⟩))
              refine (D1.out _).mono ?_
              rintro e w' ⟨rfl, hbd⟩
              have hbz := hb9w.trans (hbd.mono hb9w.size)
              go_wp2
              go_ret
              exact ⟨ret_eq hx.symm, hbz⟩
            · obtain ⟨s, hs⟩ : ∃ s, s = ByteArray.mk (decZ (a1 - 1000000271)).toArray := ⟨_, rfl⟩
              obtain ⟨y, hy⟩ : ∃ y, y = ByteArray.mk (decZ (a1 - 1000000271) ++ [47]).toArray := ⟨_, rfl⟩
              obtain ⟨s2, hs2⟩ : ∃ s, s = ByteArray.mk (decZ b).toArray := ⟨_, rfl⟩
              obtain ⟨u, hu⟩ : ∃ u, u = ByteArray.mk (decZ (a1 - 1000000271) ++ [47] ++ decZ b).toArray := ⟨_, rfl⟩
              have hal := decZ_len (z := (a1 - 1000000271)) (by omega) (by omega)
              have hbl := decZ_len (z := b) (by omega) (by omega)
              have hc2 : ∀ w : World, (Op.stringOp .add s (ByteArray.mk #[47])).run Tryz.prog w = .ok (.string y) w := fun w => by
                rw [hs, hy]
                exact cat_run (decZ (a1 - 1000000271)) [47] (by simp; omega) w
              have hc3 : ∀ w : World, (Op.stringOp .add y s2).run Tryz.prog w = .ok (.string u) w := fun w => by
                rw [hy, hs2, hu]
                exact cat_run (decZ (a1 - 1000000271) ++ [47]) (decZ b) (by simp; omega) w
              have D1 := Lib.hid (fun W : World => show Calls Tryz.prog 150 #[.int .i64 (a1 - 1000000271)] W fun e w' => e = .returned (.string s) ∧ Below W.heap.size W w' from by
                rw [hs]
                exact sDecimal_any (a1 - 1000000271) (by omega) (by omega) W)
              have D2 := Lib.hid (fun W : World => show Calls Tryz.prog 150 #[.int .i64 b] W fun e w' => e = .returned (.string s2) ∧ Below W.heap.size W w' from by
                rw [hs2]
                exact sDecimal_any b (by omega) (by omega) W)
              have HR := Lib.hid (show Value.string u = txt (fmtT n) from by rw [HT.out, hf, hfu, fracL, if_neg hb, hu]; simp [txt])
              have hbq : (b == 1) = false := by simpa using hb
              clear hf hfu ha1 hs hy hs2 hu hal hbl hb
              go_wp2_with ((go_at_call 23; (with_reducible refine (T1.out _).mono ?_); rintro e w' ⟨rfl, rfl⟩))
              refine (D1.out _).mono ?_
              rintro e w' ⟨rfl, hbd⟩
              have hbz := hb9w.trans (hbd.mono hb9w.size)
              go_wp2_with fail
              refine (D2.out _).mono ?_
              rintro e w2 ⟨rfl, hbd2⟩
              have hby := hbz.trans (hbd2.mono hbz.size)
              go_wp2
              go_ret
              exact ⟨ret_eq HR.out, hby⟩
          · rw [if_neg c2] at hfu
            have HF := Lib.hid (hf.trans hfu)
            clear hf hfu ha1
            go_wp2_with ((go_at_call 23; (with_reducible refine (T1.out _).mono ?_); rintro e w' ⟨rfl, rfl⟩))
            go_roundw
            case rel => exact ⟨b + 1, rfl, by omega, by omega, HF.out, hb9w⟩
            case measure => (simp [intOf]; omega)
      · obtain rfl : b = 10000 := by omega
        have hml := decZ_len (z := n) (by omega) (by omega)
        obtain ⟨s, hs⟩ : ∃ s, s = ByteArray.mk (decZ n).toArray := ⟨_, rfl⟩
        obtain ⟨x, hx⟩ : ∃ x, x = ByteArray.mk (35 :: decZ n).toArray := ⟨_, rfl⟩
        have hc1 : ∀ w : World, (Op.stringOp .add (ByteArray.mk #[35]) s).run Tryz.prog w = .ok (.string x) w := fun w => by
          rw [hs, hx]
          exact cat_run [35] (decZ n) (by simp; omega) w
        have D1 := Lib.hid (fun W : World => show Calls Tryz.prog 150 #[.int .i64 n] W fun e w' => e = .returned (.string s) ∧ Below W.heap.size W w' from by
          rw [hs]
          exact sDecimal_any n (by omega) (by omega) W)
        have HR := Lib.hid (show Value.string x = txt (fmtT n) from by rw [HT.out, hf, show ((10000 : Int) - 10000).toNat = 0 by omega, fmtGo, hx]; rfl)
        clear hs hx hml hf
        go_wp2_with fail
        refine (D1.out _).mono ?_
        rintro e w' ⟨rfl, hbd⟩
        have hbz := hb9w.trans (hbd.mono hb9w.size)
        go_wp2
        go_ret
        exact ⟨ret_eq HR.out, hbz⟩
end Go.Proofs.YtbcjhpgkodeoeaaGreatDoor

/- Fields as texts, in plain lists; rows of texts. Conditions: none. -/
namespace Go.Proofs.YtbcjhpgkodeoeaaGreatDoor
open Go.RowKit Go.Sort

/-- A power of a variable as a text. -/
def powL (i : Nat) (n : Int) : List UInt8 := if 0 < n then 42 :: UInt8.ofNat (97 + i) :: (if 1 < n then decL n.toNat else []) else []
def powsT : Nat → List Int → List UInt8
  | _, [] => []
  | i, n :: ps => powL i n ++ powsT (i + 1) ps
theorem powsT_snoc (n : Int) : ∀ (ps : List Int) (i : Nat), powsT i (ps ++ [n]) = powsT i ps ++ powL (i + ps.length) n
  | [], i => by simp [powsT]
  | m :: ps, i => by
    rw [List.cons_append, powsT, powsT, powsT_snoc n ps (i + 1), List.append_assoc, List.length_cons, show i + 1 + ps.length = i + (ps.length + 1) by omega]
theorem powL_len {i : Nat} {n : Int} (h : n ≤ 5) : (powL i n).length ≤ 3 := by
  unfold powL
  split
  · split
    · rw [decL_small (by omega)]; simp
    · simp
  · simp
theorem powsT_len : ∀ (ps : List Int) (i : Nat), (∀ n ∈ ps, n ≤ 5) → (powsT i ps).length ≤ 3 * ps.length
  | [], i, _ => by simp [powsT]
  | n :: ps, i, h => by
    have h1 := powL_len (i := i) (h n (by simp))
    have h2 := powsT_len ps (i + 1) (fun m hm => h m (by simp [hm]))
    rw [powsT, List.length_append, List.length_cons]
    omega
theorem fracL_len {a b : Int} (ha : -2000000000 < a) (ha2 : a < 2000000000) (hb : -2000000000 < b) (hb2 : b < 2000000000) : (fracL a b).length ≤ 23 := by
  have h1 := decZ_len ha ha2
  have h2 := decZ_len hb hb2
  unfold fracL
  split
  · omega
  · simp; omega
theorem fmtGo_len {n : Int} (h0 : 0 ≤ n) (h1 : n < 1000000271) : ∀ (k : Nat) (b : Int), 0 ≤ b → b + k ≤ 100000 → (fmtGo n k b).length ≤ 23
  | 0, b, _, _ => by
    have := decZ_len (z := n) (by omega) (by omega)
    rw [fmtGo]; simp; omega
  | k + 1, b, hb, hk => by
    have hb1 : 0 ≤ n * b % 1000000271 ∧ n * b % 1000000271 < 1000000271 := by omega
    rw [fmtGo]
    split
    · exact fracL_len (by omega) (by omega) (by omega) (by omega)
    · split
      · exact fracL_len (by omega) (by omega) (by omega) (by omega)
      · exact fmtGo_len h0 h1 k (b + 1) (by omega) (by omega)
theorem fmtT_len (n : Int) : (fmtT n).length ≤ 23 := by
  unfold fmtT
  split
  · rename_i h
    simp only [isNumB, decide_eq_true_eq] at h
    exact fmtGo_len h.1 h.2 9999 1 (by omega) (by omega)
  · simp
def monT (m : MonZ) : List UInt8 := fmtT m.coef ++ powsT 0 m.pows
def polyT (p : List MonZ) : List UInt8 := if p = [] then [48] else Lib.join (p.map monT) [32, 43, 32]
def fldT (f : FldZ) : List UInt8 := if fldOkB f = true then Lib.join (f.parts.map polyT) [59, 32] else []

theorem Tryz.info_str : (Tryz.prog.info? 9).map (fun i => (i.zero, i.size, i.bytes)) = some (some (.string ⟨#[]⟩), 1, 16) := by kernel_rfl
/-- A row of texts of the call's own. -/
structure RowT (w wr : World) (v : Value) (xs : List (List UInt8)) (n : Nat) : Prop where
  len : xs.length = n
  shape : ∃ g cap, v = .slice (some ⟨g, 0, none⟩) n cap ∧ w.heap.size ≤ g
  row : wr.ownsRow 0 9 1 v n (xs.map txt)
  below : Below w.heap.size w wr
theorem RowT.new (w : World) : RowT w (w.alloc (.cells #[] 9)) (.slice (some ⟨w.heap.size, 0, none⟩) 0 0) [] 0 :=
  ⟨rfl, ⟨_, _, rfl, Nat.le_refl _⟩, by simpa using World.ownsRow_lit (base := 0) (e := 9) (size := 1) w #[] 0 (Nat.zero_le _) (Nat.zero_le _) rfl, (Below.refl _ _).alloc (Nat.le_refl _) _⟩
theorem RowT.step {w wr wq : World} {v : Value} {xs : List (List UInt8)} {n : Nat} (h : RowT w wr v xs n) (hb : Below wr.heap.size wr wq) : RowT w wq v xs n :=
  ⟨h.len, h.shape, ownsRow_only h.row (Only.of_below (fp := []) hb) (by simp), h.below.trans (hb.mono h.below.size)⟩
theorem RowT.push {w wr wa wb : World} {xs : List (List UInt8)} {n g g2 cap capn : Nat} {y : List UInt8} (h : RowT w wr (.slice (some ⟨g, 0, none⟩) n cap) xs n) (hb : Below wr.heap.size wr wa)
    (hown : wb.ownsRow 0 9 1 (.slice (some ⟨g2, 0, none⟩) (n + 1) capn) (n + 1) (xs.map txt ++ [txt y])) (hgrow : wa.grownBy wb (some g)) (hat : g = g2 ∨ wr.heap.size ≤ g2) :
    RowT w wb (.slice (some ⟨g2, 0, none⟩) (n + 1) capn) (xs ++ [y]) (n + 1) := by
  obtain ⟨g', cap', hv, hg⟩ := h.shape
  simp only [Value.slice.injEq, Option.some.injEq, Addr.mk.injEq, and_true, true_and] at hv
  obtain ⟨rfl, rfl⟩ := hv
  have hbs := h.below.size
  have hs := hb.size
  refine ⟨by rw [List.length_append, h.len]; rfl, ⟨g2, capn, rfl, ?_⟩, by simpa using hown, (h.below.trans (hb.mono hbs)).grown hgrow (by omega) (fun b hb' => by simp at hb'; omega)⟩
  rcases hat with rfl | hat
  · exact hg
  · omega
theorem sum_le_mul {xs : List (List UInt8)} {k : Nat} (h : ∀ x ∈ xs, x.length ≤ k) : (xs.map List.length).sum ≤ xs.length * k := by
  induction xs with
  | nil => simp
  | cons x xs ih =>
    have h1 := h x (by simp)
    have h2 := ih (fun y hy => h y (by simp [hy]))
    simp only [List.map_cons, List.sum_cons, List.length_cons, Nat.succ_mul]
    omega
theorem joinTail_len {xs : List (List UInt8)} {sep : List UInt8} {k : Nat} (h : ∀ x ∈ xs, x.length ≤ k) : (Lib.joinTail sep xs).length ≤ xs.length * (k + sep.length) := by
  unfold Lib.joinTail
  induction xs with
  | nil => simp
  | cons x xs ih =>
    have h1 := h x (by simp)
    have h2 := ih (fun y hy => h y (by simp [hy]))
    simp only [List.map_cons, List.flatten_cons, List.length_append, List.length_cons, Nat.succ_mul]
    omega
theorem join_len {xs : List (List UInt8)} {sep : List UInt8} {k : Nat} (h : ∀ x ∈ xs, x.length ≤ k) : (Lib.join xs sep).length ≤ xs.length * (k + sep.length) := by
  cases xs with
  | nil => simp [Lib.join_nil]
  | cons x xs =>
    have h1 := h x (by simp)
    have h2 := joinTail_len (xs := xs) (sep := sep) (fun y hy => h y (by simp [hy]))
    rw [Lib.join_cons, List.length_append, List.length_cons, Nat.succ_mul]
    omega
end Go.Proofs.YtbcjhpgkodeoeaaGreatDoor

/- Numbers read from texts, in plain lists: both ways of reading answer alike. Conditions: none. -/
namespace Go.Proofs.YtbcjhpgkodeoeaaGreatDoor
open Go.RowKit Go.Sort

def isDig (b : UInt8) : Bool := decide (48 ≤ b.toNat ∧ b.toNat ≤ 57)
/-- Digits read on from a number; -1 for another text. -/
def digGo : Int → List UInt8 → Int
  | n, [] => n
  | n, b :: l => if isDig b = true then digGo (10 * n + ((b.toNat : Int) - 48)) l else -1
/-- The reference's digits, and the program's, which have no leading zeros. -/
def digR (l : List UInt8) : Int := if l.length = 0 ∨ 10 < l.length then -1 else digGo 0 l
def digI (l : List UInt8) : Int := if l.length = 0 ∨ 10 < l.length ∨ (1 < l.length ∧ l[0]? = some 48) then -1 else digGo 0 l

/-- Whether a leading zero stands somewhere; behind a digit or not. -/
def lead : Bool → List UInt8 → Bool
  | _, [] => false
  | p, b :: l => (!p && b == 48 && (l.head?.map isDig).getD false) || lead (isDig b) l
theorem dig48 : isDig 48 = true := by decide
theorem lead_cat {c : UInt8} (hc : isDig c = false) (b : List UInt8) : ∀ (a : List UInt8) (p : Bool), lead p (a ++ c :: b) = (lead p a || lead false b)
  | [], p => by
    have h48 : (c == 48) = false := by
      rw [beq_eq_false_iff_ne]; rintro rfl; rw [dig48] at hc; cases hc
    simp [lead, hc, h48]
  | x :: a, p => by
    have ih := lead_cat hc b a (isDig x)
    rw [List.cons_append, lead, ih, lead]
    cases a with
    | nil => simp [hc]
    | cons y a => simp [Bool.or_assoc]
theorem lead_front {b : List UInt8} : ∀ {a : List UInt8} {p : Bool}, lead p a = true → lead p (a ++ b) = true
  | [], p, h => by simp [lead] at h
  | x :: a, p, h => by
    rw [lead, Bool.or_eq_true] at h
    rw [List.cons_append, lead, Bool.or_eq_true]
    rcases h with h | h
    · left
      cases a with
      | nil => simp at h
      | cons y a => simpa using h
    · exact Or.inr (lead_front h)
theorem lead_digs : ∀ {l : List UInt8}, (∀ b ∈ l, isDig b = true) → lead true l = false
  | [], _ => rfl
  | b :: l, h => by rw [lead, h b (by simp), lead_digs (fun c hc => h c (by simp [hc]))]; simp
/-- Where both ways of reading digits differ a leading zero stands. -/
theorem dig_lead {l : List UInt8} (h : lead false l = false) : digI l = digR l := by
  unfold digI digR
  by_cases h1 : l.length = 0 ∨ 10 < l.length
  · rw [if_pos h1, if_pos (by rcases h1 with h1 | h1 <;> simp [h1])]
  · rw [if_neg h1]
    by_cases h2 : 1 < l.length ∧ l[0]? = some 48
    · rw [if_pos (Or.inr (Or.inr h2))]
      obtain ⟨h3, h4⟩ := h2
      match l, h3, h4, h with
      | a :: b :: r, _, h4, h =>
        simp at h4
        subst h4
        rw [lead] at h
        simp only [List.head?_cons, Option.map_some, Option.getD_some, Bool.or_eq_false_iff] at h
        have hb : isDig b = false := by simpa using h.1
        simp [digGo, dig48, hb]
    · rw [if_neg (fun h => h.elim (fun h => h1 (Or.inl h)) (fun h => h.elim (fun h => h1 (Or.inr h)) h2))]

-- what is written has no leading zeros
theorem dig_isDig (n : Nat) : isDig (dig n) = true := by
  unfold isDig dig
  rw [UInt8.toNat_ofNat', decide_eq_true_eq]
  omega
theorem decL_digs (n : Nat) : ∀ b ∈ decL n, isDig b = true := by
  induction n using Nat.strongRecOn with
  | ind n ih =>
    intro b hb
    by_cases h : n < 10
    · rw [decL_small h, List.mem_singleton] at hb
      rw [hb]; exact dig_isDig n
    · rw [decL_big h, List.mem_append, List.mem_singleton] at hb
      rcases hb with hb | rfl
      · exact ih (n / 10) (by omega) b hb
      · exact dig_isDig n
theorem decL_head (n : Nat) : 0 < n → ∃ d l, decL n = d :: l ∧ d ≠ 48 := by
  induction n using Nat.strongRecOn with
  | ind n ih =>
    intro h0
    by_cases h : n < 10
    · refine ⟨dig n, [], decL_small h, fun e => ?_⟩
      have := congrArg UInt8.toNat e
      unfold dig at this
      rw [UInt8.toNat_ofNat'] at this
      simp at this
      omega
    · obtain ⟨d, l, h1, h2⟩ := ih (n / 10) (by omega) (by omega)
      exact ⟨d, l ++ [dig n], by rw [decL_big h, h1]; rfl, h2⟩
theorem decL_ne (n : Nat) : decL n ≠ [] := by
  by_cases h : n < 10
  · rw [decL_small h]; simp
  · rw [decL_big h]; simp
theorem decL_lead (n : Nat) : lead false (decL n) = false := by
  by_cases h0 : n = 0
  · subst h0; rw [decL_small (by omega)]; rfl
  · obtain ⟨d, l, h1, h2⟩ := decL_head n (by omega)
    have hd := decL_digs n
    rw [h1] at hd
    rw [h1, lead, hd d (by simp), lead_digs (fun b hb => hd b (by simp [hb]))]
    have : (d == 48) = false := by rw [beq_eq_false_iff_ne]; exact h2
    simp [this]
theorem decZ_lead (z : Int) : lead false (decZ z) = false := by
  unfold decZ
  split
  · have := lead_cat (c := 45) (by decide) (decL (-z).toNat) [] false
    rw [List.nil_append] at this
    rw [this, decL_lead]; rfl
  · exact decL_lead _
theorem fracL_lead (a b : Int) : lead false (fracL a b) = false := by
  unfold fracL
  split
  · exact decZ_lead a
  · rw [lead_cat (c := 47) (by decide), decZ_lead, decZ_lead]; rfl
theorem fmtGo_lead (n : Int) : ∀ (k : Nat) (b : Int), lead false (fmtGo n k b) = false
  | 0, b => by
    have := lead_cat (c := 35) (by decide) (decZ n) [] false
    rw [List.nil_append] at this
    rw [fmtGo, this, decZ_lead]; rfl
  | k + 1, b => by
    rw [fmtGo]
    split
    · exact fracL_lead _ _
    · split
      · exact fracL_lead _ _
      · exact fmtGo_lead n k (b + 1)
theorem fmtT_lead (n : Int) : lead false (fmtT n) = false := by
  unfold fmtT
  split
  · exact fmtGo_lead n 9999 1
  · rfl
theorem letter_dig {i : Nat} (h : i < 150) : isDig (UInt8.ofNat (97 + i)) = false := by
  unfold isDig
  rw [UInt8.toNat_ofNat', decide_eq_false_iff_not]
  omega
theorem powL_lead {i : Nat} (n : Int) (h : i < 150) (r : List UInt8) (hr : r = [] ∨ ∃ c l, r = c :: l ∧ isDig c = false) (hl : lead false r = false) : lead false (powL i n ++ r) = false ∧ (powL i n ++ r = [] ∨ ∃ c l, powL i n ++ r = c :: l ∧ isDig c = false) := by
  have hcat : ∀ a : List UInt8, lead false a = false → lead false (a ++ r) = false := fun a ha => by
    rcases hr with rfl | ⟨c, l, rfl, hc⟩
    · simpa using ha
    · have h1 := lead_cat hc l [] false
      rw [List.nil_append, hl] at h1
      have h2 : lead false l = false := by simpa [lead] using h1.symm
      rw [lead_cat hc, ha, h2]; rfl
  unfold powL
  split
  · refine ⟨?_, Or.inr ⟨42, _, rfl, by decide⟩⟩
    have h42 := fun b => lead_cat (c := 42) (by decide) b [] false
    have hlt := fun b => lead_cat (letter_dig h) b [] false
    simp only [List.nil_append, lead, Bool.false_or] at h42 hlt
    rw [List.cons_append, List.cons_append]
    rw [show lead false (42 :: UInt8.ofNat (97 + i) :: ((if 1 < n then decL n.toNat else []) ++ r)) = lead false (UInt8.ofNat (97 + i) :: ((if 1 < n then decL n.toNat else []) ++ r)) from h42 _]
    rw [show lead false (UInt8.ofNat (97 + i) :: ((if 1 < n then decL n.toNat else []) ++ r)) = lead false ((if 1 < n then decL n.toNat else []) ++ r) from hlt _]
    split
    · exact hcat _ (decL_lead _)
    · simpa using hl
  · exact ⟨hl, hr⟩
theorem powsT_lead : ∀ (ps : List Int) (i : Nat), i + ps.length ≤ 150 → lead false (powsT i ps) = false ∧ (powsT i ps = [] ∨ ∃ c l, powsT i ps = c :: l ∧ isDig c = false)
  | [], _, _ => ⟨rfl, Or.inl rfl⟩
  | n :: ps, i, h => by
    have ih := powsT_lead ps (i + 1) (by simp at h; omega)
    rw [powsT]
    exact powL_lead n (by simp at h; omega) _ ih.2 ih.1
theorem monT_lead {m : MonZ} (h : m.pows.length ≤ 150) : lead false (monT m) = false := by
  obtain ⟨h1, h2⟩ := powsT_lead m.pows 0 (by omega)
  unfold monT
  rcases h2 with h2 | ⟨c, l, h2, hc⟩
  · rw [h2, List.append_nil]; exact fmtT_lead _
  · rw [h2] at h1 ⊢
    have h3 := lead_cat hc l [] false
    rw [List.nil_append, h1] at h3
    have h4 : lead false l = false := by simpa [lead] using h3.symm
    rw [lead_cat hc, fmtT_lead, h4]; rfl
theorem lead_seps {b : List UInt8} : ∀ {s : List UInt8}, s ≠ [] → (∀ c ∈ s, isDig c = false) → ∀ (a : List UInt8) (p : Bool), lead p (a ++ (s ++ b)) = (lead p a || lead false b)
  | [], h, _, _, _ => absurd rfl h
  | [c], _, h, a, p => lead_cat (h c (by simp)) b a p
  | c :: d :: s, _, h, a, p => by
    have ih := lead_seps (b := b) (s := d :: s) (by simp) (fun c hc => h c (by simp [hc])) [] false
    rw [List.cons_append, lead_cat (h c (by simp))]
    rw [List.nil_append] at ih
    rw [ih]; simp [lead]
theorem joinTail_lead {sep : List UInt8} (h0 : sep ≠ []) (hs : ∀ c ∈ sep, isDig c = false) : ∀ (xs : List (List UInt8)) (a : List UInt8) (p : Bool), (∀ x ∈ xs, lead false x = false) → lead p a = false → lead p (a ++ Lib.joinTail sep xs) = false
  | [], a, p, _, ha => by simpa [Lib.joinTail] using ha
  | x :: xs, a, p, h, ha => by
    have ih := joinTail_lead h0 hs xs x false (fun y hy => h y (by simp [hy])) (h x (by simp))
    have e : Lib.joinTail sep (x :: xs) = sep ++ (x ++ Lib.joinTail sep xs) := by simp [Lib.joinTail]
    rw [e, lead_seps h0 hs, ha, ih]; rfl
theorem join_lead {sep : List UInt8} (h0 : sep ≠ []) (hs : ∀ c ∈ sep, isDig c = false) {xs : List (List UInt8)} (h : ∀ x ∈ xs, lead false x = false) : lead false (Lib.join xs sep) = false := by
  cases xs with
  | nil => simp [Lib.join_nil, lead]
  | cons x xs => rw [Lib.join_cons]; exact joinTail_lead h0 hs xs x false (fun y hy => h y (by simp [hy])) (h x (by simp))
theorem fldT_lead (f : FldZ) : lead false (fldT f) = false := by
  unfold fldT
  split
  · rename_i h
    obtain ⟨n, _, _, _, hn6, hp⟩ := fldOk_parts h
    refine join_lead (by simp) (by decide) (fun x hx => ?_)
    obtain ⟨p, hpm, rfl⟩ := List.mem_map.1 hx
    unfold polyT
    split
    · rfl
    · refine join_lead (by simp) (by decide) (fun y hy => ?_)
      obtain ⟨m, hm, rfl⟩ := List.mem_map.1 hy
      exact monT_lead (by have := ((hp p hpm).2 m hm).2.1; omega)
  · rfl
end Go.Proofs.YtbcjhpgkodeoeaaGreatDoor
