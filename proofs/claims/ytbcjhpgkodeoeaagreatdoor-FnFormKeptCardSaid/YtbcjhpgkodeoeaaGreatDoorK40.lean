/- The texts TxtN, FmtL, ParP, ParN, ParD, ParC, ParW in one: each says at its head what it proves. Conditions: as said there. -/
import Derived.Lib.Join
import Derived.Deep.AppendLies
import Derived.Deep.RegionLaw
import Derived.Lib.SplitLaws
import Derived.Test.YtbcjhpgkodeoeaaGreatDoorK32
import Derived.Test.YtbcjhpgkodeoeaaGreatDoorK09
import Derived.Test.YtbcjhpgkodeoeaaGreatDoorK03
set_option linter.unusedSimpArgs false
set_option linter.unusedVariables false
/- Field numbers as texts. Conditions: none. -/
namespace Go.Proofs.YtbcjhpgkodeoeaaGreatDoor
open Go.RowKit Go.Sort

/-- A fraction as a text. -/
def fracL (a b : Int) : List UInt8 := if b = 1 then decZ a else decZ a ++ 47 :: decZ b
/-- The first short fraction from a denominator on. -/
def fmtGo (n : Int) : Nat → Int → List UInt8
  | 0, _ => 35 :: decZ n
  | k + 1, b =>
    if n * b % 1000000271 ≤ 9999 then fracL (n * b % 1000000271) b
    else if 999990272 ≤ n * b % 1000000271 then fracL (n * b % 1000000271 - 1000000271) b
    else fmtGo n k (b + 1)
def fmtN (n : Int) : List UInt8 := fmtGo n 9999 1
/-- FormatNumber. -/
def fmtT (n : Int) : List UInt8 := if isNumB n = true then fmtN n else []
theorem decZ_pos {z : Int} (h : 0 ≤ z) : decZ z = decL z.toNat := by rw [decZ, if_neg (by omega)]
theorem decZ_neg {z : Int} (h : z < 0) : decZ z = 45 :: decL (-z).toNat := by rw [decZ, if_pos h]
theorem mod_step (n b : Int) : (n * (b - 1) % 1000000271 + n) % 1000000271 = n * b % 1000000271 := by
  rw [Int.emod_add_emod]
  congr 1
  rw [Int.mul_sub, Int.mul_one]
  omega

set_option maxRecDepth 100000 in
set_option maxHeartbeats 1600000 in
theorem fmtNum_any (n : Int) (w : World) : Calls Tryz.prog 90 #[.int .i64 n] w fun e w' => e = .returned (txt (fmtT n)) ∧ w = w' := by
  cases hn : isNumB n with
  | false =>
    have N1 := Lib.hid (isNumber_eq hn w)
    have HE := Lib.hid (show Value.string (ByteArray.mk #[]) = txt (fmtT n) from by rw [fmtT, hn]; rfl)
    clear hn
    go_enter Tryz.func90, Tryz.ntmps90
    go_wp2_with fail
    refine N1.out.mono ?_
    rintro e w' ⟨rfl, rfl⟩
    go_wp2
    go_ret
    exact ⟨ret_eq HE.out, rfl⟩
  | true =>
    have N1 := Lib.hid (isNumber_eq hn w)
    have HT := Lib.hid (show fmtT n = fmtN n from by rw [fmtT, hn]; rfl)
    simp only [isNumB, decide_eq_true_eq] at hn
    obtain ⟨hn0, hn1⟩ := hn
    go_enter Tryz.func90, Tryz.ntmps90
    go_wp2_with fail
    refine N1.out.mono ?_
    rintro e w' ⟨rfl, rfl⟩
    go_wp2
    go_loopw [3, 4] (fun sa sb wr => ∃ (a b : Int), sa = .int .i64 a ∧ sb = .int .i64 b ∧ 1 ≤ b ∧ b ≤ 10000 ∧ a = n * (b - 1) % 1000000271 ∧ 0 ≤ a ∧ a ≤ 1000000270 ∧ fmtN n = fmtGo n (10000 - b).toNat b ∧ w = wr) (fun _ sb _ => 10000 - (intOf sb).toNat)
    case atStart => exact ⟨0, 1, rfl, rfl, by omega, by omega, by simp, by omega, by omega, rfl, rfl⟩
    case round =>
      obtain ⟨a, b, rfl, rfl, hb1, hb2, ha, ha0, ha1, hf, rfl⟩ := hrel
      by_cases hb9 : b ≤ 9999
      · obtain ⟨a1, hst⟩ : ∃ a1, (a + n) % 1000000271 = a1 := ⟨_, rfl⟩
        have ha1' : n * b % 1000000271 = a1 := by rw [← hst, ha, mod_step]
        have hfu : fmtGo n (10000 - b).toNat b = if a1 ≤ 9999 then fracL a1 b else if 999990272 ≤ a1 then fracL (a1 - 1000000271) b else fmtGo n (10000 - (b + 1)).toNat (b + 1) := by
          rw [show (10000 - b).toNat = (10000 - (b + 1)).toNat + 1 by omega, fmtGo, ha1']
        have g0 : 0 ≤ a1 := by omega
        have g1 : a1 ≤ 1000000270 := by omega
        have hst2 := hst
        by_cases c1 : a1 ≤ 9999
        · rw [if_pos c1] at hfu
          obtain ⟨s, hs⟩ : ∃ s, s = ByteArray.mk (decL a1.toNat).toArray := ⟨_, rfl⟩
          obtain ⟨x, hx⟩ : ∃ x, x = ByteArray.mk ([] ++ decL a1.toNat).toArray := ⟨_, rfl⟩
          have hml := decL_len a1.toNat 3 (by omega)
          have hc1 : ∀ w : World, (Op.stringOp .add (ByteArray.mk #[]) s).run Tryz.prog w = .ok (.string x) w := fun w => by
            rw [hs, hx]
            exact cat_run [] (decL a1.toNat) (by simp; omega) w
          have hdz : decZ a1 = [] ++ decL a1.toNat := by rw [decZ_pos (by omega)]; rfl
          have D1 := Lib.hid (show Calls Tryz.prog 91 #[.int .i64 a1] w fun e w' => e = .returned (.string s) ∧ w = w' from by
            rw [hs]
            exact decimal_any (n := a1.toNat) (by omega) (by omega) w)
          by_cases hb : b = 1
          · subst hb
            have HR := Lib.hid (show Value.string x = txt (fmtT n) from by rw [HT.out, hf, hfu, fracL, if_pos rfl, hdz, hx]; rfl)
            clear hs hx hml hdz hf hfu ha hst ha1'
            go_wp2_with fail
            refine D1.out.mono ?_
            rintro e w' ⟨rfl, rfl⟩
            go_wp2
            go_ret
            exact ⟨ret_eq HR.out, rfl⟩
          · obtain ⟨y, hy⟩ : ∃ y, y = ByteArray.mk ([] ++ decL a1.toNat ++ [47]).toArray := ⟨_, rfl⟩
            obtain ⟨s2, hs2⟩ : ∃ s, s = ByteArray.mk (decL b.toNat).toArray := ⟨_, rfl⟩
            obtain ⟨u, hu⟩ : ∃ u, u = ByteArray.mk ([] ++ decL a1.toNat ++ [47] ++ decL b.toNat).toArray := ⟨_, rfl⟩
            have hbl := decL_len b.toNat 3 (by omega)
            have hc2 : ∀ w : World, (Op.stringOp .add x (ByteArray.mk #[47])).run Tryz.prog w = .ok (.string y) w := fun w => by
              rw [hx, hy]
              exact cat_run ([] ++ decL a1.toNat) [47] (by simp; omega) w
            have hc3 : ∀ w : World, (Op.stringOp .add y s2).run Tryz.prog w = .ok (.string u) w := fun w => by
              rw [hy, hs2, hu]
              exact cat_run ([] ++ decL a1.toNat ++ [47]) (decL b.toNat) (by simp; omega) w
            have D2 := Lib.hid (show Calls Tryz.prog 91 #[.int .i64 b] w fun e w' => e = .returned (.string s2) ∧ w = w' from by
              rw [hs2]
              exact decimal_any (n := b.toNat) (by omega) (by omega) w)
            have HR := Lib.hid (show Value.string u = txt (fmtT n) from by rw [HT.out, hf, hfu, fracL, if_neg hb, hdz, hu, decZ_pos (z := b) (by omega)]; simp [txt])
            have hb9 : (b == 1) = false := by simpa using hb
            clear hs hx hml hdz hf hfu ha hy hs2 hu hbl hb hst
            go_wp2_with fail
            refine D1.out.mono ?_
            rintro e w' ⟨rfl, rfl⟩
            go_wp2_with fail
            refine D2.out.mono ?_
            rintro e w' ⟨rfl, rfl⟩
            go_wp2
            go_ret
            exact ⟨ret_eq HR.out, rfl⟩
        · rw [if_neg c1] at hfu
          by_cases c2 : 999990272 ≤ a1
          · rw [if_pos c2] at hfu
            obtain ⟨s, hs⟩ : ∃ s, s = ByteArray.mk (decL (1000000271 - a1).toNat).toArray := ⟨_, rfl⟩
            obtain ⟨x, hx⟩ : ∃ x, x = ByteArray.mk ([45] ++ decL (1000000271 - a1).toNat).toArray := ⟨_, rfl⟩
            have hml := decL_len (1000000271 - a1).toNat 3 (by omega)
            have hc1 : ∀ w : World, (Op.stringOp .add (ByteArray.mk #[45]) s).run Tryz.prog w = .ok (.string x) w := fun w => by
              rw [hs, hx]
              exact cat_run [45] (decL (1000000271 - a1).toNat) (by simp; omega) w
            have hdz : decZ (a1 - 1000000271) = [45] ++ decL (1000000271 - a1).toNat := by rw [decZ_neg (by omega), show (-(a1 - 1000000271)).toNat = (1000000271 - a1).toNat by omega]; rfl
            have D1 := Lib.hid (show Calls Tryz.prog 91 #[.int .i64 (1000000271 - a1)] w fun e w' => e = .returned (.string s) ∧ w = w' from by
              rw [hs]
              exact decimal_any (n := (1000000271 - a1).toNat) (by omega) (by omega) w)
            by_cases hb : b = 1
            · subst hb
              have HR := Lib.hid (show Value.string x = txt (fmtT n) from by rw [HT.out, hf, hfu, fracL, if_pos rfl, hdz, hx]; rfl)
              clear hs hx hml hdz hf hfu ha hst ha1'
              go_wp2_with fail
              refine D1.out.mono ?_
              rintro e w' ⟨rfl, rfl⟩
              go_wp2
              go_ret
              exact ⟨ret_eq HR.out, rfl⟩
            · obtain ⟨y, hy⟩ : ∃ y, y = ByteArray.mk ([45] ++ decL (1000000271 - a1).toNat ++ [47]).toArray := ⟨_, rfl⟩
              obtain ⟨s2, hs2⟩ : ∃ s, s = ByteArray.mk (decL b.toNat).toArray := ⟨_, rfl⟩
              obtain ⟨u, hu⟩ : ∃ u, u = ByteArray.mk ([45] ++ decL (1000000271 - a1).toNat ++ [47] ++ decL b.toNat).toArray := ⟨_, rfl⟩
              have hbl := decL_len b.toNat 3 (by omega)
              have hc2 : ∀ w : World, (Op.stringOp .add x (ByteArray.mk #[47])).run Tryz.prog w = .ok (.string y) w := fun w => by
                rw [hx, hy]
                exact cat_run ([45] ++ decL (1000000271 - a1).toNat) [47] (by simp; omega) w
              have hc3 : ∀ w : World, (Op.stringOp .add y s2).run Tryz.prog w = .ok (.string u) w := fun w => by
                rw [hy, hs2, hu]
                exact cat_run ([45] ++ decL (1000000271 - a1).toNat ++ [47]) (decL b.toNat) (by simp; omega) w
              have D2 := Lib.hid (show Calls Tryz.prog 91 #[.int .i64 b] w fun e w' => e = .returned (.string s2) ∧ w = w' from by
                rw [hs2]
                exact decimal_any (n := b.toNat) (by omega) (by omega) w)
              have HR := Lib.hid (show Value.string u = txt (fmtT n) from by rw [HT.out, hf, hfu, fracL, if_neg hb, hdz, hu, decZ_pos (z := b) (by omega)]; simp [txt])
              have hb9 : (b == 1) = false := by simpa using hb
              clear hs hx hml hdz hf hfu ha hy hs2 hu hbl hb hst
              go_wp2_with fail
              refine D1.out.mono ?_
              rintro e w' ⟨rfl, rfl⟩
              go_wp2_with fail
              refine D2.out.mono ?_
              rintro e w' ⟨rfl, rfl⟩
              go_wp2
              go_ret
              exact ⟨ret_eq HR.out, rfl⟩
          · rw [if_neg c2] at hfu
            have HF := Lib.hid (hf.trans hfu)
            have HA := Lib.hid (show a1 = n * (b + 1 - 1) % 1000000271 from by rw [← ha1']; congr 2; omega)
            clear hf hfu ha ha1' hst
            go_wp2
            go_roundw
            case rel => exact ⟨(a + n) % 1000000271, b + 1, rfl, rfl, by omega, by omega, hst2.trans HA.out, by omega, by omega, HF.out, by first | trivial | rfl⟩
            case measure => (simp [intOf]; omega)
      · obtain rfl : b = 10000 := by omega
        have hml := decL_len n.toNat 9 (by omega)
        obtain ⟨s, hs⟩ : ∃ s, s = ByteArray.mk (decL n.toNat).toArray := ⟨_, rfl⟩
        obtain ⟨x, hx⟩ : ∃ x, x = ByteArray.mk (35 :: decL n.toNat).toArray := ⟨_, rfl⟩
        have hc1 : ∀ w : World, (Op.stringOp .add (ByteArray.mk #[35]) s).run Tryz.prog w = .ok (.string x) w := fun w => by
          rw [hs, hx]
          exact cat_run [35] (decL n.toNat) (by simp; omega) w
        have D1 := Lib.hid (show Calls Tryz.prog 91 #[.int .i64 n] w fun e w' => e = .returned (.string s) ∧ w = w' from by
          rw [hs]
          exact decimal_any (n := n.toNat) (by omega) (by omega) w)
        have HR := Lib.hid (show Value.string x = txt (fmtT n) from by rw [HT.out, hf, show ((10000 : Int) - 10000).toNat = 0 by omega, fmtGo, decZ_pos hn0, hx]; rfl)
        clear hs hx hml hf ha
        go_wp2_with fail
        refine D1.out.mono ?_
        rintro e w' ⟨rfl, rfl⟩
        go_wp2
        go_ret
        exact ⟨ret_eq HR.out, rfl⟩

end Go.Proofs.YtbcjhpgkodeoeaaGreatDoor

/- Fields as texts, in plain lists; rows of texts. Conditions: none. -/
namespace Go.Proofs.YtbcjhpgkodeoeaaGreatDoor
open Go.RowKit Go.Sort

/-- A row of texts of the call's own. -/
structure RowT (w wr : World) (v : Value) (xs : List (List UInt8)) (n : Nat) : Prop where
  len : xs.length = n
  shape : ∃ g cap, v = .slice (some ⟨g, 0, none⟩) n cap ∧ w.heap.size ≤ g
  row : wr.ownsRow 0 9 1 v n (xs.map txt)
  below : Below w.heap.size w wr
theorem RowT.new (w : World) : RowT w (w.alloc (.cells #[] 9)) (.slice (some ⟨w.heap.size, 0, none⟩) 0 0) [] 0 :=
  ⟨rfl, ⟨_, _, rfl, Nat.le_refl _⟩, by simpa using World.ownsRow_lit (base := 0) (e := 9) (size := 1) w #[] 0 (Nat.zero_le _) (Nat.zero_le _) rfl, (Below.refl _ _).alloc (Nat.le_refl _) _⟩
theorem RowT.step {w wr wq : World} {v : Value} {xs : List (List UInt8)} {n : Nat} (h : RowT w wr v xs n) (hb : Below wr.heap.size wr wq) : RowT w wq v xs n :=
  ⟨h.len, h.shape, ownsRow_only h.row (Only.of_below (fp := []) hb) (by simp), h.below.trans (hb.mono h.below.size)⟩
theorem RowT.push {w wr wa wb : World} {xs : List (List UInt8)} {n g g2 cap capn : Nat} {y : List UInt8} (h : RowT w wr (.slice (some ⟨g, 0, none⟩) n cap) xs n) (hb : Below wr.heap.size wr wa)
    (hown : wb.ownsRow 0 9 1 (.slice (some ⟨g2, 0, none⟩) (n + 1) capn) (n + 1) (xs.map txt ++ [txt y])) (hgrow : wa.grownBy wb (some g)) (hat : g = g2 ∨ wr.heap.size ≤ g2) :
    RowT w wb (.slice (some ⟨g2, 0, none⟩) (n + 1) capn) (xs ++ [y]) (n + 1) := by
  obtain ⟨g', cap', hv, hg⟩ := h.shape
  simp only [Value.slice.injEq, Option.some.injEq, Addr.mk.injEq, and_true, true_and] at hv
  obtain ⟨rfl, rfl⟩ := hv
  have hbs := h.below.size
  have hs := hb.size
  refine ⟨by rw [List.length_append, h.len]; rfl, ⟨g2, capn, rfl, ?_⟩, by simpa using hown, (h.below.trans (hb.mono hbs)).grown hgrow (by omega) (fun b hb' => by simp at hb'; omega)⟩
  rcases hat with rfl | hat
  · exact hg
  · omega
end Go.Proofs.YtbcjhpgkodeoeaaGreatDoor

/- Numbers read from texts, in plain lists: both ways of reading answer alike. Conditions: none. -/
namespace Go.Proofs.YtbcjhpgkodeoeaaGreatDoor
open Go.RowKit Go.Sort

def isDig (b : UInt8) : Bool := decide (48 ≤ b.toNat ∧ b.toNat ≤ 57)
/-- Digits read on from a number; -1 for another text. -/
def digGo : Int → List UInt8 → Int
  | n, [] => n
  | n, b :: l => if isDig b = true then digGo (10 * n + ((b.toNat : Int) - 48)) l else -1
def digI (l : List UInt8) : Int := if l.length = 0 ∨ 10 < l.length ∨ (1 < l.length ∧ l[0]? = some 48) then -1 else digGo 0 l

end Go.Proofs.YtbcjhpgkodeoeaaGreatDoor

/- Numbers read from texts, in plain lists: both ways of reading answer alike. Conditions: none. -/
namespace Go.Proofs.YtbcjhpgkodeoeaaGreatDoor
open Go.RowKit Go.Sort

theorem split_miss {s sep : List UInt8} (h : Lib.index s sep = -1) : Lib.split s sep = [s] := by rw [Lib.split, Lib.count_miss h]; rfl
theorem pow_ten {k : Nat} (h : k ≤ 10) : (10 : Int) ^ k ≤ 10000000000 := by
  have h1 : (10 : Nat) ^ k ≤ 10 ^ 10 := Nat.pow_le_pow_right (by decide) h
  have h2 : (10 : Int) ^ k = ((10 ^ k : Nat) : Int) := by simp
  rw [h2]
  omega
/-- What the program reads, or -1. -/
def numI (s : List UInt8) : Int :=
  if Lib.hasPrefix s [35] = true then digI (s.drop 1)
  else if digI (Lib.cut (Lib.trimPrefix s [45]) [47]).1 < 0 ∨ (if (Lib.cut (Lib.trimPrefix s [45]) [47]).2.2 = true then digI (Lib.cut (Lib.trimPrefix s [45]) [47]).2.1 else 1) < 1 then -1
  else if (Lib.trimPrefix s [45]).length < s.length then (-(fracZ (digI (Lib.cut (Lib.trimPrefix s [45]) [47]).1) (if (Lib.cut (Lib.trimPrefix s [45]) [47]).2.2 = true then digI (Lib.cut (Lib.trimPrefix s [45]) [47]).2.1 else 1))) % 1000000271
  else fracZ (digI (Lib.cut (Lib.trimPrefix s [45]) [47]).1) (if (Lib.cut (Lib.trimPrefix s [45]) [47]).2.2 = true then digI (Lib.cut (Lib.trimPrefix s [45]) [47]).2.1 else 1)
def okI (s : List UInt8) : Bool := decide (0 ≤ numI s ∧ fmtT (numI s) = s)
theorem frac_bd (a b : Int) : 0 ≤ fracZ a b ∧ fracZ a b ≤ 1000000270 := timesZ_bd _ _
end Go.Proofs.YtbcjhpgkodeoeaaGreatDoor

/- Digits read: both programs. Conditions: texts of at most a million bytes. -/
namespace Go.Proofs.YtbcjhpgkodeoeaaGreatDoor
open Go.RowKit Go.Sort

theorem str_at {s : ByteArray} {l : List UInt8} (hs : s = ByteArray.mk l.toArray) {i : Nat} {b : UInt8} (hb : l[i]? = some b) : ∃ h : i < s.size, s[i]'h = b := by
  subst hs
  obtain ⟨hi, rfl⟩ := List.getElem?_eq_some_iff.1 hb
  exact ⟨by simpa [ByteArray.size] using hi, by simp [ByteArray.getElem_eq_getElem_data]⟩
theorem str_size {s : ByteArray} {l : List UInt8} (hs : s = ByteArray.mk l.toArray) : s.size = l.length := by subst hs; simp [ByteArray.size]

theorem digGo_step {a : Int} {b : UInt8} {r : List UInt8} {x : Int} (hx : (b.toNat : Int) = x) (h : 48 ≤ x ∧ x ≤ 57) : digGo a (b :: r) = digGo (10 * a + (x - 48)) r := by
  rw [digGo, if_pos (by simp [isDig]; omega), hx]
theorem digGo_stop {a : Int} {b : UInt8} {r : List UInt8} {x : Int} (hx : (b.toNat : Int) = x) (h : ¬ (48 ≤ x ∧ x ≤ 57)) : digGo a (b :: r) = -1 := by
  rw [digGo, if_neg (by simp [isDig]; omega)]
theorem drop_at {l : List UInt8} {i : Nat} {b : UInt8} (h : l[i]? = some b) : l.drop i = b :: l.drop (i + 1) := by
  obtain ⟨hi, rfl⟩ := List.getElem?_eq_some_iff.1 h
  exact List.drop_eq_getElem_cons hi
theorem u8_in {x : Int} (h : 48 ≤ x ∧ x ≤ 57) : IntKind.u8.wrap (x - 48) = x - 48 := by
  unfold IntKind.wrap
  simp [IntKind.bits, IntKind.signed]
  omega
/-- How far digits have been read. -/
structure DigAt (l : List UInt8) (n : Nat) (a : Int) (i : Nat) : Prop where
  eq : digGo 0 l = digGo a (l.drop i)
  lo : 0 ≤ a
  hi : a < 10 ^ i
theorem digAt_zero (l : List UInt8) (n : Nat) : DigAt l n 0 0 := ⟨rfl, by decide, by decide⟩
theorem DigAt.bd {l : List UInt8} {n i : Nat} {a : Int} (h : DigAt l n a i) (hi : i ≤ 10) : a < 10000000000 := by
  have h1 := h.hi
  have h2 := pow_ten hi
  omega
theorem DigAt.next {l : List UInt8} {n i : Nat} {a x : Int} {b : UInt8} (h : DigAt l n a i) (hb : l[i]? = some b) (hx : (b.toNat : Int) = x) (hd : 48 ≤ x ∧ x ≤ 57) : DigAt l n (10 * a + (x - 48)) (i + 1) := by
  refine ⟨by rw [h.eq, drop_at hb, digGo_step hx hd], by have := h.lo; omega, ?_⟩
  have := h.hi
  rw [Int.pow_succ]
  omega

set_option maxRecDepth 100000 in
set_option maxHeartbeats 800000 in
theorem readDec_any (l : List UInt8) (s : ByteArray) (hs : s = ByteArray.mk l.toArray) (w : World) : Calls Tryz.prog 142 #[.string s] w fun e w' => e = .returned (.int .i64 (digI l)) ∧ w = w' := by
  have hsz := str_size hs
  obtain ⟨n, hn⟩ : ∃ n, l.length = n := ⟨_, rfl⟩
  rw [hn] at hsz
  have HS := Lib.hid hs
  have HN := Lib.hid hn
  by_cases h0 : n = 0
  · have HE := Lib.hid (show digI l = -1 from by rw [digI, if_pos (Or.inl (by omega))])
    clear hs hn
    go_enter Tryz.func142, Tryz.ntmps142
    go_wp2
    go_ret
    exact ⟨ret_int HE.out.symm, rfl⟩
  by_cases h10 : 10 < n
  · have HE := Lib.hid (show digI l = -1 from by rw [digI, if_pos (Or.inr (Or.inl (by omega)))])
    clear hs hn
    go_enter Tryz.func142, Tryz.ntmps142
    go_wp2
    go_ret
    exact ⟨ret_int HE.out.symm, rfl⟩
  obtain ⟨c, hc⟩ : ∃ c, l[0]? = some c := ⟨_, List.getElem?_eq_getElem (by omega)⟩
  obtain ⟨y, hy⟩ : ∃ y : Int, (c.toNat : Int) = y := ⟨_, rfl⟩
  obtain ⟨hi0, hs0⟩ := str_at hs hc
  have hyb : (s[0]'hi0).toNat = c.toNat := by rw [hs0]
  by_cases h48 : 1 < n ∧ y = 48
  · have HE := Lib.hid (show digI l = -1 from by
      rw [digI, if_pos (Or.inr (Or.inr ⟨by omega, by rw [hc]; congr 1; exact UInt8.toNat_inj.1 (by have := h48.2; simp; omega)⟩))])
    obtain ⟨h1, h2⟩ := h48
    subst h2
    clear hs hn hc hs0
    go_enter Tryz.func142, Tryz.ntmps142
    go_wp2
    go_ret
    exact ⟨ret_int HE.out.symm, rfl⟩
  · have HE := Lib.hid (show digI l = digGo 0 l from by
      rw [digI, if_neg (fun h => by
        rcases h with h | h | ⟨h1, h2⟩
        · omega
        · omega
        · rw [hc] at h2
          injection h2 with h2
          exact h48 ⟨by omega, by rw [← hy, h2]; rfl⟩)])
    have e0 : ((n : Int) == 0) = false := by simp; omega
    have e10 : ¬ ((10 : Int) < n) := by omega
    by_cases h1 : 1 < n
    · have e1 : (1 : Int) < n := by omega
      have hy48 : (y == 48) = false := by simp; omega
      clear hs hn hc hs0 h48
      go_enter Tryz.func142, Tryz.ntmps142
      go_wp2
      go_loopw [3, 25] (fun sa si wr => ∃ (a : Int) (i : Nat), sa = .int .i64 a ∧ si = .int .i64 i ∧ i ≤ n ∧ DigAt l n a i ∧ w = wr) (fun _ si _ => n - (intOf si).toNat)
      case atStart => exact ⟨0, 0, rfl, rfl, Nat.zero_le _, digAt_zero _ _, rfl⟩
      case round =>
        obtain ⟨wk, rfl⟩ : ∃ W, W = wr := ⟨_, rfl⟩
        obtain ⟨a, i, rfl, rfl, hi, hD, rfl⟩ := hrel
        have hDb := hD.bd (by omega)
        have hD0 := hD.lo
        by_cases hlt : i < n
        case neg =>
          obtain rfl : i = n := by omega
          have HR := Lib.hid (show digGo 0 l = a from by rw [hD.eq, List.drop_of_length_le (by rw [HN.out]; exact Nat.le_refl _)]; rfl)
          clear hD
          go_wp2
          go_ret
          exact ⟨ret_int (HE.out.trans HR.out).symm, rfl⟩
        case pos =>
          obtain ⟨b, hb⟩ : ∃ b, l[i]? = some b := ⟨_, List.getElem?_eq_getElem (by rw [HN.out]; exact hlt)⟩
          obtain ⟨x, hx⟩ : ∃ x : Int, (b.toNat : Int) = x := ⟨_, rfl⟩
          obtain ⟨hi', hsb⟩ := str_at HS.out hb
          have hxb : (s[i]'hi').toNat = b.toNat := by rw [hsb]
          have hx0 : 0 ≤ x := by omega
          have hx2 : x ≤ 255 := by have := b.toNat_lt; omega
          have hiI : (i : Int) < n := by omega
          have hsI : (i : Int) < s.size := by omega
          by_cases hd : 48 ≤ x ∧ x ≤ 57
          · have HD := Lib.hid (hD.next hb hx hd)
            have hu8 := u8_in hd
            obtain ⟨hd1, hd2⟩ := hd
            have hw1 : IntKind.i64.wrap (10 * a) = 10 * a := IntWalk.i64_in _ (by omega)
            have hw2 : IntKind.i64.wrap (10 * a + (x - 48)) = 10 * a + (x - 48) := IntWalk.i64_in _ (by omega)
            have hw3 : IntKind.i64.wrap (x - 48) = x - 48 := IntWalk.i64_in _ (by omega)
            clear hD hb hsb
            go_wp2
            go_roundw
            case rel => exact ⟨10 * a + (x - 48), i + 1, rfl, by go_num, by omega, HD.out, by first | trivial | rfl⟩
            case measure => (simp [intOf]; try omega)
          · have HX := Lib.hid (show digGo 0 l = -1 from by rw [hD.eq, drop_at hb, digGo_stop hx hd])
            by_cases hd1 : x < 48
            · clear hD hb hsb hd
              go_wp2
              go_ret
              exact ⟨ret_int (HE.out.trans HX.out).symm, rfl⟩
            · have hd2 : 57 < x := by omega
              clear hD hb hsb hd
              go_wp2
              go_ret
              exact ⟨ret_int (HE.out.trans HX.out).symm, rfl⟩
    · have e1 : ¬ ((1 : Int) < n) := by omega
      clear hs hn hc hs0 h48
      go_enter Tryz.func142, Tryz.ntmps142
      go_wp2
      go_loopw [3, 25] (fun sa si wr => ∃ (a : Int) (i : Nat), sa = .int .i64 a ∧ si = .int .i64 i ∧ i ≤ n ∧ DigAt l n a i ∧ w = wr) (fun _ si _ => n - (intOf si).toNat)
      case atStart => exact ⟨0, 0, rfl, rfl, Nat.zero_le _, digAt_zero _ _, rfl⟩
      case round =>
        obtain ⟨wk, rfl⟩ : ∃ W, W = wr := ⟨_, rfl⟩
        obtain ⟨a, i, rfl, rfl, hi, hD, rfl⟩ := hrel
        have hDb := hD.bd (by omega)
        have hD0 := hD.lo
        by_cases hlt : i < n
        case neg =>
          obtain rfl : i = n := by omega
          have HR := Lib.hid (show digGo 0 l = a from by rw [hD.eq, List.drop_of_length_le (by rw [HN.out]; exact Nat.le_refl _)]; rfl)
          clear hD
          go_wp2
          go_ret
          exact ⟨ret_int (HE.out.trans HR.out).symm, rfl⟩
        case pos =>
          obtain ⟨b, hb⟩ : ∃ b, l[i]? = some b := ⟨_, List.getElem?_eq_getElem (by rw [HN.out]; exact hlt)⟩
          obtain ⟨x, hx⟩ : ∃ x : Int, (b.toNat : Int) = x := ⟨_, rfl⟩
          obtain ⟨hi', hsb⟩ := str_at HS.out hb
          have hxb : (s[i]'hi').toNat = b.toNat := by rw [hsb]
          have hx0 : 0 ≤ x := by omega
          have hx2 : x ≤ 255 := by have := b.toNat_lt; omega
          have hiI : (i : Int) < n := by omega
          have hsI : (i : Int) < s.size := by omega
          by_cases hd : 48 ≤ x ∧ x ≤ 57
          · have HD := Lib.hid (hD.next hb hx hd)
            have hu8 := u8_in hd
            obtain ⟨hd1, hd2⟩ := hd
            have hw1 : IntKind.i64.wrap (10 * a) = 10 * a := IntWalk.i64_in _ (by omega)
            have hw2 : IntKind.i64.wrap (10 * a + (x - 48)) = 10 * a + (x - 48) := IntWalk.i64_in _ (by omega)
            have hw3 : IntKind.i64.wrap (x - 48) = x - 48 := IntWalk.i64_in _ (by omega)
            clear hD hb hsb
            go_wp2
            go_roundw
            case rel => exact ⟨10 * a + (x - 48), i + 1, rfl, by go_num, by omega, HD.out, by first | trivial | rfl⟩
            case measure => (simp [intOf]; try omega)
          · have HX := Lib.hid (show digGo 0 l = -1 from by rw [hD.eq, drop_at hb, digGo_stop hx hd])
            by_cases hd1 : x < 48
            · clear hD hb hsb hd
              go_wp2
              go_ret
              exact ⟨ret_int (HE.out.trans HX.out).symm, rfl⟩
            · have hd2 : 57 < x := by omega
              clear hD hb hsb hd
              go_wp2
              go_ret
              exact ⟨ret_int (HE.out.trans HX.out).symm, rfl⟩
end Go.Proofs.YtbcjhpgkodeoeaaGreatDoor

/- Texts cut at signs: the reference. Conditions: texts of at most a million bytes. -/
namespace Go.Proofs.YtbcjhpgkodeoeaaGreatDoor
open Go.RowKit Go.Sort

/-- How far a text has been cut. -/
structure CutAt (l sep : List UInt8) (i from_ : Nat) (O : List (List UInt8)) : Prop where
  eq : Lib.split l sep = O ++ Lib.split (l.drop from_) sep
  no : ∀ j, from_ ≤ j → j < i → Lib.occAt l sep j = false
theorem occ_drop (l sep : List UInt8) (a j : Nat) : Lib.occAt (l.drop a) sep j = Lib.occAt l sep (a + j) := by
  unfold Lib.occAt
  rw [List.drop_drop]
theorem CutAt.done {l sep : List UInt8} {i f : Nat} {O : List (List UInt8)} (h : CutAt l sep i f O) (hs : sep ≠ []) (hi : l.length < i + sep.length) : Lib.split l sep = O ++ [l.drop f] := by
  have hx : Lib.index (l.drop f) sep = -1 := by
    refine Lib.index_none fun j hj => ?_
    rw [occ_drop]
    by_cases hji : f + j < i
    · exact h.no _ (by omega) hji
    · cases ho : Lib.occAt l sep (f + j) with
      | false => rfl
      | true =>
        rcases Lib.occAt_room ho with h1 | h1
        · omega
        · exact absurd h1 hs
  rw [h.eq, split_miss hx]
theorem str_cut {s : ByteArray} {l : List UInt8} (hs : s = ByteArray.mk l.toArray) (a b : Nat) : Value.string (s.extract a b) = txt ((l.drop a).take (b - a)) := by
  have h : (s.extract a b).data.toList = (l.drop a).take (b - a) := by
    rw [Lib.extract_data, hs]
  unfold txt
  congr 1
  apply ByteArray.ext
  rw [← h]
theorem split_len (l sep : List UInt8) : (Lib.split l sep).length ≤ l.length + 2 := by
  have h1 : ∀ (k : Nat) (s : List UInt8), (Lib.splitK sep 0 k s).length ≤ k + 1 := by
    intro k
    induction k with
    | zero => intro s; simp [Lib.splitK]
    | succ k ih =>
      intro s
      unfold Lib.splitK
      split
      · simp
      · have := ih (s.drop ((Lib.index s sep).toNat + sep.length))
        simp only [List.length_cons]; omega
  have h2 := Lib.count_le l sep
  have h3 := h1 (Lib.count l sep) l
  unfold Lib.split
  omega
theorem CutAt.len {l sep : List UInt8} {i f : Nat} {O : List (List UInt8)} (h : CutAt l sep i f O) : O.length ≤ l.length + 2 := by
  have h1 := split_len l sep
  rw [h.eq, List.length_append] at h1
  omega
/-- What cutting leaves: a new row of texts. -/
def Words (w : World) (xs : List (List UInt8)) : Ending → World → Prop := fun e w' => ∃ g cap n, e = .returned (.slice (some ⟨g, 0, none⟩) n cap) ∧ RowT w w' (.slice (some ⟨g, 0, none⟩) n cap) xs n

end Go.Proofs.YtbcjhpgkodeoeaaGreatDoor

/- Numbers read from texts: both programs. Conditions: texts of at most a million bytes. -/
namespace Go.Proofs.YtbcjhpgkodeoeaaGreatDoor
open Go.RowKit Go.Sort

/-- The number read, or 0. -/
def numV (l : List UInt8) : Int := if okI l = true then numI l else 0
theorem numV_no {l : List UInt8} (h : okI l = false) : okI l = false ∧ numV l = 0 := ⟨h, by rw [numV, h]; rfl⟩
theorem fmt_cmp {x s : ByteArray} {n : Int} {l : List UInt8} (hx : txt (fmtT n) = .string x) (hs : s = ByteArray.mk l.toArray) : (x.toList == s.toList) = decide (fmtT n = l) := by
  unfold txt at hx
  injection hx with hx
  rw [← hx, hs, ByteArray.toList_mk, ByteArray.toList_mk, Bool.eq_iff_iff, beq_iff_eq, decide_eq_true_eq]
theorem txt_inj {u : ByteArray} {l : List UInt8} (h : Value.string u = txt l) : u = ByteArray.mk l.toArray := by
  unfold txt at h
  injection h

/-- A word of a row of texts. -/
theorem RowT.at {w wr : World} {g n cap : Nat} {xs : List (List UInt8)} (h : RowT w wr (.slice (some ⟨g, 0, none⟩) n cap) xs n) {i : Nat} {x : List UInt8} {y : ByteArray} (hx : xs[i]? = some x) (hy : y = ByteArray.mk x.toArray) : wr.cell? ⟨g, i, none⟩ = some (.string y) := by
  have hi := (List.getElem?_eq_some_iff.1 hx).1
  have hl := h.len
  rw [h.row.cellAt i (by omega), List.getElem?_map, hx, hy]
  rfl

end Go.Proofs.YtbcjhpgkodeoeaaGreatDoor
