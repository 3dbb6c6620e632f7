/- The texts Num, Frac, Mem, Mon, Fld in one: each says at its head what it proves. Conditions: as said there. -/
import Derived.Test.YtbcjhpgkodeoeaaGreatDoorRows
import Derived.Test.YtbcjhpgkodeoeaaGreatDoorN01
set_option linter.unusedSimpArgs false
set_option linter.unusedVariables false
/- The numbers' functions and the tests on lists of numbers: what each returns. Conditions: none. -/
namespace Go.Proofs.YtbcjhpgkodeoeaaGreatDoor
open Go.RowKit

theorem res_bd (n : Int) : -1000000271 < n.tmod 1000000271 ∧ n.tmod 1000000271 < 1000000271 := by
  refine ⟨?_, Int.tmod_lt_of_pos n (by omega)⟩
  rcases Int.le_total 0 n with h | h
  · have := Int.tmod_nonneg 1000000271 h; omega
  · have := Int.neg_tmod (-n) 1000000271
    have h3 := Int.tmod_lt_of_pos (-n) (b := 1000000271) (by omega)
    rw [Int.neg_neg] at this; omega

theorem res_eq (n : Int) : (n.tmod 1000000271 + 1000000271) % 1000000271 = n % 1000000271 := by
  have := Int.tmod_add_mul_tdiv n 1000000271
  omega

/-- 0 ≤ n < the prime. -/
def isNumB (n : Int) : Bool := decide (0 ≤ n ∧ n < 1000000271)
theorem isNumB_yes {n : Int} (h0 : 0 ≤ n) (h1 : n < 1000000271) : isNumB n = true := by simp [isNumB, h0, h1]
theorem isNumB_neg {n : Int} (h0 : n < 0) : isNumB n = false := by simp [isNumB]; omega
theorem isNumB_big {n : Int} (h1 : 1000000271 ≤ n) : isNumB n = false := by simp [isNumB]; omega

set_option maxHeartbeats 400000 in
theorem residue_any (n : Int) (w : World) :
    Calls Tryz.prog 84 #[.int .i64 n] w fun e w' => e = .returned (.int .i64 (n % 1000000271)) ∧ w = w' := by
  have hb := res_bd n
  have h1 := hb.1
  have h2 := hb.2
  clear hb
  go_enter Tryz.func84, Tryz.ntmps84
  go_wp2
  go_ret
  exact ⟨ret_int (res_eq n), rfl⟩

set_option maxHeartbeats 400000 in
theorem isNumber_any (n : Int) (w : World) :
    Calls Tryz.prog 106 #[.int .i64 n] w fun e w' => e = .returned (.bool (isNumB n)) ∧ w = w' := by
  by_cases h0 : 0 ≤ n
  · by_cases h1 : n < 1000000271
    · go_enter Tryz.func106, Tryz.ntmps106
      go_wp2
      go_ret
      exact ⟨ret_bool (by simp [isNumB_yes h0 h1, h1]), rfl⟩
    · go_enter Tryz.func106, Tryz.ntmps106
      go_wp2
      go_ret
      exact ⟨ret_bool (by simp [isNumB_big (by omega : 1000000271 ≤ n)]), rfl⟩
  · go_enter Tryz.func106, Tryz.ntmps106
    go_wp2
    go_ret
    exact ⟨ret_bool (by simp [isNumB_neg (by omega : n < 0)]), rfl⟩

set_option maxHeartbeats 400000 in
theorem allNumbers_any (v : Value) (xs : List Int) (w : World) (h : RdI w v xs) :
    Calls Tryz.prog 116 #[v] w fun e w' => e = .returned (.bool (xs.all isNumB)) ∧ w = w' := by
  obtain ⟨ad, len, cap, rfl, hl, hlc, hcm, h'⟩ := rdS_open h
  have hlen := Lib.hid hl
  clear h hl
  go_enter Tryz.func116, Tryz.ntmps116
  go_wp2
  go_loop [7] (fun i => ∃ k : Nat, k ≤ len ∧ i = .int .i64 k ∧ (xs.take k).all isNumB = true) (fun i => len - (intOf i).toNat)
  case atStart => exact ⟨0, Nat.zero_le _, rfl, by simp⟩
  case round =>
    obtain ⟨k, hk, rfl, ha⟩ := hrel
    have HA := Lib.hid ha
    clear ha
    by_cases hlt : k < len
    · obtain ⟨b, off, x, rfl, hx, hc, hI, _⟩ := rdI_get h' hlt
      have HX := Lib.hid hx
      clear hx
      cases hp : isNumB x
      · have HP := Lib.hid hp
        go_wp2_with (go_at_call 106; refine (isNumber_any _ _).mono ?_; rintro e w' ⟨rfl, rfl⟩)
        go_ret
        exact ⟨ret_bool (all_false HX.out HP.out).symm, rfl⟩
      · have HP := Lib.hid hp
        go_wp2_with (go_at_call 106; refine (isNumber_any _ _).mono ?_; rintro e w' ⟨rfl, rfl⟩)
        go_round
        case rel => exact ⟨k + 1, by omega, by go_num, all_snoc HX.out HA.out HP.out⟩
        case measure => simp [intOf]; omega
    · go_wp2
      go_ret
      exact ⟨ret_bool (all_done (by rw [hlen.out]; omega) HA.out).symm, rfl⟩

def inB (n lo hi : Int) : Bool := decide (lo ≤ n ∧ n ≤ hi)
theorem inB_yes {n lo hi : Int} (h0 : lo ≤ n) (h1 : n ≤ hi) : inB n lo hi = true := by simp [inB, h0, h1]
theorem inB_lo {n lo hi : Int} (h0 : n < lo) : inB n lo hi = false := by simp [inB]; omega
theorem inB_hi {n lo hi : Int} (h1 : hi < n) : inB n lo hi = false := by simp [inB]; omega
theorem inB_num (n : Int) : inB n 0 1000000270 = isNumB n := by
  unfold inB isNumB
  rw [decide_eq_decide]
  omega

set_option maxHeartbeats 400000 in
theorem l1In_any (n lo hi : Int) (w : World) :
    Calls Tryz.prog 131 #[.int .i64 n, .int .i64 lo, .int .i64 hi] w fun e w' => e = .returned (.bool (inB n lo hi)) ∧ w = w' := by
  by_cases h0 : lo ≤ n
  · by_cases h1 : n ≤ hi
    · go_enter Tryz.func131, Tryz.ntmps131
      go_wp2
      go_ret
      exact ⟨ret_bool (by simp [inB_yes h0 h1, h1]), rfl⟩
    · have h2 : hi < n := by omega
      clear h1
      go_enter Tryz.func131, Tryz.ntmps131
      go_wp2
      go_ret
      exact ⟨ret_bool (by simp [inB_hi h2]; omega), rfl⟩
  · have h2 : n < lo := by omega
    clear h0
    go_enter Tryz.func131, Tryz.ntmps131
    go_wp2
    go_ret
    exact ⟨ret_bool (by simp [inB_lo h2]), rfl⟩

set_option maxHeartbeats 400000 in
theorem sIsNumber_any (n : Int) (w : World) :
    Calls Tryz.prog 132 #[.int .i64 n] w fun e w' => e = .returned (.bool (isNumB n)) ∧ w = w' := by
  go_enter Tryz.func132, Tryz.ntmps132
  go_wp2_with (go_at_call 131; ((with_reducible refine (l1In_any _ _ _ _).mono ?_); rintro e w' ⟨rfl, rfl⟩))
  go_ret
  exact ⟨ret_bool (inB_num n), rfl⟩

theorem mod_bd (n : Int) : 0 ≤ n % 1000000271 ∧ n % 1000000271 ≤ 1000000270 := by omega
theorem mul_bd {a b : Int} (ha : 0 ≤ a) (ha' : a ≤ 1000000270) (hb : 0 ≤ b) (hb' : b ≤ 1000000270) : 0 ≤ a * b ∧ a * b ≤ 1000000540000072900 := by
  refine ⟨Int.mul_nonneg ha hb, ?_⟩
  have h1 := Int.mul_le_mul ha' hb' hb (by omega)
  omega

def plusZ (a b : Int) : Int := (a + b) % 1000000271
def minusZ (a b : Int) : Int := (a - b) % 1000000271
def timesZ (a b : Int) : Int := (a * b) % 1000000271
theorem plusZ_eq (a b : Int) : (a % 1000000271 + b % 1000000271) % 1000000271 = plusZ a b := by unfold plusZ; omega
theorem timesZ_eq (a b : Int) : (a % 1000000271 * (b % 1000000271)) % 1000000271 = timesZ a b := by unfold timesZ; rw [← Int.mul_emod]
theorem minusZ_eq (a b : Int) : (a % 1000000271 - b % 1000000271 + 1000000271) % 1000000271 = minusZ a b := by unfold minusZ; omega
theorem plusZ_bd (a b : Int) : 0 ≤ plusZ a b ∧ plusZ a b ≤ 1000000270 := mod_bd _
theorem timesZ_bd (a b : Int) : 0 ≤ timesZ a b ∧ timesZ a b ≤ 1000000270 := mod_bd _
theorem minusZ_bd (a b : Int) : 0 ≤ minusZ a b ∧ minusZ a b ≤ 1000000270 := mod_bd _
theorem i64_of_bd {n : Int} (h : 0 ≤ n ∧ n ≤ 1000000270) : I64 n := ⟨by omega, by omega⟩

set_option maxHeartbeats 400000 in
theorem plus_any (a b : Int) (w : World) : Calls Tryz.prog 96 #[.int .i64 a, .int .i64 b] w fun e w' => e = .returned (.int .i64 (plusZ a b)) ∧ w = w' := by
  obtain ⟨a0, a1⟩ := mod_bd a
  obtain ⟨b0, b1⟩ := mod_bd b
  go_enter Tryz.func96, Tryz.ntmps96
  go_wp2_with (go_at_call 84; ((with_reducible refine (residue_any _ _).mono ?_); rintro e w' ⟨rfl, rfl⟩))
  go_ret
  exact ⟨ret_int (plusZ_eq a b), rfl⟩
set_option maxHeartbeats 400000 in
theorem minus_any (a b : Int) (w : World) : Calls Tryz.prog 123 #[.int .i64 a, .int .i64 b] w fun e w' => e = .returned (.int .i64 (minusZ a b)) ∧ w = w' := by
  obtain ⟨a0, a1⟩ := mod_bd a
  obtain ⟨b0, b1⟩ := mod_bd b
  go_enter Tryz.func123, Tryz.ntmps123
  go_wp2_with (go_at_call 84; ((with_reducible refine (residue_any _ _).mono ?_); rintro e w' ⟨rfl, rfl⟩))
  go_ret
  exact ⟨ret_int (minusZ_eq a b), rfl⟩
set_option maxHeartbeats 400000 in
theorem times_any (a b : Int) (w : World) : Calls Tryz.prog 66 #[.int .i64 a, .int .i64 b] w fun e w' => e = .returned (.int .i64 (timesZ a b)) ∧ w = w' := by
  obtain ⟨a0, a1⟩ := mod_bd a
  obtain ⟨b0, b1⟩ := mod_bd b
  obtain ⟨m0, m1⟩ := mul_bd a0 a1 b0 b1
  go_enter Tryz.func66, Tryz.ntmps66
  go_wp2_with (go_at_call 84; ((with_reducible refine (residue_any _ _).mono ?_); rintro e w' ⟨rfl, rfl⟩))
  go_ret
  exact ⟨ret_int (timesZ_eq a b), rfl⟩
set_option maxHeartbeats 400000 in
theorem sResidue_any (n : Int) (w : World) :
    Calls Tryz.prog 82 #[.int .i64 n] w fun e w' => e = .returned (.int .i64 (n % 1000000271)) ∧ w = w' := by
  have hb := res_bd n
  have h1 := hb.1
  have h2 := hb.2
  clear hb
  go_enter Tryz.func82, Tryz.ntmps82
  go_wp2
  go_ret
  exact ⟨ret_int (res_eq n), rfl⟩
set_option maxHeartbeats 400000 in
theorem sPlus_any (a b : Int) (w : World) : Calls Tryz.prog 22 #[.int .i64 a, .int .i64 b] w fun e w' => e = .returned (.int .i64 (plusZ a b)) ∧ w = w' := by
  obtain ⟨a0, a1⟩ := mod_bd a
  obtain ⟨b0, b1⟩ := mod_bd b
  go_enter Tryz.func22, Tryz.ntmps22
  go_wp2_with (go_at_call 82; ((with_reducible refine (sResidue_any _ _).mono ?_); rintro e w' ⟨rfl, rfl⟩))
  go_ret
  exact ⟨ret_int (plusZ_eq a b), rfl⟩
set_option maxHeartbeats 400000 in
theorem sMinus_any (a b : Int) (w : World) : Calls Tryz.prog 26 #[.int .i64 a, .int .i64 b] w fun e w' => e = .returned (.int .i64 (minusZ a b)) ∧ w = w' := by
  obtain ⟨a0, a1⟩ := mod_bd a
  obtain ⟨b0, b1⟩ := mod_bd b
  go_enter Tryz.func26, Tryz.ntmps26
  go_wp2_with (go_at_call 82; ((with_reducible refine (sResidue_any _ _).mono ?_); rintro e w' ⟨rfl, rfl⟩))
  go_ret
  exact ⟨ret_int rfl, rfl⟩
set_option maxHeartbeats 400000 in
theorem sTimes_any (a b : Int) (w : World) : Calls Tryz.prog 23 #[.int .i64 a, .int .i64 b] w fun e w' => e = .returned (.int .i64 (timesZ a b)) ∧ w = w' := by
  obtain ⟨a0, a1⟩ := mod_bd a
  obtain ⟨b0, b1⟩ := mod_bd b
  obtain ⟨m0, m1⟩ := mul_bd a0 a1 b0 b1
  go_enter Tryz.func23, Tryz.ntmps23
  go_wp2_with (go_at_call 82; ((with_reducible refine (sResidue_any _ _).mono ?_); rintro e w' ⟨rfl, rfl⟩))
  go_ret
  exact ⟨ret_int (timesZ_eq a b), rfl⟩

/-- The power of a number; 0 for negative exponents. -/
def powZ (a k : Int) : Int := if k < 0 then 0 else a ^ k.toNat % 1000000271
theorem powZ_bd (a k : Int) : 0 ≤ powZ a k ∧ powZ a k ≤ 1000000270 := by
  unfold powZ; split
  · omega
  · exact mod_bd _
/-- What the loop of a power keeps: o times y to the k. -/
def PowInv (a k0 o y : Int) (k : Nat) : Prop := o * y ^ k % 1000000271 = powZ a k0
theorem pow_mod (a : Int) (n : Nat) : (a % 1000000271) ^ n % 1000000271 = a ^ n % 1000000271 := by
  induction n with
  | zero => rw [Int.pow_zero, Int.pow_zero]
  | succ n ih => rw [Int.pow_succ, Int.pow_succ, Int.mul_emod, ih, Int.emod_emod, ← Int.mul_emod]
theorem sq_pow (y : Int) (j : Nat) : (y * y) ^ j = y ^ (2 * j) := by
  rw [Int.pow_mul, Int.pow_succ, Int.pow_succ, Int.pow_zero, Int.one_mul]
theorem powInv_start {a k0 : Int} (h : 0 ≤ k0) : PowInv a k0 1 (a % 1000000271) k0.toNat := by
  unfold PowInv powZ
  rw [if_neg (by omega), Int.one_mul, pow_mod]
theorem powInv_odd {a k0 o y : Int} {k : Nat} (h : PowInv a k0 o y k) (hk : k % 2 = 1) : PowInv a k0 (o * y % 1000000271) (y * y % 1000000271) (k / 2) := by
  unfold PowInv at *
  rw [← h, Int.mul_emod, Int.emod_emod, pow_mod, ← Int.mul_emod, sq_pow, Int.mul_assoc]
  congr 1
  rw [show y ^ k = y ^ (2 * (k / 2) + 1) by congr 1; omega, Int.pow_succ, Int.mul_comm (y ^ _) y]
theorem powInv_even {a k0 o y : Int} {k : Nat} (h : PowInv a k0 o y k) (hk : k % 2 = 0) : PowInv a k0 o (y * y % 1000000271) (k / 2) := by
  unfold PowInv at *
  rw [← h, Int.mul_emod, pow_mod, ← Int.mul_emod, sq_pow]
  congr 1
  rw [show y ^ k = y ^ (2 * (k / 2)) by congr 1; omega]
theorem powInv_end {a k0 o y : Int} (h : PowInv a k0 o y 0) (h0 : 0 ≤ o) (h1 : o ≤ 1000000270) : o = powZ a k0 := by
  unfold PowInv at h
  rw [Int.pow_zero, Int.mul_one] at h
  omega

set_option maxHeartbeats 800000 in
theorem power_any (a k : Int) (w : World) (hk : k ≤ 9223372036854775807) : Calls Tryz.prog 97 #[.int .i64 a, .int .i64 k] w fun e w' => e = .returned (.int .i64 (powZ a k)) ∧ w = w' := by
  by_cases h0 : k < 0
  · go_enter Tryz.func97, Tryz.ntmps97
    go_wp2
    go_ret
    exact ⟨ret_int (by rw [powZ, if_pos h0]), rfl⟩
  · obtain ⟨n, rfl⟩ : ∃ n : Nat, k = n := ⟨k.toNat, by omega⟩
    obtain ⟨a0, a1⟩ := mod_bd a
    have hst := Lib.hid (powInv_start (a := a) (k0 := (n : Int)) (by omega))
    go_enter Tryz.func97, Tryz.ntmps97
    go_wp2_with (go_at_call 84; ((with_reducible refine (residue_any _ _).mono ?_); rintro e w' ⟨rfl, rfl⟩))
    go_loop [1, 5, 6] (fun c o x => ∃ (k : Nat) (p y : Int), c = .int .i64 k ∧ o = .int .i64 p ∧ x = .int .i64 y ∧ k ≤ n ∧ 0 ≤ p ∧ p ≤ 1000000270 ∧ 0 ≤ y ∧ y ≤ 1000000270 ∧ PowInv a n p y k) (fun c _ _ => (intOf c).toNat)
    case atStart => exact ⟨n, 1, _, rfl, rfl, rfl, Nat.le_refl _, by omega, by omega, a0, a1, by simpa using hst.out⟩
    case round =>
      obtain ⟨k, p, y, rfl, rfl, rfl, hkn, p0, p1, y0, y1, hinv⟩ := hrel
      have HI := Lib.hid hinv
      obtain ⟨m0, m1⟩ := mul_bd p0 p1 y0 y1
      obtain ⟨q0, q1⟩ := mul_bd y0 y1 y0 y1
      have hyy := mod_bd (y * y)
      have hpy := mod_bd (p * y)
      clear hinv hst
      by_cases hz : k = 0
      · go_wp2
        go_ret
        subst hz
        exact ⟨ret_int (powInv_end HI.out p0 p1), rfl⟩
      · by_cases hodd : k % 2 = 1
        · have hb : ((k : Int) % 2 == 1) = true := by simp; omega
          go_wp2
          go_round
          case rel => exact ⟨k / 2, _, _, by go_num, rfl, rfl, by omega, hpy.1, hpy.2, hyy.1, hyy.2, powInv_odd HI.out hodd⟩
          case measure => simp [intOf]; omega
        · have hb : ((k : Int) % 2 == 1) = false := by simp; omega
          go_wp2
          go_round
          case rel => exact ⟨k / 2, _, _, by go_num, rfl, rfl, by omega, p0, p1, hyy.1, hyy.2, powInv_even HI.out (by omega)⟩
          case measure => simp [intOf]; omega
set_option maxHeartbeats 800000 in
theorem sPower_any (a k : Int) (w : World) (hk : k ≤ 9223372036854775807) : Calls Tryz.prog 34 #[.int .i64 a, .int .i64 k] w fun e w' => e = .returned (.int .i64 (powZ a k)) ∧ w = w' := by
  by_cases h0 : k < 0
  · go_enter Tryz.func34, Tryz.ntmps34
    go_wp2
    go_ret
    exact ⟨ret_int (by rw [powZ, if_pos h0]), rfl⟩
  · obtain ⟨n, rfl⟩ : ∃ n : Nat, k = n := ⟨k.toNat, by omega⟩
    obtain ⟨a0, a1⟩ := mod_bd a
    have hst := Lib.hid (powInv_start (a := a) (k0 := (n : Int)) (by omega))
    go_enter Tryz.func34, Tryz.ntmps34
    go_wp2_with (go_at_call 82; ((with_reducible refine (sResidue_any _ _).mono ?_); rintro e w' ⟨rfl, rfl⟩))
    go_loop [7, 5, 6] (fun c o x => ∃ (k : Nat) (p y : Int), c = .int .i64 k ∧ o = .int .i64 p ∧ x = .int .i64 y ∧ k ≤ n ∧ 0 ≤ p ∧ p ≤ 1000000270 ∧ 0 ≤ y ∧ y ≤ 1000000270 ∧ PowInv a n p y k) (fun c _ _ => (intOf c).toNat)
    case atStart => exact ⟨n, 1, _, rfl, rfl, rfl, Nat.le_refl _, by omega, by omega, a0, a1, by simpa using hst.out⟩
    case round =>
      obtain ⟨k, p, y, rfl, rfl, rfl, hkn, p0, p1, y0, y1, hinv⟩ := hrel
      have HI := Lib.hid hinv
      obtain ⟨m0, m1⟩ := mul_bd p0 p1 y0 y1
      obtain ⟨q0, q1⟩ := mul_bd y0 y1 y0 y1
      have hyy := mod_bd (y * y)
      have hpy := mod_bd (p * y)
      clear hinv hst
      by_cases hz : k = 0
      · go_wp2
        go_ret
        subst hz
        exact ⟨ret_int (powInv_end HI.out p0 p1), rfl⟩
      · by_cases hodd : k % 2 = 1
        · have hb : ((k : Int) % 2 == 1) = true := by simp; omega
          go_wp2_with (go_at_call 23; ((with_reducible refine (sTimes_any _ _ _).mono ?_); rintro e w' ⟨rfl, rfl⟩))
          go_round
          case rel => exact ⟨k / 2, _, _, by go_num, rfl, rfl, by omega, hpy.1, hpy.2, hyy.1, hyy.2, powInv_odd HI.out hodd⟩
          case measure => simp [intOf]; omega
        · have hb : ((k : Int) % 2 == 1) = false := by simp; omega
          go_wp2_with (go_at_call 23; ((with_reducible refine (sTimes_any _ _ _).mono ?_); rintro e w' ⟨rfl, rfl⟩))
          go_round
          case rel => exact ⟨k / 2, _, _, by go_num, rfl, rfl, by omega, p0, p1, hyy.1, hyy.2, powInv_even HI.out (by omega)⟩
          case measure => simp [intOf]; omega

def atZ (l : List Int) (i : Nat) : Int := l[i]?.getD 0
theorem atZ_get {l : List Int} {i : Nat} {x : Int} (h : l[i]? = some x) : atZ l i = x := by simp [atZ, h]
def dimB (dim : Int) : Bool := decide (1 ≤ dim ∧ dim ≤ 6)
set_option maxHeartbeats 400000 in
theorem isDim_any (n : Int) (w : World) :
    Calls Tryz.prog 88 #[.int .i64 n] w fun e w' => e = .returned (.bool (dimB n)) ∧ w = w' := by
  by_cases h0 : 1 ≤ n
  · by_cases h1 : n ≤ 6
    · go_enter Tryz.func88, Tryz.ntmps88
      go_wp2
      go_ret
      exact ⟨ret_bool (by simp [dimB, h0, h1]), rfl⟩
    · go_enter Tryz.func88, Tryz.ntmps88
      go_wp2
      go_ret
      exact ⟨ret_bool (by simp [dimB]; omega), rfl⟩
  · go_enter Tryz.func88, Tryz.ntmps88
    go_wp2
    go_ret
    exact ⟨ret_bool (by simp [dimB]; omega), rfl⟩
theorem isDim_eq {n : Int} {b : Bool} (h : dimB n = b) (w : World) :
    Calls Tryz.prog 88 #[.int .i64 n] w fun e w' => e = .returned (.bool b) ∧ w = w' := h ▸ isDim_any n w

end Go.Proofs.YtbcjhpgkodeoeaaGreatDoor

/- Fractions of numbers: both programs. Conditions: none. -/
namespace Go.Proofs.YtbcjhpgkodeoeaaGreatDoor
open Go.RowKit

def fracZ (a b : Int) : Int := timesZ a (powZ b 1000000269)
theorem fracZ_bd (a b : Int) : 0 ≤ fracZ a b ∧ fracZ a b ≤ 1000000270 := timesZ_bd _ _
theorem inverse_any (a : Int) (w : World) : Calls Tryz.prog 127 #[.int .i64 a] w fun e w' => e = .returned (.int .i64 (powZ a 1000000269)) ∧ w = w' := by
  go_enter Tryz.func127, Tryz.ntmps127
  go_wp2_with (go_at_call 97; ((with_reducible refine (power_any _ _ _ (by omega)).mono ?_); rintro e w' ⟨rfl, rfl⟩))
  go_ret
  exact ⟨rfl, rfl⟩
theorem fraction_any (a b : Int) (w : World) : Calls Tryz.prog 65 #[.int .i64 a, .int .i64 b] w fun e w' => e = .returned (.int .i64 (fracZ a b)) ∧ w = w' := by
  go_enter Tryz.func65, Tryz.ntmps65
  go_wp2_with (first | (go_at_call 127; ((with_reducible refine (inverse_any _ _).mono ?_); rintro e w' ⟨rfl, rfl⟩)) | (go_at_call 66; ((with_reducible refine (times_any _ _ _).mono ?_); rintro e w' ⟨rfl, rfl⟩)))
  go_ret
  exact ⟨rfl, rfl⟩
theorem sInverse_any (a : Int) (w : World) : Calls Tryz.prog 129 #[.int .i64 a] w fun e w' => e = .returned (.int .i64 (powZ a 1000000269)) ∧ w = w' := by
  go_enter Tryz.func129, Tryz.ntmps129
  go_wp2_with (go_at_call 34; ((with_reducible refine (sPower_any _ _ _ (by omega)).mono ?_); rintro e w' ⟨rfl, rfl⟩))
  go_ret
  exact ⟨rfl, rfl⟩
theorem sFraction_any (a b : Int) (w : World) : Calls Tryz.prog 75 #[.int .i64 a, .int .i64 b] w fun e w' => e = .returned (.int .i64 (fracZ a b)) ∧ w = w' := by
  go_enter Tryz.func75, Tryz.ntmps75
  go_wp2_with (first | (go_at_call 129; ((with_reducible refine (sInverse_any _ _).mono ?_); rintro e w' ⟨rfl, rfl⟩)) | (go_at_call 23; ((with_reducible refine (sTimes_any _ _ _).mono ?_); rintro e w' ⟨rfl, rfl⟩)))
  go_ret
  exact ⟨rfl, rfl⟩
end Go.Proofs.YtbcjhpgkodeoeaaGreatDoor

/- The copying, comparing, marking of slices of ints: what each call returns and does to memory. Conditions: none. -/
namespace Go.Proofs.YtbcjhpgkodeoeaaGreatDoor
open Go.RowKit

theorem Tryz.info_int : (Tryz.prog.info? 3).map (fun i => (i.zero, i.size, i.bytes)) = some (some (.int .i64 0), 1, 8) := by kernel_rfl
theorem Tryz.info_ints : (Tryz.prog.info? 35).map (fun i => (i.zero, i.size, i.bytes)) = some (some (.slice none 0 0), 1, 24) := by kernel_rfl

theorem ownI_nodup {e : Nat} {w : World} {v : Value} {xs : List Int} {fp : List Nat} (h : OwnI e w v xs fp) : fp.Nodup := by
  rw [h.2.1]
  cases v.ownBlock <;> simp

/-- The value of an owned slice: its shape, and its block where it is not empty. -/
theorem row_open {w : World} {B e size n : Nat} {v : Value} {cs : List Value} (h : w.ownsRow B e size v n cs) :
    ∃ ad cap, v = .slice ad n cap ∧ n ≤ cap ∧ cap ≤ 9223372036854775807 ∧ (0 < n → ∃ g, ad = some ⟨g, 0, none⟩) := by
  obtain ⟨_, ⟨rfl, h2⟩ | ⟨g, cap, cur, rfl, _, _, h4, h5, _⟩⟩ := h
  · exact ⟨none, 0, by rw [h2], by omega, by omega, fun hp => by omega⟩
  · exact ⟨_, cap, rfl, h4, h5, fun _ => ⟨g, rfl⟩⟩

end Go.Proofs.YtbcjhpgkodeoeaaGreatDoor

/- Monomials and slices of them: readings, what is owned, and the laws' copying, comparing, marking. Conditions: none. -/
namespace Go.Proofs.YtbcjhpgkodeoeaaGreatDoor
open Go.RowKit Go.Sort

/-- A monomial: its number and its powers. -/
structure MonZ where
  coef : Int
  pows : List Int
deriving Inhabited

def ElMon (w : World) (us : List Value) (m : MonZ) : Prop := ∃ vP, us = [.int .i64 m.coef, vP] ∧ I64 m.coef ∧ RdI w vP m.pows
def OElMon (e : Nat) (w : World) (us : List Value) (m : MonZ) (fp : List Nat) : Prop := ∃ vP, us = [.int .i64 m.coef, vP] ∧ I64 m.coef ∧ OwnI e w vP m.pows fp
/-- []Monomial -/
abbrev RdMs := RdS 2 ElMon
def OwnMs (e2 e : Nat) : World → Value → List MonZ → List Nat → Prop := OwnS e2 2 (OElMon e)

theorem elMon_mono {w w' : World} {us : List Value} {m : MonZ} (hb : Below w.heap.size w w') (h : ElMon w us m) : ElMon w' us m := by
  obtain ⟨vP, rfl, hI, h⟩ := h
  exact ⟨vP, rfl, hI, rdI_mono hb h⟩
theorem rdMs_mono {w w' : World} {v : Value} {xs : List MonZ} (hb : Below w.heap.size w w') (h : RdMs w v xs) : RdMs w' v xs := rdS_mono (fun _ _ h => elMon_mono hb h) hb h
theorem oelMon_only {e : Nat} {w w' : World} {us : List Value} {x : MonZ} {fp fp' : List Nat} (h : OElMon e w us x fp) (ho : Only fp' w w') (hd : ∀ g ∈ fp, g ∉ fp') : OElMon e w' us x fp := by
  obtain ⟨u, rfl, hI, h⟩ := h
  exact ⟨u, rfl, hI, ownI_only h ho hd⟩
theorem oelMon_lt {e : Nat} {w : World} {us : List Value} {x : MonZ} {fp : List Nat} (h : OElMon e w us x fp) : ∀ g ∈ fp, g < w.heap.size := by
  obtain ⟨u, rfl, hI, h⟩ := h
  exact ownI_lt h
theorem oelMon_rd {e : Nat} {w : World} {us : List Value} {x : MonZ} {fp : List Nat} (h : OElMon e w us x fp) : ElMon w us x := by
  obtain ⟨u, rfl, hI, h⟩ := h
  exact ⟨u, rfl, hI, ownI_rd h⟩
theorem ownMs_rd {e2 e : Nat} {w : World} {v : Value} {xs : List MonZ} {fp : List Nat} (h : OwnMs e2 e w v xs fp) : RdMs w v xs := ownS_rd (fun _ _ _ h => oelMon_rd h) h
theorem ownMs_lt {e2 e : Nat} {w : World} {v : Value} {xs : List MonZ} {fp : List Nat} (h : OwnMs e2 e w v xs fp) : ∀ b ∈ fp, b < w.heap.size := ownS_lt (fun _ _ _ h => oelMon_lt h) h
theorem ownMs_only {e2 e : Nat} {w w' : World} {v : Value} {xs : List MonZ} {fp fp' : List Nat} (h : OwnMs e2 e w v xs fp) (ho : Only fp' w w') (hd : ∀ b ∈ fp, b ∉ fp') : OwnMs e2 e w' v xs fp :=
  ownS_only (fun _ _ _ h hd => oelMon_only h ho hd) h ho hd

theorem rdMs_get {w : World} {ad : Option Addr} {len cap : Nat} {xs : List MonZ} (h : RdMs w (.slice ad len cap) xs)
    {k : Nat} (hk : k < len) : ∃ b off ad' len' cap' x, ad = some ⟨b, off, none⟩ ∧ xs[k]? = some x ∧ w.cell? ⟨b, off + k * 2, none⟩ = some (.int .i64 x.coef) ∧ w.cell? ⟨b, off + k * 2 + 1, none⟩ = some (.slice ad' len' cap') ∧
      I64 x.coef ∧ x.pows.length = len' ∧ len' ≤ cap' ∧ cap' ≤ 9223372036854775807 ∧ RdI w (.slice ad' len' cap') x.pows ∧ b < w.heap.size := by
  obtain ⟨b, off, us, x, h1, h2, h3, h4, u, rfl, hI, h5⟩ := rdS_get h hk
  have c0 := h4 0 _ rfl
  have c1 := h4 1 _ rfl
  simp only [Nat.add_zero] at c0
  obtain ⟨ad', len', cap', rfl, h6, h7, h8, h9⟩ := rdS_open h5
  exact ⟨b, off, ad', len', cap', x, h1, h2, c0, c1, hI, h6, h7, h8, h9, World.block_lt_of_cell? _ _ c0⟩

theorem Tryz.info_mon : (Tryz.prog.info? 56).map (fun i => (i.zero, i.size, i.bytes)) = some (some (.agg #[.int .i64 0, .slice none 0 0]), 2, 32) := by kernel_rfl

def Fit_Mon (m : MonZ) : Prop := m.pows.length ≤ 1048576
end Go.Proofs.YtbcjhpgkodeoeaaGreatDoor

/- Fields: readings, what is owned, and the laws' copying, comparing, marking. Conditions: none. -/
namespace Go.Proofs.YtbcjhpgkodeoeaaGreatDoor
open Go.RowKit Go.Sort

def ElMss (w : World) (us : List Value) (x : List MonZ) : Prop := ∃ u, us = [u] ∧ RdMs w u x
def OElMss (e2 e : Nat) (w : World) (us : List Value) (x : List MonZ) (fp : List Nat) : Prop := ∃ u, us = [u] ∧ OwnMs e2 e w u x fp
/-- [][]Monomial -/
abbrev RdMss := RdS 1 ElMss
def OwnMss (e1 e2 e : Nat) : World → Value → List (List MonZ) → List Nat → Prop := OwnS e1 1 (OElMss e2 e)

theorem elMss_mono {w w' : World} {us : List Value} {x : List MonZ} (hb : Below w.heap.size w w') (h : ElMss w us x) : ElMss w' us x := by
  obtain ⟨u, rfl, h⟩ := h
  exact ⟨u, rfl, rdMs_mono hb h⟩
theorem rdMss_mono {w w' : World} {v : Value} {xs : List (List MonZ)} (hb : Below w.heap.size w w') (h : RdMss w v xs) : RdMss w' v xs := rdS_mono (fun _ _ h => elMss_mono hb h) hb h
theorem oelMss_only {e2 e : Nat} {w w' : World} {us : List Value} {x : List MonZ} {fp fp' : List Nat} (h : OElMss e2 e w us x fp) (ho : Only fp' w w') (hd : ∀ g ∈ fp, g ∉ fp') : OElMss e2 e w' us x fp := by
  obtain ⟨u, rfl, h⟩ := h
  exact ⟨u, rfl, ownMs_only h ho hd⟩
theorem oelMss_lt {e2 e : Nat} {w : World} {us : List Value} {x : List MonZ} {fp : List Nat} (h : OElMss e2 e w us x fp) : ∀ g ∈ fp, g < w.heap.size := by
  obtain ⟨u, rfl, h⟩ := h
  exact ownMs_lt h
theorem ownMss_rd {e1 e2 e : Nat} {w : World} {v : Value} {xs : List (List MonZ)} {fp : List Nat} (h : OwnMss e1 e2 e w v xs fp) : RdMss w v xs := ownS_rd (fun _ _ _ ⟨u, hu, h⟩ => ⟨u, hu, ownMs_rd h⟩) h
theorem ownMss_lt {e1 e2 e : Nat} {w : World} {v : Value} {xs : List (List MonZ)} {fp : List Nat} (h : OwnMss e1 e2 e w v xs fp) : ∀ b ∈ fp, b < w.heap.size := ownS_lt (fun _ _ _ h => oelMss_lt h) h
theorem ownMss_only {e1 e2 e : Nat} {w w' : World} {v : Value} {xs : List (List MonZ)} {fp fp' : List Nat} (h : OwnMss e1 e2 e w v xs fp) (ho : Only fp' w w') (hd : ∀ b ∈ fp, b ∉ fp') : OwnMss e1 e2 e w' v xs fp :=
  ownS_only (fun _ _ _ h hd => oelMss_only h ho hd) h ho hd
theorem ownMs_nodup {e2 e : Nat} {w : World} {v : Value} {xs : List MonZ} {fp : List Nat} (h : OwnMs e2 e w v xs fp) : fp.Nodup := by
  obtain ⟨_, _, _, _, _, _, h⟩ := h
  exact h
theorem ownMs_open {e2 e : Nat} {w : World} {v : Value} {xs : List MonZ} {fp : List Nat} (h : OwnMs e2 e w v xs fp) : ∃ ad len cap, v = .slice ad len cap := by
  obtain ⟨_, _, h, _⟩ := h
  obtain ⟨ad, cap, rfl, _⟩ := row_open h
  exact ⟨_, _, _, rfl⟩

theorem rdMss_get {w : World} {ad : Option Addr} {len cap : Nat} {xs : List (List MonZ)} (h : RdMss w (.slice ad len cap) xs)
    {k : Nat} (hk : k < len) : ∃ b off ad' len' cap' x, ad = some ⟨b, off, none⟩ ∧ xs[k]? = some x ∧ w.cell? ⟨b, off + k, none⟩ = some (.slice ad' len' cap') ∧
      x.length = len' ∧ len' ≤ cap' ∧ cap' ≤ 9223372036854775807 ∧ RdMs w (.slice ad' len' cap') x ∧ b < w.heap.size := by
  obtain ⟨b, off, us, x, h1, h2, h3, h4, u, rfl, h5⟩ := rdS_get h hk
  have := h4 0 _ rfl
  simp only [Nat.mul_one, Nat.add_zero] at this
  obtain ⟨ad', len', cap', rfl, h6, h7, h8, h9⟩ := rdS_open h5
  exact ⟨b, off, ad', len', cap', x, h1, h2, this, h6, h7, h8, h9, World.block_lt_of_cell? _ _ this⟩

theorem Tryz.info_mons : (Tryz.prog.info? 24).map (fun i => (i.zero, i.size, i.bytes)) = some (some (.slice none 0 0), 1, 24) := by kernel_rfl

/-- A field: its dimension and its polynomials. -/
structure FldZ where
  dim : Int
  parts : List (List MonZ)
deriving Inhabited
def RdFld (w : World) (v : Value) (f : FldZ) : Prop := ∃ vP, v = .agg #[.int .i64 f.dim, vP] ∧ I64 f.dim ∧ RdMss w vP f.parts
def OwnFld (e1 e2 e : Nat) (w : World) (v : Value) (f : FldZ) (fp : List Nat) : Prop := ∃ vP, v = .agg #[.int .i64 f.dim, vP] ∧ I64 f.dim ∧ OwnMss e1 e2 e w vP f.parts fp
theorem rdFld_mono {w w' : World} {v : Value} {f : FldZ} (hb : Below w.heap.size w w') (h : RdFld w v f) : RdFld w' v f := by
  obtain ⟨vP, rfl, hI, h⟩ := h
  exact ⟨vP, rfl, hI, rdMss_mono hb h⟩
theorem rdMss_slice {w : World} {v : Value} {xs : List (List MonZ)} (h : RdMss w v xs) : ∃ ad len cap, v = .slice ad len cap := by
  obtain ⟨ad, len, cap, rfl, _⟩ := rdS_open h
  exact ⟨_, _, _, rfl⟩
theorem ownMss_slice {e1 e2 e : Nat} {w : World} {v : Value} {xs : List (List MonZ)} {fp : List Nat} (h : OwnMss e1 e2 e w v xs fp) : ∃ ad len cap, v = .slice ad len cap := rdMss_slice (ownMss_rd h)

end Go.Proofs.YtbcjhpgkodeoeaaGreatDoor
