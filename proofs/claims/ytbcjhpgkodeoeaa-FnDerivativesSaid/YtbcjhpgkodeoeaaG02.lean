/- The texts DrwP, Num in one: each says at its head what it proves. Conditions: as said there. -/
import Derived.Test.YtbcjhpgkodeoeaaRows
import Derived.Test.YtbcjhpgkodeoeaaG01
set_option linter.unusedSimpArgs false
set_option linter.unusedVariables false
/- The cursor of the draws: what its block holds, and what a draw may change. No program's step stands here. -/
namespace Go.Proofs.Ytbcjhpgkodeoeaa
open Go.RowKit

theorem mask255 (n : Int) : bits .and .i64 n 255 = n % 256 := by
  have h127 : (BitVec.ofInt 64 255).toNat = 2 ^ 8 - 1 := by decide
  have key : (BitVec.ofInt 64 n &&& BitVec.ofInt 64 255).toNat = (n % ((2 ^ 64 : Nat) : Int)).toNat % 2 ^ 8 := by
    rw [BitVec.toNat_and, BitVec.toNat_ofInt, h127, Nat.and_two_pow_sub_one_eq_mod]
  show IntKind.i64.wrap ((BitVec.ofInt 64 n &&& BitVec.ofInt 64 255).toNat : Nat) = n % 256
  rw [key, IntKind.wrap_i64]
  omega
theorem mask30 (n : Int) : bits .and .i64 n 1073741823 = n % 1073741824 := by
  have h127 : (BitVec.ofInt 64 1073741823).toNat = 2 ^ 30 - 1 := by decide
  have key : (BitVec.ofInt 64 n &&& BitVec.ofInt 64 1073741823).toNat = (n % ((2 ^ 64 : Nat) : Int)).toNat % 2 ^ 30 := by
    rw [BitVec.toNat_and, BitVec.toNat_ofInt, h127, Nat.and_two_pow_sub_one_eq_mod]
  show IntKind.i64.wrap ((BitVec.ofInt 64 n &&& BitVec.ofInt 64 1073741823).toNat : Nat) = n % 1073741824
  rw [key, IntKind.wrap_i64]
  omega

/-- a byte -/
def ElB (_ : World) (us : List Value) (x : Int) : Prop := us = [.int .u8 x] ∧ 0 ≤ x ∧ x < 256
abbrev RdB := RdS 1 ElB

/-- The cursor in block g: the bytes, the place, the number; B: the worlds' size before it was made. -/
structure Cur (w : World) (g : Nat) : Prop where
  lt : g < w.heap.size
  some : ∃ (w0 : World) (v : Value) (xs : List Int) (i : Nat) (h : Int), w0.heap.size ≤ g ∧ Below w0.heap.size w0 w ∧ RdB w0 v xs ∧ I64 h ∧ i ≤ xs.length ∧
    w.cell? ⟨g, 0, none⟩ = some v ∧ w.cell? ⟨g, 1, none⟩ = some (.int .i64 i) ∧ w.cell? ⟨g, 2, none⟩ = some (.int .i64 h) ∧
    w.frozen? ⟨g, 0, none⟩ = false ∧ w.frozen? ⟨g, 1, none⟩ = false ∧ w.frozen? ⟨g, 2, none⟩ = false
theorem Cur.only {w w' : World} {g : Nat} {fp : List Nat} (h : Cur w g) (ho : Only fp w w') (hd : g ∉ fp) (hf : ∀ b ∈ fp, g ≤ b) : Cur w' g := by
  obtain ⟨hl, w0, v, xs, i, k, h1, h2, h3, h4, h5, h6, h7, h8, f0, f1, f2⟩ := h
  have hfr : ∀ c, w'.frozen? ⟨g, c, none⟩ = w.frozen? ⟨g, c, none⟩ := fun c => World.frozen?_of_block (ho.block _ hl hd)
  exact ⟨Nat.lt_of_lt_of_le hl ho.size, w0, v, xs, i, k, h1, h2.trans (ho.below h2.size (fun b hb => Nat.le_trans h1 (hf b hb))), h3, h4, h5, cell_only ho hd h6, cell_only ho hd h7, cell_only ho hd h8, (hfr 0).trans f0, (hfr 1).trans f1, (hfr 2).trans f2⟩
theorem Cur.below {w w' : World} {g : Nat} (h : Cur w g) (hb : Below w.heap.size w w') : Cur w' g := h.only (fp := []) (Only.of_below hb) (by simp) (by simp)
/-- What a draw changes: the cursor alone. -/
structure Drawn (g : Nat) (w w' : World) : Prop where
  only : Only [g] w w'
  cur : Cur w' g
theorem Drawn.trans {g : Nat} {a b c : World} (h : Drawn g a b) (k : Drawn g b c) : Drawn g a c := ⟨h.only.trans k.only, k.cur⟩
theorem Drawn.refl {g : Nat} {w : World} (h : Cur w g) : Drawn g w w := ⟨Only.refl _ _, h⟩
theorem Drawn.below {g : Nat} {a b c : World} (h : Drawn g a b) (k : Below b.heap.size b c) : Drawn g a c := ⟨h.only.trans (Only.of_below k), h.cur.below k⟩
/-- A number from 0 to n - 1 is drawn. -/
def Draws (g n : Nat) (w : World) : Ending → World → Prop := fun e w' => ∃ x : Nat, e = .returned (.int .i64 x) ∧ x < n ∧ Drawn g w w'
/-- A draw that makes memory. -/
def GivesD (g : Nat) (Own : World → Value → List Nat → Prop) (w : World) : Ending → World → Prop := fun e w' =>
  ∃ v fp, e = .returned v ∧ Own w' v fp ∧ (∀ b ∈ fp, w.heap.size ≤ b) ∧ Drawn g w w'
end Go.Proofs.Ytbcjhpgkodeoeaa

/- The numbers' functions and the tests on lists of numbers: what each returns. Conditions: none. -/
namespace Go.Proofs.Ytbcjhpgkodeoeaa
open Go.RowKit

def Pm : Int := 1000000271

theorem res_bd (n : Int) : -1000000271 < n.tmod 1000000271 ∧ n.tmod 1000000271 < 1000000271 := by
  refine ⟨?_, Int.tmod_lt_of_pos n (by omega)⟩
  rcases Int.le_total 0 n with h | h
  · have := Int.tmod_nonneg 1000000271 h; omega
  · have := Int.neg_tmod (-n) 1000000271
    have h3 := Int.tmod_lt_of_pos (-n) (b := 1000000271) (by omega)
    rw [Int.neg_neg] at this; omega

theorem res_eq (n : Int) : (n.tmod 1000000271 + 1000000271) % 1000000271 = n % 1000000271 := by
  have := Int.tmod_add_mul_tdiv n 1000000271
  omega

/-- 0 ≤ n < the prime. -/
def isNumB (n : Int) : Bool := decide (0 ≤ n ∧ n < 1000000271)
theorem isNumB_yes {n : Int} (h0 : 0 ≤ n) (h1 : n < 1000000271) : isNumB n = true := by simp [isNumB, h0, h1]
theorem isNumB_neg {n : Int} (h0 : n < 0) : isNumB n = false := by simp [isNumB]; omega
theorem isNumB_big {n : Int} (h1 : 1000000271 ≤ n) : isNumB n = false := by simp [isNumB]; omega

set_option maxHeartbeats 400000 in
theorem residue_any (n : Int) (w : World) :
    Calls Try.prog 79 #[.int .i64 n] w fun e w' => e = .returned (.int .i64 (n % 1000000271)) ∧ w = w' := by
  have hb := res_bd n
  have h1 := hb.1
  have h2 := hb.2
  clear hb
  go_enter Try.func79, Try.ntmps79
  go_wp2
  go_ret
  exact ⟨ret_int (res_eq n), rfl⟩

set_option maxHeartbeats 400000 in
theorem isNumber_any (n : Int) (w : World) :
    Calls Try.prog 54 #[.int .i64 n] w fun e w' => e = .returned (.bool (isNumB n)) ∧ w = w' := by
  by_cases h0 : 0 ≤ n
  · by_cases h1 : n < 1000000271
    · go_enter Try.func54, Try.ntmps54
      go_wp2
      go_ret
      exact ⟨ret_bool (by simp [isNumB_yes h0 h1, h1]), rfl⟩
    · go_enter Try.func54, Try.ntmps54
      go_wp2
      go_ret
      exact ⟨ret_bool (by simp [isNumB_big (by omega : 1000000271 ≤ n)]), rfl⟩
  · go_enter Try.func54, Try.ntmps54
    go_wp2
    go_ret
    exact ⟨ret_bool (by simp [isNumB_neg (by omega : n < 0)]), rfl⟩

set_option maxHeartbeats 400000 in
theorem allNumbers_any (v : Value) (xs : List Int) (w : World) (h : RdI w v xs) :
    Calls Try.prog 34 #[v] w fun e w' => e = .returned (.bool (xs.all isNumB)) ∧ w = w' := by
  obtain ⟨ad, len, cap, rfl, hl, hlc, hcm, h'⟩ := rdS_open h
  have hlen := Lib.hid hl
  clear h hl
  go_enter Try.func34, Try.ntmps34
  go_wp2
  go_loop [7] (fun i => ∃ k : Nat, k ≤ len ∧ i = .int .i64 k ∧ (xs.take k).all isNumB = true) (fun i => len - (intOf i).toNat)
  case atStart => exact ⟨0, Nat.zero_le _, rfl, by simp⟩
  case round =>
    obtain ⟨k, hk, rfl, ha⟩ := hrel
    have HA := Lib.hid ha
    clear ha
    by_cases hlt : k < len
    · obtain ⟨b, off, x, rfl, hx, hc, hI, _⟩ := rdI_get h' hlt
      have HX := Lib.hid hx
      clear hx
      cases hp : isNumB x
      · have HP := Lib.hid hp
        go_wp2_with (go_at_call 54; refine (isNumber_any _ _).mono ?_; rintro e w' ⟨rfl, rfl⟩)
        go_ret
        exact ⟨ret_bool (all_false HX.out HP.out).symm, rfl⟩
      · have HP := Lib.hid hp
        go_wp2_with (go_at_call 54; refine (isNumber_any _ _).mono ?_; rintro e w' ⟨rfl, rfl⟩)
        go_round
        case rel => exact ⟨k + 1, by omega, by go_num, all_snoc HX.out HA.out HP.out⟩
        case measure => simp [intOf]; omega
    · go_wp2
      go_ret
      exact ⟨ret_bool (all_done (by rw [hlen.out]; omega) HA.out).symm, rfl⟩

def inB (n lo hi : Int) : Bool := decide (lo ≤ n ∧ n ≤ hi)
theorem inB_yes {n lo hi : Int} (h0 : lo ≤ n) (h1 : n ≤ hi) : inB n lo hi = true := by simp [inB, h0, h1]
theorem inB_lo {n lo hi : Int} (h0 : n < lo) : inB n lo hi = false := by simp [inB]; omega
theorem inB_hi {n lo hi : Int} (h1 : hi < n) : inB n lo hi = false := by simp [inB]; omega
theorem inB_num (n : Int) : inB n 0 1000000270 = isNumB n := by
  unfold inB isNumB
  rw [decide_eq_decide]
  omega

set_option maxHeartbeats 400000 in
theorem l1In_any (n lo hi : Int) (w : World) :
    Calls Try.prog 67 #[.int .i64 n, .int .i64 lo, .int .i64 hi] w fun e w' => e = .returned (.bool (inB n lo hi)) ∧ w = w' := by
  by_cases h0 : lo ≤ n
  · by_cases h1 : n ≤ hi
    · go_enter Try.func67, Try.ntmps67
      go_wp2
      go_ret
      exact ⟨ret_bool (by simp [inB_yes h0 h1, h1]), rfl⟩
    · have h2 : hi < n := by omega
      clear h1
      go_enter Try.func67, Try.ntmps67
      go_wp2
      go_ret
      exact ⟨ret_bool (by simp [inB_hi h2]; omega), rfl⟩
  · have h2 : n < lo := by omega
    clear h0
    go_enter Try.func67, Try.ntmps67
    go_wp2
    go_ret
    exact ⟨ret_bool (by simp [inB_lo h2]), rfl⟩

set_option maxHeartbeats 400000 in
theorem sIsNumber_any (n : Int) (w : World) :
    Calls Try.prog 74 #[.int .i64 n] w fun e w' => e = .returned (.bool (isNumB n)) ∧ w = w' := by
  go_enter Try.func74, Try.ntmps74
  go_wp2_with (go_at_call 67; ((with_reducible refine (l1In_any _ _ _ _).mono ?_); rintro e w' ⟨rfl, rfl⟩))
  go_ret
  exact ⟨ret_bool (inB_num n), rfl⟩

set_option maxHeartbeats 400000 in
theorem l1All_any (v : Value) (xs : List Int) (w : World) (h : RdI w v xs) :
    Calls Try.prog 58 #[v] w fun e w' => e = .returned (.bool (xs.all isNumB)) ∧ w = w' := by
  obtain ⟨ad, len, cap, rfl, hl, hlc, hcm, h'⟩ := rdS_open h
  have hlen := Lib.hid hl
  clear h hl
  go_enter Try.func58, Try.ntmps58
  go_wp2
  go_loop [3] (fun i => ∃ k : Nat, k ≤ len ∧ i = .int .i64 k ∧ (xs.take k).all isNumB = true) (fun i => len - (intOf i).toNat)
  case atStart => exact ⟨0, Nat.zero_le _, rfl, by simp⟩
  case round =>
    obtain ⟨k, hk, rfl, ha⟩ := hrel
    have HA := Lib.hid ha
    clear ha
    by_cases hlt : k < len
    · obtain ⟨b, off, x, rfl, hx, hc, hI, _⟩ := rdI_get h' hlt
      have HX := Lib.hid hx
      clear hx
      cases hp : isNumB x
      · have HP := Lib.hid hp
        go_wp2_with (go_at_call 74; ((with_reducible refine (sIsNumber_any _ _).mono ?_); rintro e w' ⟨rfl, rfl⟩))
        go_ret
        exact ⟨ret_bool (all_false HX.out HP.out).symm, rfl⟩
      · have HP := Lib.hid hp
        go_wp2_with (go_at_call 74; ((with_reducible refine (sIsNumber_any _ _).mono ?_); rintro e w' ⟨rfl, rfl⟩))
        go_round
        case rel => exact ⟨k + 1, by omega, by go_num, all_snoc HX.out HA.out HP.out⟩
        case measure => simp [intOf]; omega
    · go_wp2
      go_ret
      exact ⟨ret_bool (all_done (by rw [hlen.out]; omega) HA.out).symm, rfl⟩

theorem mod_bd (n : Int) : 0 ≤ n % 1000000271 ∧ n % 1000000271 ≤ 1000000270 := by omega
theorem mul_bd {a b : Int} (ha : 0 ≤ a) (ha' : a ≤ 1000000270) (hb : 0 ≤ b) (hb' : b ≤ 1000000270) : 0 ≤ a * b ∧ a * b ≤ 1000000540000072900 := by
  refine ⟨Int.mul_nonneg ha hb, ?_⟩
  have h1 := Int.mul_le_mul ha' hb' hb (by omega)
  omega

def plusZ (a b : Int) : Int := (a + b) % 1000000271
def minusZ (a b : Int) : Int := (a - b) % 1000000271
def timesZ (a b : Int) : Int := (a * b) % 1000000271
theorem plusZ_eq (a b : Int) : (a % 1000000271 + b % 1000000271) % 1000000271 = plusZ a b := by unfold plusZ; omega
theorem timesZ_eq (a b : Int) : (a % 1000000271 * (b % 1000000271)) % 1000000271 = timesZ a b := by unfold timesZ; rw [← Int.mul_emod]
theorem minusZ_eq (a b : Int) : (a % 1000000271 - b % 1000000271 + 1000000271) % 1000000271 = minusZ a b := by unfold minusZ; omega
theorem plusZ_bd (a b : Int) : 0 ≤ plusZ a b ∧ plusZ a b ≤ 1000000270 := mod_bd _
theorem timesZ_bd (a b : Int) : 0 ≤ timesZ a b ∧ timesZ a b ≤ 1000000270 := mod_bd _
theorem minusZ_bd (a b : Int) : 0 ≤ minusZ a b ∧ minusZ a b ≤ 1000000270 := mod_bd _
theorem i64_of_bd {n : Int} (h : 0 ≤ n ∧ n ≤ 1000000270) : I64 n := ⟨by omega, by omega⟩

set_option maxHeartbeats 400000 in
theorem plus_any (a b : Int) (w : World) : Calls Try.prog 72 #[.int .i64 a, .int .i64 b] w fun e w' => e = .returned (.int .i64 (plusZ a b)) ∧ w = w' := by
  obtain ⟨a0, a1⟩ := mod_bd a
  obtain ⟨b0, b1⟩ := mod_bd b
  go_enter Try.func72, Try.ntmps72
  go_wp2_with (go_at_call 79; ((with_reducible refine (residue_any _ _).mono ?_); rintro e w' ⟨rfl, rfl⟩))
  go_ret
  exact ⟨ret_int (plusZ_eq a b), rfl⟩
set_option maxHeartbeats 400000 in
theorem times_any (a b : Int) (w : World) : Calls Try.prog 73 #[.int .i64 a, .int .i64 b] w fun e w' => e = .returned (.int .i64 (timesZ a b)) ∧ w = w' := by
  obtain ⟨a0, a1⟩ := mod_bd a
  obtain ⟨b0, b1⟩ := mod_bd b
  obtain ⟨m0, m1⟩ := mul_bd a0 a1 b0 b1
  go_enter Try.func73, Try.ntmps73
  go_wp2_with (go_at_call 79; ((with_reducible refine (residue_any _ _).mono ?_); rintro e w' ⟨rfl, rfl⟩))
  go_ret
  exact ⟨ret_int (timesZ_eq a b), rfl⟩
set_option maxHeartbeats 400000 in
theorem sResidue_any (n : Int) (w : World) :
    Calls Try.prog 22 #[.int .i64 n] w fun e w' => e = .returned (.int .i64 (n % 1000000271)) ∧ w = w' := by
  have hb := res_bd n
  have h1 := hb.1
  have h2 := hb.2
  clear hb
  go_enter Try.func22, Try.ntmps22
  go_wp2
  go_ret
  exact ⟨ret_int (res_eq n), rfl⟩
set_option maxHeartbeats 400000 in
theorem sPlus_any (a b : Int) (w : World) : Calls Try.prog 7 #[.int .i64 a, .int .i64 b] w fun e w' => e = .returned (.int .i64 (plusZ a b)) ∧ w = w' := by
  obtain ⟨a0, a1⟩ := mod_bd a
  obtain ⟨b0, b1⟩ := mod_bd b
  go_enter Try.func7, Try.ntmps7
  go_wp2_with (go_at_call 22; ((with_reducible refine (sResidue_any _ _).mono ?_); rintro e w' ⟨rfl, rfl⟩))
  go_ret
  exact ⟨ret_int (plusZ_eq a b), rfl⟩
set_option maxHeartbeats 400000 in
theorem sMinus_any (a b : Int) (w : World) : Calls Try.prog 39 #[.int .i64 a, .int .i64 b] w fun e w' => e = .returned (.int .i64 (minusZ a b)) ∧ w = w' := by
  obtain ⟨a0, a1⟩ := mod_bd a
  obtain ⟨b0, b1⟩ := mod_bd b
  go_enter Try.func39, Try.ntmps39
  go_wp2_with (go_at_call 22; ((with_reducible refine (sResidue_any _ _).mono ?_); rintro e w' ⟨rfl, rfl⟩))
  go_ret
  exact ⟨ret_int rfl, rfl⟩
set_option maxHeartbeats 400000 in
theorem sTimes_any (a b : Int) (w : World) : Calls Try.prog 11 #[.int .i64 a, .int .i64 b] w fun e w' => e = .returned (.int .i64 (timesZ a b)) ∧ w = w' := by
  obtain ⟨a0, a1⟩ := mod_bd a
  obtain ⟨b0, b1⟩ := mod_bd b
  obtain ⟨m0, m1⟩ := mul_bd a0 a1 b0 b1
  go_enter Try.func11, Try.ntmps11
  go_wp2_with (go_at_call 22; ((with_reducible refine (sResidue_any _ _).mono ?_); rintro e w' ⟨rfl, rfl⟩))
  go_ret
  exact ⟨ret_int (timesZ_eq a b), rfl⟩

/-- The power of a number; 0 for negative exponents. -/
def powZ (a k : Int) : Int := if k < 0 then 0 else a ^ k.toNat % 1000000271
theorem powZ_bd (a k : Int) : 0 ≤ powZ a k ∧ powZ a k ≤ 1000000270 := by
  unfold powZ; split
  · omega
  · exact mod_bd _
/-- What the loop of a power keeps: o times y to the k. -/
def PowInv (a k0 o y : Int) (k : Nat) : Prop := o * y ^ k % 1000000271 = powZ a k0
theorem pow_mod (a : Int) (n : Nat) : (a % 1000000271) ^ n % 1000000271 = a ^ n % 1000000271 := by
  induction n with
  | zero => rw [Int.pow_zero, Int.pow_zero]
  | succ n ih => rw [Int.pow_succ, Int.pow_succ, Int.mul_emod, ih, Int.emod_emod, ← Int.mul_emod]
theorem sq_pow (y : Int) (j : Nat) : (y * y) ^ j = y ^ (2 * j) := by
  rw [Int.pow_mul, Int.pow_succ, Int.pow_succ, Int.pow_zero, Int.one_mul]
theorem powInv_start {a k0 : Int} (h : 0 ≤ k0) : PowInv a k0 1 (a % 1000000271) k0.toNat := by
  unfold PowInv powZ
  rw [if_neg (by omega), Int.one_mul, pow_mod]
theorem powInv_odd {a k0 o y : Int} {k : Nat} (h : PowInv a k0 o y k) (hk : k % 2 = 1) : PowInv a k0 (o * y % 1000000271) (y * y % 1000000271) (k / 2) := by
  unfold PowInv at *
  rw [← h, Int.mul_emod, Int.emod_emod, pow_mod, ← Int.mul_emod, sq_pow, Int.mul_assoc]
  congr 1
  rw [show y ^ k = y ^ (2 * (k / 2) + 1) by congr 1; omega, Int.pow_succ, Int.mul_comm (y ^ _) y]
theorem powInv_even {a k0 o y : Int} {k : Nat} (h : PowInv a k0 o y k) (hk : k % 2 = 0) : PowInv a k0 o (y * y % 1000000271) (k / 2) := by
  unfold PowInv at *
  rw [← h, Int.mul_emod, pow_mod, ← Int.mul_emod, sq_pow]
  congr 1
  rw [show y ^ k = y ^ (2 * (k / 2)) by congr 1; omega]
theorem powInv_end {a k0 o y : Int} (h : PowInv a k0 o y 0) (h0 : 0 ≤ o) (h1 : o ≤ 1000000270) : o = powZ a k0 := by
  unfold PowInv at h
  rw [Int.pow_zero, Int.mul_one] at h
  omega

set_option maxHeartbeats 800000 in
theorem sPower_any (a k : Int) (w : World) (hk : k ≤ 9223372036854775807) : Calls Try.prog 60 #[.int .i64 a, .int .i64 k] w fun e w' => e = .returned (.int .i64 (powZ a k)) ∧ w = w' := by
  by_cases h0 : k < 0
  · go_enter Try.func60, Try.ntmps60
    go_wp2
    go_ret
    exact ⟨ret_int (by rw [powZ, if_pos h0]), rfl⟩
  · obtain ⟨n, rfl⟩ : ∃ n : Nat, k = n := ⟨k.toNat, by omega⟩
    obtain ⟨a0, a1⟩ := mod_bd a
    have hst := Lib.hid (powInv_start (a := a) (k0 := (n : Int)) (by omega))
    go_enter Try.func60, Try.ntmps60
    go_wp2_with (go_at_call 22; ((with_reducible refine (sResidue_any _ _).mono ?_); rintro e w' ⟨rfl, rfl⟩))
    go_loop [7, 5, 6] (fun c o x => ∃ (k : Nat) (p y : Int), c = .int .i64 k ∧ o = .int .i64 p ∧ x = .int .i64 y ∧ k ≤ n ∧ 0 ≤ p ∧ p ≤ 1000000270 ∧ 0 ≤ y ∧ y ≤ 1000000270 ∧ PowInv a n p y k) (fun c _ _ => (intOf c).toNat)
    case atStart => exact ⟨n, 1, _, rfl, rfl, rfl, Nat.le_refl _, by omega, by omega, a0, a1, by simpa using hst.out⟩
    case round =>
      obtain ⟨k, p, y, rfl, rfl, rfl, hkn, p0, p1, y0, y1, hinv⟩ := hrel
      have HI := Lib.hid hinv
      obtain ⟨m0, m1⟩ := mul_bd p0 p1 y0 y1
      obtain ⟨q0, q1⟩ := mul_bd y0 y1 y0 y1
      have hyy := mod_bd (y * y)
      have hpy := mod_bd (p * y)
      clear hinv hst
      by_cases hz : k = 0
      · go_wp2
        go_ret
        subst hz
        exact ⟨ret_int (powInv_end HI.out p0 p1), rfl⟩
      · by_cases hodd : k % 2 = 1
        · have hb : ((k : Int) % 2 == 1) = true := by simp; omega
          go_wp2_with (go_at_call 11; ((with_reducible refine (sTimes_any _ _ _).mono ?_); rintro e w' ⟨rfl, rfl⟩))
          go_round
          case rel => exact ⟨k / 2, _, _, by go_num, rfl, rfl, by omega, hpy.1, hpy.2, hyy.1, hyy.2, powInv_odd HI.out hodd⟩
          case measure => simp [intOf]; omega
        · have hb : ((k : Int) % 2 == 1) = false := by simp; omega
          go_wp2_with (go_at_call 11; ((with_reducible refine (sTimes_any _ _ _).mono ?_); rintro e w' ⟨rfl, rfl⟩))
          go_round
          case rel => exact ⟨k / 2, _, _, by go_num, rfl, rfl, by omega, p0, p1, hyy.1, hyy.2, powInv_even HI.out (by omega)⟩
          case measure => simp [intOf]; omega

def atZ (l : List Int) (i : Nat) : Int := l[i]?.getD 0
theorem atZ_get {l : List Int} {i : Nat} {x : Int} (h : l[i]? = some x) : atZ l i = x := by simp [atZ, h]
def dimB (dim : Int) : Bool := decide (1 ≤ dim ∧ dim ≤ 6)
set_option maxHeartbeats 400000 in
theorem isDim_any (n : Int) (w : World) :
    Calls Try.prog 52 #[.int .i64 n] w fun e w' => e = .returned (.bool (dimB n)) ∧ w = w' := by
  by_cases h0 : 1 ≤ n
  · by_cases h1 : n ≤ 6
    · go_enter Try.func52, Try.ntmps52
      go_wp2
      go_ret
      exact ⟨ret_bool (by simp [dimB, h0, h1]), rfl⟩
    · go_enter Try.func52, Try.ntmps52
      go_wp2
      go_ret
      exact ⟨ret_bool (by simp [dimB]; omega), rfl⟩
  · go_enter Try.func52, Try.ntmps52
    go_wp2
    go_ret
    exact ⟨ret_bool (by simp [dimB]; omega), rfl⟩
theorem isDim_eq {n : Int} {b : Bool} (h : dimB n = b) (w : World) :
    Calls Try.prog 52 #[.int .i64 n] w fun e w' => e = .returned (.bool b) ∧ w = w' := h ▸ isDim_any n w

end Go.Proofs.Ytbcjhpgkodeoeaa
