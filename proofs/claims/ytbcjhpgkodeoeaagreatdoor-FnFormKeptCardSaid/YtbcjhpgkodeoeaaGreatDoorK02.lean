/- The texts DrwP, Num, Drw in one: each says at its head what it proves. Conditions: as said there. -/
import Derived.Test.YtbcjhpgkodeoeaaGreatDoorRows
import Derived.Test.YtbcjhpgkodeoeaaGreatDoorK01
set_option linter.unusedSimpArgs false
set_option linter.unusedVariables false
/- The cursor of the draws: what its block holds, and what a draw may change. No program's step stands here. -/
namespace Go.Proofs.YtbcjhpgkodeoeaaGreatDoor
open Go.RowKit

theorem mask255 (n : Int) : bits .and .i64 n 255 = n % 256 := by
  have h127 : (BitVec.ofInt 64 255).toNat = 2 ^ 8 - 1 := by decide
  have key : (BitVec.ofInt 64 n &&& BitVec.ofInt 64 255).toNat = (n % ((2 ^ 64 : Nat) : Int)).toNat % 2 ^ 8 := by
    rw [BitVec.toNat_and, BitVec.toNat_ofInt, h127, Nat.and_two_pow_sub_one_eq_mod]
  show IntKind.i64.wrap ((BitVec.ofInt 64 n &&& BitVec.ofInt 64 255).toNat : Nat) = n % 256
  rw [key, IntKind.wrap_i64]
  omega
theorem mask30 (n : Int) : bits .and .i64 n 1073741823 = n % 1073741824 := by
  have h127 : (BitVec.ofInt 64 1073741823).toNat = 2 ^ 30 - 1 := by decide
  have key : (BitVec.ofInt 64 n &&& BitVec.ofInt 64 1073741823).toNat = (n % ((2 ^ 64 : Nat) : Int)).toNat % 2 ^ 30 := by
    rw [BitVec.toNat_and, BitVec.toNat_ofInt, h127, Nat.and_two_pow_sub_one_eq_mod]
  show IntKind.i64.wrap ((BitVec.ofInt 64 n &&& BitVec.ofInt 64 1073741823).toNat : Nat) = n % 1073741824
  rw [key, IntKind.wrap_i64]
  omega

/-- a byte -/
def ElB (_ : World) (us : List Value) (x : Int) : Prop := us = [.int .u8 x] ∧ 0 ≤ x ∧ x < 256
abbrev RdB := RdS 1 ElB

/-- The cursor in block g: the bytes, the place, the number; B: the worlds' size before it was made. -/
structure Cur (w : World) (g : Nat) : Prop where
  lt : g < w.heap.size
  some : ∃ (w0 : World) (v : Value) (xs : List Int) (i : Nat) (h : Int), w0.heap.size ≤ g ∧ Below w0.heap.size w0 w ∧ RdB w0 v xs ∧ I64 h ∧ i ≤ xs.length ∧
    w.cell? ⟨g, 0, none⟩ = some v ∧ w.cell? ⟨g, 1, none⟩ = some (.int .i64 i) ∧ w.cell? ⟨g, 2, none⟩ = some (.int .i64 h) ∧
    w.frozen? ⟨g, 0, none⟩ = false ∧ w.frozen? ⟨g, 1, none⟩ = false ∧ w.frozen? ⟨g, 2, none⟩ = false
theorem Cur.only {w w' : World} {g : Nat} {fp : List Nat} (h : Cur w g) (ho : Only fp w w') (hd : g ∉ fp) (hf : ∀ b ∈ fp, g ≤ b) : Cur w' g := by
  obtain ⟨hl, w0, v, xs, i, k, h1, h2, h3, h4, h5, h6, h7, h8, f0, f1, f2⟩ := h
  have hfr : ∀ c, w'.frozen? ⟨g, c, none⟩ = w.frozen? ⟨g, c, none⟩ := fun c => World.frozen?_of_block (ho.block _ hl hd)
  exact ⟨Nat.lt_of_lt_of_le hl ho.size, w0, v, xs, i, k, h1, h2.trans (ho.below h2.size (fun b hb => Nat.le_trans h1 (hf b hb))), h3, h4, h5, cell_only ho hd h6, cell_only ho hd h7, cell_only ho hd h8, (hfr 0).trans f0, (hfr 1).trans f1, (hfr 2).trans f2⟩
theorem Cur.below {w w' : World} {g : Nat} (h : Cur w g) (hb : Below w.heap.size w w') : Cur w' g := h.only (fp := []) (Only.of_below hb) (by simp) (by simp)
/-- What a draw changes: the cursor alone. -/
structure Drawn (g : Nat) (w w' : World) : Prop where
  only : Only [g] w w'
  cur : Cur w' g
theorem Drawn.trans {g : Nat} {a b c : World} (h : Drawn g a b) (k : Drawn g b c) : Drawn g a c := ⟨h.only.trans k.only, k.cur⟩
theorem Drawn.refl {g : Nat} {w : World} (h : Cur w g) : Drawn g w w := ⟨Only.refl _ _, h⟩
theorem Drawn.below {g : Nat} {a b c : World} (h : Drawn g a b) (k : Below b.heap.size b c) : Drawn g a c := ⟨h.only.trans (Only.of_below k), h.cur.below k⟩
/-- A number from 0 to n - 1 is drawn. -/
def Draws (g n : Nat) (w : World) : Ending → World → Prop := fun e w' => ∃ x : Nat, e = .returned (.int .i64 x) ∧ x < n ∧ Drawn g w w'
end Go.Proofs.YtbcjhpgkodeoeaaGreatDoor

/- The numbers' functions and the tests on lists of numbers: what each returns. Conditions: none. -/
namespace Go.Proofs.YtbcjhpgkodeoeaaGreatDoor
open Go.RowKit

theorem res_bd (n : Int) : -1000000271 < n.tmod 1000000271 ∧ n.tmod 1000000271 < 1000000271 := by
  refine ⟨?_, Int.tmod_lt_of_pos n (by omega)⟩
  rcases Int.le_total 0 n with h | h
  · have := Int.tmod_nonneg 1000000271 h; omega
  · have := Int.neg_tmod (-n) 1000000271
    have h3 := Int.tmod_lt_of_pos (-n) (b := 1000000271) (by omega)
    rw [Int.neg_neg] at this; omega

theorem res_eq (n : Int) : (n.tmod 1000000271 + 1000000271) % 1000000271 = n % 1000000271 := by
  have := Int.tmod_add_mul_tdiv n 1000000271
  omega

/-- 0 ≤ n < the prime. -/
def isNumB (n : Int) : Bool := decide (0 ≤ n ∧ n < 1000000271)
theorem isNumB_yes {n : Int} (h0 : 0 ≤ n) (h1 : n < 1000000271) : isNumB n = true := by simp [isNumB, h0, h1]
theorem isNumB_neg {n : Int} (h0 : n < 0) : isNumB n = false := by simp [isNumB]; omega
theorem isNumB_big {n : Int} (h1 : 1000000271 ≤ n) : isNumB n = false := by simp [isNumB]; omega

set_option maxHeartbeats 400000 in
theorem residue_any (n : Int) (w : World) :
    Calls Tryz.prog 84 #[.int .i64 n] w fun e w' => e = .returned (.int .i64 (n % 1000000271)) ∧ w = w' := by
  have hb := res_bd n
  have h1 := hb.1
  have h2 := hb.2
  clear hb
  go_enter Tryz.func84, Tryz.ntmps84
  go_wp2
  go_ret
  exact ⟨ret_int (res_eq n), rfl⟩

set_option maxHeartbeats 400000 in
theorem isNumber_any (n : Int) (w : World) :
    Calls Tryz.prog 106 #[.int .i64 n] w fun e w' => e = .returned (.bool (isNumB n)) ∧ w = w' := by
  by_cases h0 : 0 ≤ n
  · by_cases h1 : n < 1000000271
    · go_enter Tryz.func106, Tryz.ntmps106
      go_wp2
      go_ret
      exact ⟨ret_bool (by simp [isNumB_yes h0 h1, h1]), rfl⟩
    · go_enter Tryz.func106, Tryz.ntmps106
      go_wp2
      go_ret
      exact ⟨ret_bool (by simp [isNumB_big (by omega : 1000000271 ≤ n)]), rfl⟩
  · go_enter Tryz.func106, Tryz.ntmps106
    go_wp2
    go_ret
    exact ⟨ret_bool (by simp [isNumB_neg (by omega : n < 0)]), rfl⟩

set_option maxHeartbeats 400000 in
theorem allNumbers_any (v : Value) (xs : List Int) (w : World) (h : RdI w v xs) :
    Calls Tryz.prog 116 #[v] w fun e w' => e = .returned (.bool (xs.all isNumB)) ∧ w = w' := by
  obtain ⟨ad, len, cap, rfl, hl, hlc, hcm, h'⟩ := rdS_open h
  have hlen := Lib.hid hl
  clear h hl
  go_enter Tryz.func116, Tryz.ntmps116
  go_wp2
  go_loop [7] (fun i => ∃ k : Nat, k ≤ len ∧ i = .int .i64 k ∧ (xs.take k).all isNumB = true) (fun i => len - (intOf i).toNat)
  case atStart => exact ⟨0, Nat.zero_le _, rfl, by simp⟩
  case round =>
    obtain ⟨k, hk, rfl, ha⟩ := hrel
    have HA := Lib.hid ha
    clear ha
    by_cases hlt : k < len
    · obtain ⟨b, off, x, rfl, hx, hc, hI, _⟩ := rdI_get h' hlt
      have HX := Lib.hid hx
      clear hx
      cases hp : isNumB x
      · have HP := Lib.hid hp
        go_wp2_with (go_at_call 106; refine (isNumber_any _ _).mono ?_; rintro e w' ⟨rfl, rfl⟩)
        go_ret
        exact ⟨ret_bool (all_false HX.out HP.out).symm, rfl⟩
      · have HP := Lib.hid hp
        go_wp2_with (go_at_call 106; refine (isNumber_any _ _).mono ?_; rintro e w' ⟨rfl, rfl⟩)
        go_round
        case rel => exact ⟨k + 1, by omega, by go_num, all_snoc HX.out HA.out HP.out⟩
        case measure => simp [intOf]; omega
    · go_wp2
      go_ret
      exact ⟨ret_bool (all_done (by rw [hlen.out]; omega) HA.out).symm, rfl⟩

def inB (n lo hi : Int) : Bool := decide (lo ≤ n ∧ n ≤ hi)
theorem mod_bd (n : Int) : 0 ≤ n % 1000000271 ∧ n % 1000000271 ≤ 1000000270 := by omega
theorem mul_bd {a b : Int} (ha : 0 ≤ a) (ha' : a ≤ 1000000270) (hb : 0 ≤ b) (hb' : b ≤ 1000000270) : 0 ≤ a * b ∧ a * b ≤ 1000000540000072900 := by
  refine ⟨Int.mul_nonneg ha hb, ?_⟩
  have h1 := Int.mul_le_mul ha' hb' hb (by omega)
  omega

def plusZ (a b : Int) : Int := (a + b) % 1000000271
def minusZ (a b : Int) : Int := (a - b) % 1000000271
def timesZ (a b : Int) : Int := (a * b) % 1000000271
theorem plusZ_eq (a b : Int) : (a % 1000000271 + b % 1000000271) % 1000000271 = plusZ a b := by unfold plusZ; omega
theorem timesZ_eq (a b : Int) : (a % 1000000271 * (b % 1000000271)) % 1000000271 = timesZ a b := by unfold timesZ; rw [← Int.mul_emod]
theorem minusZ_eq (a b : Int) : (a % 1000000271 - b % 1000000271 + 1000000271) % 1000000271 = minusZ a b := by unfold minusZ; omega
theorem plusZ_bd (a b : Int) : 0 ≤ plusZ a b ∧ plusZ a b ≤ 1000000270 := mod_bd _
theorem timesZ_bd (a b : Int) : 0 ≤ timesZ a b ∧ timesZ a b ≤ 1000000270 := mod_bd _
theorem minusZ_bd (a b : Int) : 0 ≤ minusZ a b ∧ minusZ a b ≤ 1000000270 := mod_bd _
theorem i64_of_bd {n : Int} (h : 0 ≤ n ∧ n ≤ 1000000270) : I64 n := ⟨by omega, by omega⟩

set_option maxHeartbeats 400000 in
theorem plus_any (a b : Int) (w : World) : Calls Tryz.prog 96 #[.int .i64 a, .int .i64 b] w fun e w' => e = .returned (.int .i64 (plusZ a b)) ∧ w = w' := by
  obtain ⟨a0, a1⟩ := mod_bd a
  obtain ⟨b0, b1⟩ := mod_bd b
  go_enter Tryz.func96, Tryz.ntmps96
  go_wp2_with (go_at_call 84; ((with_reducible refine (residue_any _ _).mono ?_); rintro e w' ⟨rfl, rfl⟩))
  go_ret
  exact ⟨ret_int (plusZ_eq a b), rfl⟩
set_option maxHeartbeats 400000 in
theorem minus_any (a b : Int) (w : World) : Calls Tryz.prog 123 #[.int .i64 a, .int .i64 b] w fun e w' => e = .returned (.int .i64 (minusZ a b)) ∧ w = w' := by
  obtain ⟨a0, a1⟩ := mod_bd a
  obtain ⟨b0, b1⟩ := mod_bd b
  go_enter Tryz.func123, Tryz.ntmps123
  go_wp2_with (go_at_call 84; ((with_reducible refine (residue_any _ _).mono ?_); rintro e w' ⟨rfl, rfl⟩))
  go_ret
  exact ⟨ret_int (minusZ_eq a b), rfl⟩
set_option maxHeartbeats 400000 in
theorem times_any (a b : Int) (w : World) : Calls Tryz.prog 66 #[.int .i64 a, .int .i64 b] w fun e w' => e = .returned (.int .i64 (timesZ a b)) ∧ w = w' := by
  obtain ⟨a0, a1⟩ := mod_bd a
  obtain ⟨b0, b1⟩ := mod_bd b
  obtain ⟨m0, m1⟩ := mul_bd a0 a1 b0 b1
  go_enter Tryz.func66, Tryz.ntmps66
  go_wp2_with (go_at_call 84; ((with_reducible refine (residue_any _ _).mono ?_); rintro e w' ⟨rfl, rfl⟩))
  go_ret
  exact ⟨ret_int (timesZ_eq a b), rfl⟩
set_option maxHeartbeats 400000 in
theorem sResidue_any (n : Int) (w : World) :
    Calls Tryz.prog 82 #[.int .i64 n] w fun e w' => e = .returned (.int .i64 (n % 1000000271)) ∧ w = w' := by
  have hb := res_bd n
  have h1 := hb.1
  have h2 := hb.2
  clear hb
  go_enter Tryz.func82, Tryz.ntmps82
  go_wp2
  go_ret
  exact ⟨ret_int (res_eq n), rfl⟩
set_option maxHeartbeats 400000 in
theorem sPlus_any (a b : Int) (w : World) : Calls Tryz.prog 22 #[.int .i64 a, .int .i64 b] w fun e w' => e = .returned (.int .i64 (plusZ a b)) ∧ w = w' := by
  obtain ⟨a0, a1⟩ := mod_bd a
  obtain ⟨b0, b1⟩ := mod_bd b
  go_enter Tryz.func22, Tryz.ntmps22
  go_wp2_with (go_at_call 82; ((with_reducible refine (sResidue_any _ _).mono ?_); rintro e w' ⟨rfl, rfl⟩))
  go_ret
  exact ⟨ret_int (plusZ_eq a b), rfl⟩
set_option maxHeartbeats 400000 in
theorem sTimes_any (a b : Int) (w : World) : Calls Tryz.prog 23 #[.int .i64 a, .int .i64 b] w fun e w' => e = .returned (.int .i64 (timesZ a b)) ∧ w = w' := by
  obtain ⟨a0, a1⟩ := mod_bd a
  obtain ⟨b0, b1⟩ := mod_bd b
  obtain ⟨m0, m1⟩ := mul_bd a0 a1 b0 b1
  go_enter Tryz.func23, Tryz.ntmps23
  go_wp2_with (go_at_call 82; ((with_reducible refine (sResidue_any _ _).mono ?_); rintro e w' ⟨rfl, rfl⟩))
  go_ret
  exact ⟨ret_int (timesZ_eq a b), rfl⟩

/-- The power of a number; 0 for negative exponents. -/
def powZ (a k : Int) : Int := if k < 0 then 0 else a ^ k.toNat % 1000000271
theorem powZ_bd (a k : Int) : 0 ≤ powZ a k ∧ powZ a k ≤ 1000000270 := by
  unfold powZ; split
  · omega
  · exact mod_bd _
/-- What the loop of a power keeps: o times y to the k. -/
def PowInv (a k0 o y : Int) (k : Nat) : Prop := o * y ^ k % 1000000271 = powZ a k0
theorem pow_mod (a : Int) (n : Nat) : (a % 1000000271) ^ n % 1000000271 = a ^ n % 1000000271 := by
  induction n with
  | zero => rw [Int.pow_zero, Int.pow_zero]
  | succ n ih => rw [Int.pow_succ, Int.pow_succ, Int.mul_emod, ih, Int.emod_emod, ← Int.mul_emod]
theorem sq_pow (y : Int) (j : Nat) : (y * y) ^ j = y ^ (2 * j) := by
  rw [Int.pow_mul, Int.pow_succ, Int.pow_succ, Int.pow_zero, Int.one_mul]
theorem powInv_start {a k0 : Int} (h : 0 ≤ k0) : PowInv a k0 1 (a % 1000000271) k0.toNat := by
  unfold PowInv powZ
  rw [if_neg (by omega), Int.one_mul, pow_mod]
theorem powInv_odd {a k0 o y : Int} {k : Nat} (h : PowInv a k0 o y k) (hk : k % 2 = 1) : PowInv a k0 (o * y % 1000000271) (y * y % 1000000271) (k / 2) := by
  unfold PowInv at *
  rw [← h, Int.mul_emod, Int.emod_emod, pow_mod, ← Int.mul_emod, sq_pow, Int.mul_assoc]
  congr 1
  rw [show y ^ k = y ^ (2 * (k / 2) + 1) by congr 1; omega, Int.pow_succ, Int.mul_comm (y ^ _) y]
theorem powInv_even {a k0 o y : Int} {k : Nat} (h : PowInv a k0 o y k) (hk : k % 2 = 0) : PowInv a k0 o (y * y % 1000000271) (k / 2) := by
  unfold PowInv at *
  rw [← h, Int.mul_emod, pow_mod, ← Int.mul_emod, sq_pow]
  congr 1
  rw [show y ^ k = y ^ (2 * (k / 2)) by congr 1; omega]
theorem powInv_end {a k0 o y : Int} (h : PowInv a k0 o y 0) (h0 : 0 ≤ o) (h1 : o ≤ 1000000270) : o = powZ a k0 := by
  unfold PowInv at h
  rw [Int.pow_zero, Int.mul_one] at h
  omega

set_option maxHeartbeats 800000 in
theorem power_any (a k : Int) (w : World) (hk : k ≤ 9223372036854775807) : Calls Tryz.prog 97 #[.int .i64 a, .int .i64 k] w fun e w' => e = .returned (.int .i64 (powZ a k)) ∧ w = w' := by
  by_cases h0 : k < 0
  · go_enter Tryz.func97, Tryz.ntmps97
    go_wp2
    go_ret
    exact ⟨ret_int (by rw [powZ, if_pos h0]), rfl⟩
  · obtain ⟨n, rfl⟩ : ∃ n : Nat, k = n := ⟨k.toNat, by omega⟩
    obtain ⟨a0, a1⟩ := mod_bd a
    have hst := Lib.hid (powInv_start (a := a) (k0 := (n : Int)) (by omega))
    go_enter Tryz.func97, Tryz.ntmps97
    go_wp2_with (go_at_call 84; ((with_reducible refine (residue_any _ _).mono ?_); rintro e w' ⟨rfl, rfl⟩))
    go_loop [1, 5, 6] (fun c o x => ∃ (k : Nat) (p y : Int), c = .int .i64 k ∧ o = .int .i64 p ∧ x = .int .i64 y ∧ k ≤ n ∧ 0 ≤ p ∧ p ≤ 1000000270 ∧ 0 ≤ y ∧ y ≤ 1000000270 ∧ PowInv a n p y k) (fun c _ _ => (intOf c).toNat)
    case atStart => exact ⟨n, 1, _, rfl, rfl, rfl, Nat.le_refl _, by omega, by omega, a0, a1, by simpa using hst.out⟩
    case round =>
      obtain ⟨k, p, y, rfl, rfl, rfl, hkn, p0, p1, y0, y1, hinv⟩ := hrel
      have HI := Lib.hid hinv
      obtain ⟨m0, m1⟩ := mul_bd p0 p1 y0 y1
      obtain ⟨q0, q1⟩ := mul_bd y0 y1 y0 y1
      have hyy := mod_bd (y * y)
      have hpy := mod_bd (p * y)
      clear hinv hst
      by_cases hz : k = 0
      · go_wp2
        go_ret
        subst hz
        exact ⟨ret_int (powInv_end HI.out p0 p1), rfl⟩
      · by_cases hodd : k % 2 = 1
        · have hb : ((k : Int) % 2 == 1) = true := by simp; omega
          go_wp2
          go_round
          case rel => exact ⟨k / 2, _, _, by go_num, rfl, rfl, by omega, hpy.1, hpy.2, hyy.1, hyy.2, powInv_odd HI.out hodd⟩
          case measure => simp [intOf]; omega
        · have hb : ((k : Int) % 2 == 1) = false := by simp; omega
          go_wp2
          go_round
          case rel => exact ⟨k / 2, _, _, by go_num, rfl, rfl, by omega, p0, p1, hyy.1, hyy.2, powInv_even HI.out (by omega)⟩
          case measure => simp [intOf]; omega
set_option maxHeartbeats 800000 in
theorem sPower_any (a k : Int) (w : World) (hk : k ≤ 9223372036854775807) : Calls Tryz.prog 34 #[.int .i64 a, .int .i64 k] w fun e w' => e = .returned (.int .i64 (powZ a k)) ∧ w = w' := by
  by_cases h0 : k < 0
  · go_enter Tryz.func34, Tryz.ntmps34
    go_wp2
    go_ret
    exact ⟨ret_int (by rw [powZ, if_pos h0]), rfl⟩
  · obtain ⟨n, rfl⟩ : ∃ n : Nat, k = n := ⟨k.toNat, by omega⟩
    obtain ⟨a0, a1⟩ := mod_bd a
    have hst := Lib.hid (powInv_start (a := a) (k0 := (n : Int)) (by omega))
    go_enter Tryz.func34, Tryz.ntmps34
    go_wp2_with (go_at_call 82; ((with_reducible refine (sResidue_any _ _).mono ?_); rintro e w' ⟨rfl, rfl⟩))
    go_loop [7, 5, 6] (fun c o x => ∃ (k : Nat) (p y : Int), c = .int .i64 k ∧ o = .int .i64 p ∧ x = .int .i64 y ∧ k ≤ n ∧ 0 ≤ p ∧ p ≤ 1000000270 ∧ 0 ≤ y ∧ y ≤ 1000000270 ∧ PowInv a n p y k) (fun c _ _ => (intOf c).toNat)
    case atStart => exact ⟨n, 1, _, rfl, rfl, rfl, Nat.le_refl _, by omega, by omega, a0, a1, by simpa using hst.out⟩
    case round =>
      obtain ⟨k, p, y, rfl, rfl, rfl, hkn, p0, p1, y0, y1, hinv⟩ := hrel
      have HI := Lib.hid hinv
      obtain ⟨m0, m1⟩ := mul_bd p0 p1 y0 y1
      obtain ⟨q0, q1⟩ := mul_bd y0 y1 y0 y1
      have hyy := mod_bd (y * y)
      have hpy := mod_bd (p * y)
      clear hinv hst
      by_cases hz : k = 0
      · go_wp2
        go_ret
        subst hz
        exact ⟨ret_int (powInv_end HI.out p0 p1), rfl⟩
      · by_cases hodd : k % 2 = 1
        · have hb : ((k : Int) % 2 == 1) = true := by simp; omega
          go_wp2_with (go_at_call 23; ((with_reducible refine (sTimes_any _ _ _).mono ?_); rintro e w' ⟨rfl, rfl⟩))
          go_round
          case rel => exact ⟨k / 2, _, _, by go_num, rfl, rfl, by omega, hpy.1, hpy.2, hyy.1, hyy.2, powInv_odd HI.out hodd⟩
          case measure => simp [intOf]; omega
        · have hb : ((k : Int) % 2 == 1) = false := by simp; omega
          go_wp2_with (go_at_call 23; ((with_reducible refine (sTimes_any _ _ _).mono ?_); rintro e w' ⟨rfl, rfl⟩))
          go_round
          case rel => exact ⟨k / 2, _, _, by go_num, rfl, rfl, by omega, p0, p1, hyy.1, hyy.2, powInv_even HI.out (by omega)⟩
          case measure => simp [intOf]; omega

def atZ (l : List Int) (i : Nat) : Int := l[i]?.getD 0
theorem atZ_get {l : List Int} {i : Nat} {x : Int} (h : l[i]? = some x) : atZ l i = x := by simp [atZ, h]
def dimB (dim : Int) : Bool := decide (1 ≤ dim ∧ dim ≤ 6)
set_option maxHeartbeats 400000 in
theorem isDim_any (n : Int) (w : World) :
    Calls Tryz.prog 88 #[.int .i64 n] w fun e w' => e = .returned (.bool (dimB n)) ∧ w = w' := by
  by_cases h0 : 1 ≤ n
  · by_cases h1 : n ≤ 6
    · go_enter Tryz.func88, Tryz.ntmps88
      go_wp2
      go_ret
      exact ⟨ret_bool (by simp [dimB, h0, h1]), rfl⟩
    · go_enter Tryz.func88, Tryz.ntmps88
      go_wp2
      go_ret
      exact ⟨ret_bool (by simp [dimB]; omega), rfl⟩
  · go_enter Tryz.func88, Tryz.ntmps88
    go_wp2
    go_ret
    exact ⟨ret_bool (by simp [dimB]; omega), rfl⟩
theorem isDim_eq {n : Int} {b : Bool} (h : dimB n = b) (w : World) :
    Calls Tryz.prog 88 #[.int .i64 n] w fun e w' => e = .returned (.bool b) ∧ w = w' := h ▸ isDim_any n w

end Go.Proofs.YtbcjhpgkodeoeaaGreatDoor

/- The draws of numbers. Conditions: a cursor. -/
namespace Go.Proofs.YtbcjhpgkodeoeaaGreatDoor
open Go.RowKit

set_option maxHeartbeats 1600000 in
theorem byte_any (g : Nat) (w : World) (hc : Cur w g) : Calls Tryz.prog 103 #[.pointer (some ⟨g, 0, none⟩)] w (Draws g 256 w) := by
  obtain ⟨hl, w0, v, xs, i, h, h1, h2, h3, h4, h5, c0, c1, c2, f0, f1, f2⟩ := hc
  obtain ⟨ad, len, cap, rfl, hlen, hlc, hcm, h3'⟩ := rdS_open h3
  obtain ⟨k1, hk1⟩ : ∃ k, IntKind.i64.wrap (h * 6364136223846793005) = k := ⟨_, rfl⟩
  obtain ⟨k2, hk2⟩ : ∃ k, IntKind.i64.wrap (k1 + 1442695040888963407) = k := ⟨_, rfl⟩
  have hI2 : I64 k2 := by rw [← hk2, IntKind.wrap_i64]; unfold I64; omega
  have HK1 := Lib.hid hk1
  have HK2 := Lib.hid hk2
  go_enter Tryz.func103, Tryz.ntmps103
  go_wp2
  obtain ⟨w1, hw1⟩ : ∃ W, W = w.setCell ⟨g, 2, none⟩ (.int .i64 k2) := ⟨_, rfl⟩
  rw [← hw1]
  have hon : Only [g] w w1 := hw1 ▸ (Only.refl _ _).setCell (by simp) _
  have d0 : w1.cell? ⟨g, 0, none⟩ = some (.slice ad len cap) := by rw [hw1]; exact (World.cell?_setCell_other _ _ _ _ (by simp)).trans c0
  have d1 : w1.cell? ⟨g, 1, none⟩ = some (.int .i64 i) := by rw [hw1]; exact (World.cell?_setCell_other _ _ _ _ (by simp)).trans c1
  have d2 : w1.cell? ⟨g, 2, none⟩ = some (.int .i64 k2) := by rw [hw1]; exact World.cell?_setCell_same _ _ _ c2
  have p0 : w1.frozen? ⟨g, 0, none⟩ = false := by rw [hw1]; simpa using f0
  have p1 : w1.frozen? ⟨g, 1, none⟩ = false := by rw [hw1]; simpa using f1
  have p2 : w1.frozen? ⟨g, 2, none⟩ = false := by rw [hw1]; simpa using f2
  have HON := Lib.hid hon
  clear hw1 hon c0 c1 c2 f0 f1 f2
  go_quiet (fail)
  obtain ⟨x0, hx0, hx0b⟩ : ∃ x : Nat, bits .and .i64 (bits .xor .i64 (k2 / 8589934592) (k2 / 35184372088832)) 255 = (x : Int) ∧ x < 256 := by
    rw [mask255]
    exact ⟨(bits .xor .i64 (k2 / 8589934592) (k2 / 35184372088832) % 256).toNat, by omega, by omega⟩
  rw [hx0]
  clear hx0
  obtain ⟨w2, hw2⟩ : ∃ W, W = w1.drewN nq := ⟨_, rfl⟩
  rw [← hw2]
  have e0 : w2.cell? ⟨g, 0, none⟩ = some (.slice ad len cap) := by rw [hw2]; simpa using d0
  have e1 : w2.cell? ⟨g, 1, none⟩ = some (.int .i64 i) := by rw [hw2]; simpa using d1
  have e2 : w2.cell? ⟨g, 2, none⟩ = some (.int .i64 k2) := by rw [hw2]; simpa using d2
  have o0 : w2.frozen? ⟨g, 0, none⟩ = false := by rw [hw2]; simpa using p0
  have o1 : w2.frozen? ⟨g, 1, none⟩ = false := by rw [hw2]; simpa using p1
  have o2 : w2.frozen? ⟨g, 2, none⟩ = false := by rw [hw2]; simpa using p2
  have hb12 : Below w1.heap.size w1 w2 := hw2 ▸ blw_drewN (Below.refl _ _) _
  have hon2 : Only [g] w w2 := HON.out.trans (Only.of_below hb12)
  have hl2 : g < w2.heap.size := Nat.lt_of_lt_of_le hl hon2.size
  have hb02 : Below w0.heap.size w0 w2 := h2.trans (hon2.below h2.size (by simpa using h1))
  have HO2 := Lib.hid hon2
  have HB2 := Lib.hid hb02
  clear hw2 hon2 hb02 d0 d1 d2 p0 p1 p2 hb12
  have CM := Lib.hid (fun (W : World) (y : Nat) (hy : y ≤ len) (ho : Only [g] w W) (a0 : W.cell? ⟨g, 0, none⟩ = some (.slice ad len cap)) (a1 : W.cell? ⟨g, 1, none⟩ = some (.int .i64 (y : Int))) (a2 : W.cell? ⟨g, 2, none⟩ = some (.int .i64 k2)) (q0 : W.frozen? ⟨g, 0, none⟩ = false) (q1 : W.frozen? ⟨g, 1, none⟩ = false) (q2 : W.frozen? ⟨g, 2, none⟩ = false) => show Drawn g w W from
    ⟨ho, Nat.lt_of_lt_of_le hl ho.size, w0, _, xs, y, k2, h1, h2.trans (ho.below h2.size (by simpa using h1)), h3, hI2, by omega, a0, a1, a2, q0, q1, q2⟩)
  by_cases hlt : i < len
  · have hltI : (i : Int) < len := by omega
    obtain ⟨b, off, us, x, rfl, hx, hus, hcell, hux, hx0', hx1'⟩ := rdS_get h3' hlt
    have hcx : w0.cell? ⟨b, off + i, none⟩ = some (.int .u8 x) := by
      have := hcell 0 _ (by rw [hux]; rfl)
      simpa using this
    go_wp2
    go_quiet (fail)
    obtain ⟨w3, hw3⟩ : ∃ W, W = w2.drewN nq := ⟨_, rfl⟩
    rw [← hw3]
    have b0 : w3.cell? ⟨g, 0, none⟩ = some (.slice (some ⟨b, off, none⟩) len cap) := by rw [hw3]; simpa using e0
    have b1 : w3.cell? ⟨g, 1, none⟩ = some (.int .i64 i) := by rw [hw3]; simpa using e1
    have b2 : w3.cell? ⟨g, 2, none⟩ = some (.int .i64 k2) := by rw [hw3]; simpa using e2
    have n0 : w3.frozen? ⟨g, 0, none⟩ = false := by rw [hw3]; simpa using o0
    have n1 : w3.frozen? ⟨g, 1, none⟩ = false := by rw [hw3]; simpa using o1
    have n2 : w3.frozen? ⟨g, 2, none⟩ = false := by rw [hw3]; simpa using o2
    have hb23 : Below w2.heap.size w2 w3 := hw3 ▸ blw_drewN (Below.refl _ _) _
    have b3 : w3.cell? ⟨b, off + i, none⟩ = some (.int .u8 x) := cell_below (HB2.out.trans (hb23.mono HB2.out.size)) hcx
    have HO3 := Lib.hid (HO2.out.trans (Only.of_below (fp := [g]) hb23))
    clear hw3 e0 e1 e2 o0 o1 o2 hb23 hcx hux hus hcell hx
    go_wp2
    go_quiet (fail)
    rw [mask255]
    obtain ⟨y0, hy0, hy0b⟩ : ∃ y : Nat, ((x0 : Int) + x) % 256 = (y : Int) ∧ y < 256 := ⟨(((x0 : Int) + x) % 256).toNat, by omega, by omega⟩
    rw [hy0]
    obtain ⟨w4, hw4⟩ : ∃ W, W = w3.drewN nq := ⟨_, rfl⟩
    rw [← hw4]
    have a0 : w4.cell? ⟨g, 0, none⟩ = some (.slice (some ⟨b, off, none⟩) len cap) := by rw [hw4]; simpa using b0
    have a1 : w4.cell? ⟨g, 1, none⟩ = some (.int .i64 i) := by rw [hw4]; simpa using b1
    have a2 : w4.cell? ⟨g, 2, none⟩ = some (.int .i64 k2) := by rw [hw4]; simpa using b2
    have m0 : w4.frozen? ⟨g, 0, none⟩ = false := by rw [hw4]; simpa using n0
    have m1 : w4.frozen? ⟨g, 1, none⟩ = false := by rw [hw4]; simpa using n1
    have m2 : w4.frozen? ⟨g, 2, none⟩ = false := by rw [hw4]; simpa using n2
    have hb34 : Below w3.heap.size w3 w4 := hw4 ▸ blw_drewN (Below.refl _ _) _
    have HO4 := Lib.hid (HO3.out.trans (Only.of_below (fp := [g]) hb34))
    clear hw4 b0 b1 b2 n0 n1 n2 hb34 hy0
    go_wp2
    go_ret
    refine ⟨y0, rfl, hy0b, CM.out _ (i + 1) (by omega) (HO4.out.setCell (by simp) _) ?_ ?_ ?_ (by simpa using m0) (by simpa using m1) (by simpa using m2)⟩
    · exact (World.cell?_setCell_other _ _ _ _ (by simp)).trans a0
    · exact World.cell?_setCell_same _ _ _ a1
    · exact (World.cell?_setCell_other _ _ _ _ (by simp)).trans a2
  · have hltI : ¬ ((i : Int) < len) := by omega
    go_wp2
    go_quiet (fail)
    go_wp2
    go_ret
    have hb23 : Below w2.heap.size w2 (w2.drewN nq) := blw_drewN (Below.refl _ _) _
    exact ⟨x0, rfl, hx0b, CM.out _ i (by omega) (HO2.out.trans (Only.of_below hb23)) (by simpa using e0) (by simpa using e1) (by simpa using e2) (by simpa using o0) (by simpa using o1) (by simpa using o2)⟩

set_option maxHeartbeats 1600000 in
theorem below_any (g n : Nat) (nz : Int) (hnz : nz = n) (h1 : 1 ≤ n) (hn : n ≤ 9223372036854775807) (w : World) (hc : Cur w g) : Calls Tryz.prog 42 #[.pointer (some ⟨g, 0, none⟩), .int .i64 nz] w (Draws g n w) := by
  have hn0 : ¬ nz ≤ 0 := by omega
  have hn00 : nz ≠ 0 := by omega
  go_enter Tryz.func42, Tryz.ntmps42
  by_cases h256 : n ≤ 256
  · have h256I : nz ≤ 256 := by omega
    go_wp2_with fail
    refine (byte_any g w hc).mono ?_
    rintro e w1 ⟨x, rfl, hx, hd⟩
    have hm : ((x : Int).tmod nz) = ((x % n : Nat) : Int) := by rw [hnz, Int.tmod_eq_emod_of_nonneg (by omega)]; omega
    go_wp2
    go_ret
    exact ⟨x % n, by simp, Nat.mod_lt _ (by omega), hd⟩
  · have h256I : ¬ nz ≤ 256 := by omega
    go_wp2_with fail
    refine (byte_any g w hc).mono ?_
    rintro e w1 ⟨x, rfl, hx, hd1⟩
    go_wp2_with fail
    refine (byte_any g w1 hd1.cur).mono ?_
    rintro e w2 ⟨y, rfl, hy, hd2⟩
    go_wp2_with fail
    refine (byte_any g w2 hd2.cur).mono ?_
    rintro e w3 ⟨z, rfl, hz, hd3⟩
    go_wp2_with fail
    refine (byte_any g w3 hd3.cur).mono ?_
    rintro e w4 ⟨u, rfl, hu, hd4⟩
    have hx1 : IntKind.i64.wrap ((x : Int) * 16777216) = ((x * 16777216 : Nat) : Int) := by rw [IntKind.wrap_i64]; omega
    have hy1 : IntKind.i64.wrap ((y : Int) * 65536) = ((y * 65536 : Nat) : Int) := by rw [IntKind.wrap_i64]; omega
    have hz1 : IntKind.i64.wrap ((z : Int) * 256) = ((z * 256 : Nat) : Int) := by rw [IntKind.wrap_i64]; omega
    obtain ⟨X, hX⟩ : ∃ X, X = x * 16777216 := ⟨_, rfl⟩
    obtain ⟨Y, hY⟩ : ∃ Y, Y = y * 65536 := ⟨_, rfl⟩
    obtain ⟨Z, hZ⟩ : ∃ Z, Z = z * 256 := ⟨_, rfl⟩
    rw [← hX] at hx1
    rw [← hY] at hy1
    rw [← hZ] at hz1
    obtain ⟨S1, hS1⟩ : ∃ S, S = X + Y := ⟨_, rfl⟩
    obtain ⟨S2, hS2⟩ : ∃ S, S = S1 + Z := ⟨_, rfl⟩
    obtain ⟨S3, hS3⟩ : ∃ S, S = S2 + u := ⟨_, rfl⟩
    have hs1 : IntKind.i64.wrap ((X : Int) + Y) = (S1 : Int) := by rw [IntKind.wrap_i64]; omega
    have hs2 : IntKind.i64.wrap ((S1 : Int) + Z) = (S2 : Int) := by rw [IntKind.wrap_i64]; omega
    have hs3 : IntKind.i64.wrap ((S2 : Int) + u) = (S3 : Int) := by rw [IntKind.wrap_i64]; omega
    clear hS1 hS2 hS3
    clear hX hY hZ
    go_wp2
    go_ret
    exact ⟨S3 % n, by simp, Nat.mod_lt _ (by omega), hd1.trans (hd2.trans (hd3.trans hd4))⟩

/-- A cursor is made: in a block of its own. -/
def Starts (w : World) : Ending → World → Prop := fun e w' => ∃ g, e = .returned (.pointer (some ⟨g, 0, none⟩)) ∧ w.heap.size ≤ g ∧ Cur w' g ∧ Below w.heap.size w w'
set_option maxHeartbeats 1600000 in
theorem new_any (v : Value) (xs : List Int) (w : World) (h : RdB w v xs) : Calls Tryz.prog 40 #[v] w (Starts w) := by
  obtain ⟨ad, len, cap, rfl, hlen, hlc, hcm, h'⟩ := rdS_open h
  obtain ⟨h0, hh0⟩ : ∃ k, IntKind.i64.wrap (242017 + (len : Int)) = k := ⟨_, rfl⟩
  have hI0 : I64 h0 := by rw [← hh0, IntKind.wrap_i64]; unfold I64; omega
  have HL := Lib.hid hlen
  clear hlen
  go_enter Tryz.func40, Tryz.ntmps40
  go_wp2
  go_loopw [3, 4] (fun hv iv wr => ∃ (k : Nat) (z : Int), k ≤ len ∧ hv = .int .i64 z ∧ I64 z ∧ iv = .int .i64 k ∧ wr = w) (fun _ iv _ => len - (intOf iv).toNat)
  case atStart => exact ⟨0, h0, Nat.zero_le _, rfl, hI0, rfl, rfl⟩
  case round =>
    obtain ⟨k, z, hk, rfl, hz, rfl, rfl⟩ := hrel
    have hfin : ∀ (z : Int), I64 z → Starts wr (.returned (.pointer (some ⟨wr.heap.size, 0, none⟩))) (wr.alloc (.cells #[.slice ad len cap, .int .i64 0, .int .i64 z] 116)) := fun z hz =>
      ⟨wr.heap.size, rfl, Nat.le_refl _, ⟨by simp, wr, _, xs, 0, z, Nat.le_refl _, (Below.refl _ _).alloc (Nat.le_refl _) _, h', hz, Nat.zero_le _, by simp, by simp, by simp, by simp, by simp, by simp⟩, (Below.refl _ _).alloc (Nat.le_refl _) _⟩
    have HF := Lib.hid hfin
    clear hfin
    by_cases hlt : k < len ∧ k < 4000
    · obtain ⟨hlt, hlt4⟩ := hlt
      have hltI : (k : Int) < len := by omega
      have hlt4I : (k : Int) < 4000 := by omega
      obtain ⟨b, off, us, x, rfl, hx, hus, hcell, hux, hx0', hx1'⟩ := rdS_get h' hlt
      have hcx : wr.cell? ⟨b, off + k, none⟩ = some (.int .u8 x) := by
        have := hcell 0 _ (by rw [hux]; rfl)
        simpa using this
      clear hcell hux hus hx
      go_wp2
      exact ⟨⟨k + 1, _, by omega, rfl, by rw [mask30]; unfold I64; omega, by go_num, trivial⟩, by simp [intOf]; omega⟩
    · by_cases h2 : k < len
      · have hltI : (k : Int) < len := by omega
        have hlt4I : ¬ ((k : Int) < 4000) := by omega
        go_wp2
        go_ret
        exact HF.out z hz
      · have hltI : ¬ ((k : Int) < len) := by omega
        go_wp2
        go_ret
        exact HF.out z hz
end Go.Proofs.YtbcjhpgkodeoeaaGreatDoor
