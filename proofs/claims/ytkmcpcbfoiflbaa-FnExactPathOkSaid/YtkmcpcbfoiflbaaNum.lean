/- The numbers' functions and the tests on lists of numbers: what each returns. Conditions: none. -/
import Derived.Test.YtkmcpcbfoiflbaaRows
import Derived.Test.YtkmcpcbfoiflbaaBase
namespace Go.Proofs.Ytkmcpcbfoiflbaa
open Go.RowKit

def Pm : Int := 1000000271

theorem res_bd (n : Int) : -1000000271 < n.tmod 1000000271 ∧ n.tmod 1000000271 < 1000000271 := by
  refine ⟨?_, Int.tmod_lt_of_pos n (by omega)⟩
  rcases Int.le_total 0 n with h | h
  · have := Int.tmod_nonneg 1000000271 h; omega
  · have := Int.neg_tmod (-n) 1000000271
    have h3 := Int.tmod_lt_of_pos (-n) (b := 1000000271) (by omega)
    rw [Int.neg_neg] at this; omega

theorem res_eq (n : Int) : (n.tmod 1000000271 + 1000000271) % 1000000271 = n % 1000000271 := by
  have := Int.tmod_add_mul_tdiv n 1000000271
  omega

/-- 0 ≤ n < the prime. -/
def isNumB (n : Int) : Bool := decide (0 ≤ n ∧ n < 1000000271)
theorem isNumB_yes {n : Int} (h0 : 0 ≤ n) (h1 : n < 1000000271) : isNumB n = true := by simp [isNumB, h0, h1]
theorem isNumB_neg {n : Int} (h0 : n < 0) : isNumB n = false := by simp [isNumB]; omega
theorem isNumB_big {n : Int} (h1 : 1000000271 ≤ n) : isNumB n = false := by simp [isNumB]; omega

set_option maxHeartbeats 400000 in
theorem residue_any (n : Int) (w : World) :
    Calls Try.prog 46 #[.int .i64 n] w fun e w' => e = .returned (.int .i64 (n % 1000000271)) ∧ w = w' := by
  have hb := res_bd n
  have h1 := hb.1
  have h2 := hb.2
  clear hb
  go_enter Try.func46, Try.ntmps46
  go_wp2
  go_ret
  exact ⟨ret_int (res_eq n), rfl⟩

set_option maxHeartbeats 400000 in
theorem isNumber_any (n : Int) (w : World) :
    Calls Try.prog 64 #[.int .i64 n] w fun e w' => e = .returned (.bool (isNumB n)) ∧ w = w' := by
  by_cases h0 : 0 ≤ n
  · by_cases h1 : n < 1000000271
    · go_enter Try.func64, Try.ntmps64
      go_wp2
      go_ret
      exact ⟨ret_bool (by simp [isNumB_yes h0 h1, h1]), rfl⟩
    · go_enter Try.func64, Try.ntmps64
      go_wp2
      go_ret
      exact ⟨ret_bool (by simp [isNumB_big (by omega : 1000000271 ≤ n)]), rfl⟩
  · go_enter Try.func64, Try.ntmps64
    go_wp2
    go_ret
    exact ⟨ret_bool (by simp [isNumB_neg (by omega : n < 0)]), rfl⟩

set_option maxHeartbeats 400000 in
theorem allNumbers_any (v : Value) (xs : List Int) (w : World) (h : RdI w v xs) :
    Calls Try.prog 41 #[v] w fun e w' => e = .returned (.bool (xs.all isNumB)) ∧ w = w' := by
  obtain ⟨ad, len, cap, rfl, hl, hlc, hcm, h'⟩ := rdS_open h
  have hlen := Lib.hid hl
  clear h hl
  go_enter Try.func41, Try.ntmps41
  go_wp2
  go_loop [7] (fun i => ∃ k : Nat, k ≤ len ∧ i = .int .i64 k ∧ (xs.take k).all isNumB = true) (fun i => len - (intOf i).toNat)
  case atStart => exact ⟨0, Nat.zero_le _, rfl, by simp⟩
  case round =>
    obtain ⟨k, hk, rfl, ha⟩ := hrel
    have HA := Lib.hid ha
    clear ha
    by_cases hlt : k < len
    · obtain ⟨b, off, x, rfl, hx, hc, hI, _⟩ := rdI_get h' hlt
      have HX := Lib.hid hx
      clear hx
      cases hp : isNumB x
      · have HP := Lib.hid hp
        go_wp2_with (go_at_call 64; refine (isNumber_any _ _).mono ?_; rintro e w' ⟨rfl, rfl⟩)
        go_ret
        exact ⟨ret_bool (all_false HX.out HP.out).symm, rfl⟩
      · have HP := Lib.hid hp
        go_wp2_with (go_at_call 64; refine (isNumber_any _ _).mono ?_; rintro e w' ⟨rfl, rfl⟩)
        go_round
        case rel => exact ⟨k + 1, by omega, by go_num, all_snoc HX.out HA.out HP.out⟩
        case measure => simp [intOf]; omega
    · go_wp2
      go_ret
      exact ⟨ret_bool (all_done (by rw [hlen.out]; omega) HA.out).symm, rfl⟩

def inB (n lo hi : Int) : Bool := decide (lo ≤ n ∧ n ≤ hi)
theorem inB_yes {n lo hi : Int} (h0 : lo ≤ n) (h1 : n ≤ hi) : inB n lo hi = true := by simp [inB, h0, h1]
theorem inB_lo {n lo hi : Int} (h0 : n < lo) : inB n lo hi = false := by simp [inB]; omega
theorem inB_hi {n lo hi : Int} (h1 : hi < n) : inB n lo hi = false := by simp [inB]; omega
theorem inB_num (n : Int) : inB n 0 1000000270 = isNumB n := by
  unfold inB isNumB
  rw [decide_eq_decide]
  omega

set_option maxHeartbeats 400000 in
theorem l1In_any (n lo hi : Int) (w : World) :
    Calls Try.prog 38 #[.int .i64 n, .int .i64 lo, .int .i64 hi] w fun e w' => e = .returned (.bool (inB n lo hi)) ∧ w = w' := by
  by_cases h0 : lo ≤ n
  · by_cases h1 : n ≤ hi
    · go_enter Try.func38, Try.ntmps38
      go_wp2
      go_ret
      exact ⟨ret_bool (by simp [inB_yes h0 h1, h1]), rfl⟩
    · have h2 : hi < n := by omega
      clear h1
      go_enter Try.func38, Try.ntmps38
      go_wp2
      go_ret
      exact ⟨ret_bool (by simp [inB_hi h2]; omega), rfl⟩
  · have h2 : n < lo := by omega
    clear h0
    go_enter Try.func38, Try.ntmps38
    go_wp2
    go_ret
    exact ⟨ret_bool (by simp [inB_lo h2]), rfl⟩

set_option maxHeartbeats 400000 in
theorem sIsNumber_any (n : Int) (w : World) :
    Calls Try.prog 60 #[.int .i64 n] w fun e w' => e = .returned (.bool (isNumB n)) ∧ w = w' := by
  go_enter Try.func60, Try.ntmps60
  go_wp2_with (go_at_call 38; ((with_reducible refine (l1In_any _ _ _ _).mono ?_); rintro e w' ⟨rfl, rfl⟩))
  go_ret
  exact ⟨ret_bool (inB_num n), rfl⟩

set_option maxHeartbeats 400000 in
theorem l1All_any (v : Value) (xs : List Int) (w : World) (h : RdI w v xs) :
    Calls Try.prog 39 #[v] w fun e w' => e = .returned (.bool (xs.all isNumB)) ∧ w = w' := by
  obtain ⟨ad, len, cap, rfl, hl, hlc, hcm, h'⟩ := rdS_open h
  have hlen := Lib.hid hl
  clear h hl
  go_enter Try.func39, Try.ntmps39
  go_wp2
  go_loop [3] (fun i => ∃ k : Nat, k ≤ len ∧ i = .int .i64 k ∧ (xs.take k).all isNumB = true) (fun i => len - (intOf i).toNat)
  case atStart => exact ⟨0, Nat.zero_le _, rfl, by simp⟩
  case round =>
    obtain ⟨k, hk, rfl, ha⟩ := hrel
    have HA := Lib.hid ha
    clear ha
    by_cases hlt : k < len
    · obtain ⟨b, off, x, rfl, hx, hc, hI, _⟩ := rdI_get h' hlt
      have HX := Lib.hid hx
      clear hx
      cases hp : isNumB x
      · have HP := Lib.hid hp
        go_wp2_with (go_at_call 60; ((with_reducible refine (sIsNumber_any _ _).mono ?_); rintro e w' ⟨rfl, rfl⟩))
        go_ret
        exact ⟨ret_bool (all_false HX.out HP.out).symm, rfl⟩
      · have HP := Lib.hid hp
        go_wp2_with (go_at_call 60; ((with_reducible refine (sIsNumber_any _ _).mono ?_); rintro e w' ⟨rfl, rfl⟩))
        go_round
        case rel => exact ⟨k + 1, by omega, by go_num, all_snoc HX.out HA.out HP.out⟩
        case measure => simp [intOf]; omega
    · go_wp2
      go_ret
      exact ⟨ret_bool (all_done (by rw [hlen.out]; omega) HA.out).symm, rfl⟩
end Go.Proofs.Ytkmcpcbfoiflbaa
