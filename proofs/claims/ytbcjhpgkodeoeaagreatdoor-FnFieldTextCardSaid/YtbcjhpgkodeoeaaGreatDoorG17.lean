/- The reference's nodes: roots, Gauss, Radau, Lobatto; the texts of tableaus. Conditions: none. -/
import Derived.Deep.AppendLies
import Derived.Test.YtbcjhpgkodeoeaaGreatDoorG02
import Derived.Test.YtbcjhpgkodeoeaaGreatDoorG16
set_option linter.unusedSimpArgs false
set_option linter.unusedVariables false

namespace Go.Proofs.YtbcjhpgkodeoeaaGreatDoor
open Go.RowKit

/-- A number. -/
def NumZ (x : Int) : Prop := 0 ≤ x ∧ x ≤ 1000000270
theorem numZ_i64 {x : Int} (h : NumZ x) : I64 x := ⟨by have := h.1; omega, by have := h.2; omega⟩
/-- A row of numbers of the call's own. -/
def GivesNums (w : World) : Ending → World → Prop := fun e w' => ∃ v xs fp, e = .returned v ∧ OwnI 3 w' v xs fp ∧ (∀ x ∈ xs, NumZ x) ∧ xs.length ≤ 4 ∧ (∀ b ∈ fp, w.heap.size ≤ b) ∧ Below w.heap.size w w'
theorem lit_own {e : Nat} (w : World) (xs : List Int) (hx : ∀ x ∈ xs, I64 x) (hl : xs.length ≤ 1000) (cs : Array Value) (hcs : cs = (xs.map (Value.int .i64)).toArray) (n : Nat) (hn : n = xs.length) :
    OwnI e (w.alloc (.cells cs e)) (.slice (some ⟨w.heap.size, 0, none⟩) n n) xs [w.heap.size] := by
  subst hcs hn
  refine ⟨⟨by simp, .inr ⟨w.heap.size, xs.length, (xs.map (Value.int .i64)).toArray, rfl, Nat.zero_le _, heap_alloc_new w _, Nat.le_refl _, by unfold maxLen; omega, by simp, by simp [List.take_of_length_le]⟩⟩, rfl, hx⟩
theorem lit_gives (w : World) (xs : List Int) (hx : ∀ x ∈ xs, NumZ x) (hl : xs.length ≤ 4) (cs : Array Value) (hcs : cs = (xs.map (Value.int .i64)).toArray) (n : Nat) (hn : n = xs.length) :
    GivesNums w (.returned (.slice (some ⟨w.heap.size, 0, none⟩) n n)) (w.alloc (.cells cs 3)) :=
  ⟨_, xs, _, rfl, lit_own w xs (fun x h => numZ_i64 (hx x h)) (by omega) cs hcs n hn, hx, hl, by simp, (Below.refl _ _).alloc (Nat.le_refl _) _⟩
theorem nil_gives (w : World) : GivesNums w (.returned (.slice none 0 0)) w :=
  ⟨_, [], [], rfl, ⟨World.ownsRow_nil _ _ _ _, rfl, by simp⟩, by simp, by simp, by simp, Below.refl _ _⟩

-- each number under a letter
theorem sPower_eq {a k y : Int} (h : powZ a k = y) (hk : k ≤ 9223372036854775807) (w : World) : Calls Tryz.prog 34 #[.int .i64 a, .int .i64 k] w fun e w' => e = .returned (.int .i64 y) ∧ w = w' := h ▸ sPower_any a k w hk
theorem sTimes_eq {a b y : Int} (h : timesZ a b = y) (w : World) : Calls Tryz.prog 23 #[.int .i64 a, .int .i64 b] w fun e w' => e = .returned (.int .i64 y) ∧ w = w' := h ▸ sTimes_any a b w
theorem sResidue_eq {a y : Int} (h : a % 1000000271 = y) (w : World) : Calls Tryz.prog 82 #[.int .i64 a] w fun e w' => e = .returned (.int .i64 y) ∧ w = w' := h ▸ sResidue_any a w
theorem sPlus_eq {a b y : Int} (h : plusZ a b = y) (w : World) : Calls Tryz.prog 22 #[.int .i64 a, .int .i64 b] w fun e w' => e = .returned (.int .i64 y) ∧ w = w' := h ▸ sPlus_any a b w
theorem sMinus_eq {a b y : Int} (h : minusZ a b = y) (w : World) : Calls Tryz.prog 26 #[.int .i64 a, .int .i64 b] w fun e w' => e = .returned (.int .i64 y) ∧ w = w' := h ▸ sMinus_any a b w
theorem sFraction_eq {a b y : Int} (h : fracZ a b = y) (w : World) : Calls Tryz.prog 75 #[.int .i64 a, .int .i64 b] w fun e w' => e = .returned (.int .i64 y) ∧ w = w' := h ▸ sFraction_any a b w
theorem sInverse_eq {a y : Int} (h : powZ a 1000000269 = y) (w : World) : Calls Tryz.prog 129 #[.int .i64 a] w fun e w' => e = .returned (.int .i64 y) ∧ w = w' := h ▸ sInverse_any a w

def GivesRoot (w : World) : Ending → World → Prop := fun e w' => ∃ x b, e = .returned (.tuple #[.int .i64 x, .bool b]) ∧ NumZ x ∧ w = w'
set_option maxHeartbeats 400000 in
theorem sSquare_any (n : Int) (w : World) : Calls Tryz.prog 214 #[.int .i64 n] w (GivesRoot w) := by
  obtain ⟨y, hy⟩ : ∃ y, powZ n 250000068 = y := ⟨_, rfl⟩
  have hyb : NumZ y := hy ▸ powZ_bd _ _
  obtain ⟨z, hz⟩ : ∃ z, timesZ y y = z := ⟨_, rfl⟩
  obtain ⟨m, hm⟩ : ∃ m, n % 1000000271 = m := ⟨_, rfl⟩
  obtain ⟨q, hq⟩ : ∃ q, (-y) % 1000000271 = q := ⟨_, rfl⟩
  have hqb : NumZ q := hq ▸ mod_bd _
  have C1 := Lib.hid hy
  have C2 := Lib.hid hz
  have C3 := Lib.hid hm
  have C4 := Lib.hid hq
  obtain ⟨hy0, hy1⟩ := hyb
  obtain ⟨hq0, hq1⟩ := hqb
  clear hy hz hm hq
  go_enter Tryz.func214, Tryz.ntmps214
  go_wp2_with (first | (go_at_call 34; ((with_reducible refine (sPower_eq C1.out (by omega) _).mono ?_); rintro e w' ⟨rfl, rfl⟩)) | (go_at_call 23; ((with_reducible refine (sTimes_eq C2.out _).mono ?_); rintro e w' ⟨rfl, rfl⟩)) | (go_at_call 82; ((with_reducible refine (sResidue_eq C3.out _).mono ?_); rintro e w' ⟨rfl, rfl⟩)) | (go_at_call 82; ((with_reducible refine (sResidue_eq C4.out _).mono ?_); rintro e w' ⟨rfl, rfl⟩)))
  all_goals go_ret2
  all_goals first
    | exact ⟨y, true, rfl, ⟨hy0, hy1⟩, rfl⟩
    | exact ⟨q, true, rfl, ⟨hq0, hq1⟩, rfl⟩
    | exact ⟨0, false, rfl, ⟨by omega, by omega⟩, rfl⟩
theorem sRoot_any (n : Int) (w : World) : Calls Tryz.prog 202 #[.int .i64 n] w fun e w' => ∃ x, e = .returned (.int .i64 x) ∧ NumZ x ∧ w = w' := by
  go_enter Tryz.func202, Tryz.ntmps202
  go_wp2_with fail
  refine (sSquare_any n w).mono ?_
  rintro e w' ⟨x, b, rfl, hx, rfl⟩
  go_wp2
  go_ret
  exact ⟨x, rfl, hx, rfl⟩

set_option maxHeartbeats 800000 in
theorem sGauss_any (n : Int) (w : World) : Calls Tryz.prog 171 #[.int .i64 n] w (GivesNums w) := by
  obtain ⟨h, hh⟩ : ∃ y, fracZ 1 2 = y := ⟨_, rfl⟩
  have hhb : NumZ h := hh ▸ fracZ_bd _ _
  have CH := Lib.hid hh
  have HN := Lib.hid (nil_gives w)
  have HL := Lib.hid (fun xs hx hl cs hcs n hn => lit_gives w xs hx hl cs hcs n hn)
  clear hh
  go_enter Tryz.func171, Tryz.ntmps171
  by_cases h1 : n = 1
  · subst h1
    go_wp2_with (first | (go_at_call 75; ((with_reducible refine (sFraction_eq CH.out _).mono ?_); rintro e w' ⟨rfl, rfl⟩)))
    go_ret
    exact HL.out [h] (by simpa using hhb) (by simp) _ rfl _ rfl
  by_cases h2 : n = 2
  · subst h2
    go_wp2_with (first | (go_at_call 75; ((with_reducible refine (sFraction_eq CH.out _).mono ?_); rintro e w' ⟨rfl, rfl⟩)) | (go_at_call 202; (with_reducible refine (sRoot_any _ _).mono ?_); rintro e w' ⟨x, rfl, hx, rfl⟩; obtain ⟨y, hy⟩ : ∃ y, fracZ x 6 = y := ⟨_, rfl⟩; have CX := Lib.hid hy; clear hy) | (go_at_call 75; ((with_reducible refine (sFraction_eq CX.out _).mono ?_); rintro e w' ⟨rfl, rfl⟩)) | (go_at_call 26; ((with_reducible refine (sMinus_any _ _ _).mono ?_); rintro e w' ⟨rfl, rfl⟩)) | (go_at_call 22; ((with_reducible refine (sPlus_any _ _ _).mono ?_); rintro e w' ⟨rfl, rfl⟩)))
    go_ret
    exact HL.out [minusZ h y, plusZ h y] (by simp; exact ⟨minusZ_bd _ _, plusZ_bd _ _⟩) (by simp) _ rfl _ rfl
  by_cases h3 : n = 3
  · subst h3
    go_wp2_with (first | (go_at_call 75; ((with_reducible refine (sFraction_eq CH.out _).mono ?_); rintro e w' ⟨rfl, rfl⟩)) | (go_at_call 202; (with_reducible refine (sRoot_any _ _).mono ?_); rintro e w' ⟨x, rfl, hx, rfl⟩; obtain ⟨y, hy⟩ : ∃ y, fracZ x 10 = y := ⟨_, rfl⟩; have CX := Lib.hid hy; clear hy) | (go_at_call 75; ((with_reducible refine (sFraction_eq CX.out _).mono ?_); rintro e w' ⟨rfl, rfl⟩)) | (go_at_call 26; ((with_reducible refine (sMinus_any _ _ _).mono ?_); rintro e w' ⟨rfl, rfl⟩)) | (go_at_call 22; ((with_reducible refine (sPlus_any _ _ _).mono ?_); rintro e w' ⟨rfl, rfl⟩)))
    go_ret
    exact HL.out [minusZ h y, h, plusZ h y] (by simp; exact ⟨minusZ_bd _ _, hhb, plusZ_bd _ _⟩) (by simp) _ rfl _ rfl
  go_wp2_with (first | (go_at_call 75; ((with_reducible refine (sFraction_eq CH.out _).mono ?_); rintro e w' ⟨rfl, rfl⟩)))
  go_ret
  exact HN.out
set_option maxHeartbeats 800000 in
theorem sRadau_any (n : Int) (w : World) : Calls Tryz.prog 172 #[.int .i64 n] w (GivesNums w) := by
  have HN := Lib.hid (nil_gives w)
  have HL := Lib.hid (fun xs hx hl cs hcs n hn => lit_gives w xs hx hl cs hcs n hn)
  go_enter Tryz.func172, Tryz.ntmps172
  by_cases h1 : n = 1
  · subst h1
    go_wp2
    go_ret
    exact HL.out [1] (by simp [NumZ]) (by simp) _ rfl _ rfl
  by_cases h2 : n = 2
  · subst h2
    go_wp2_with (first | (go_at_call 75; ((with_reducible refine (sFraction_any _ _ _).mono ?_); rintro e w' ⟨rfl, rfl⟩)))
    go_ret
    exact HL.out [fracZ 1 3, 1] (by simp; exact ⟨fracZ_bd _ _, by simp [NumZ]⟩) (by simp) _ rfl _ rfl
  by_cases h3 : n = 3
  · subst h3
    go_wp2_with (first | (go_at_call 202; (with_reducible refine (sRoot_any _ _).mono ?_); rintro e w' ⟨x, rfl, hx, rfl⟩; obtain ⟨y, hy⟩ : ∃ y, fracZ (4 - x) 10 = y := ⟨_, rfl⟩; obtain ⟨z, hz⟩ : ∃ y, fracZ (4 + x) 10 = y := ⟨_, rfl⟩; have hyb : NumZ y := (hy ▸ fracZ_bd _ _); have hzb : NumZ z := (hz ▸ fracZ_bd _ _); have CX := Lib.hid hy; have CZ := Lib.hid hz; obtain ⟨hx0, hx1⟩ := hx; clear hy hz) | (go_at_call 75; ((with_reducible refine (sFraction_eq CX.out _).mono ?_); rintro e w' ⟨rfl, rfl⟩)) | (go_at_call 75; ((with_reducible refine (sFraction_eq CZ.out _).mono ?_); rintro e w' ⟨rfl, rfl⟩)))
    go_ret
    exact HL.out [y, z, 1] (by simp; exact ⟨hyb, hzb, by simp [NumZ]⟩) (by simp) _ rfl _ rfl
  go_wp2
  go_ret
  exact HN.out
set_option maxHeartbeats 800000 in
theorem sLobatto_any (n : Int) (w : World) : Calls Tryz.prog 173 #[.int .i64 n] w (GivesNums w) := by
  obtain ⟨h, hh⟩ : ∃ y, fracZ 1 2 = y := ⟨_, rfl⟩
  have hhb : NumZ h := hh ▸ fracZ_bd _ _
  have CH := Lib.hid hh
  have HN := Lib.hid (nil_gives w)
  have HL := Lib.hid (fun xs hx hl cs hcs n hn => lit_gives w xs hx hl cs hcs n hn)
  clear hh
  go_enter Tryz.func173, Tryz.ntmps173
  by_cases h1 : n = 2
  · subst h1
    go_wp2_with (first | (go_at_call 75; ((with_reducible refine (sFraction_eq CH.out _).mono ?_); rintro e w' ⟨rfl, rfl⟩)))
    go_ret
    exact HL.out [0, 1] (by simp [NumZ]) (by simp) _ rfl _ rfl
  by_cases h2 : n = 3
  · subst h2
    go_wp2_with (first | (go_at_call 75; ((with_reducible refine (sFraction_eq CH.out _).mono ?_); rintro e w' ⟨rfl, rfl⟩)))
    go_ret
    exact HL.out [0, h, 1] (by simp; exact ⟨by simp [NumZ], hhb, by simp [NumZ]⟩) (by simp) _ rfl _ rfl
  by_cases h3 : n = 4
  · subst h3
    go_wp2_with (first | (go_at_call 75; ((with_reducible refine (sFraction_eq CH.out _).mono ?_); rintro e w' ⟨rfl, rfl⟩)) | (go_at_call 202; (with_reducible refine (sRoot_any _ _).mono ?_); rintro e w' ⟨x, rfl, hx, rfl⟩; obtain ⟨y, hy⟩ : ∃ y, fracZ x 10 = y := ⟨_, rfl⟩; have CX := Lib.hid hy; clear hy) | (go_at_call 75; ((with_reducible refine (sFraction_eq CX.out _).mono ?_); rintro e w' ⟨rfl, rfl⟩)) | (go_at_call 26; ((with_reducible refine (sMinus_any _ _ _).mono ?_); rintro e w' ⟨rfl, rfl⟩)) | (go_at_call 22; ((with_reducible refine (sPlus_any _ _ _).mono ?_); rintro e w' ⟨rfl, rfl⟩)))
    go_ret
    exact HL.out [0, minusZ h y, plusZ h y, 1] (by simp; exact ⟨by simp [NumZ], minusZ_bd _ _, plusZ_bd _ _, by simp [NumZ]⟩) (by simp) _ rfl _ rfl
  go_wp2_with (first | (go_at_call 75; ((with_reducible refine (sFraction_eq CH.out _).mono ?_); rintro e w' ⟨rfl, rfl⟩)))
  go_ret
  exact HN.out
end Go.Proofs.YtbcjhpgkodeoeaaGreatDoor
