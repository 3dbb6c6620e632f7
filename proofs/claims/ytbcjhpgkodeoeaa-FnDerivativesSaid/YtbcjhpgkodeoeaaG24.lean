/- Numbers as texts. Conditions: none. -/
import Derived.Laws.Concat
import Derived.Laws.IdiomStrings
import Derived.Test.YtbcjhpgkodeoeaaG12
set_option linter.unusedSimpArgs false
set_option linter.unusedVariables false

namespace Go.Proofs.Ytbcjhpgkodeoeaa
open Go.RowKit Go.Sort

/-- A text out of its bytes. -/
def txt (l : List UInt8) : Value := .string ⟨l.toArray⟩
theorem txt_append (a b : List UInt8) : (ByteArray.mk a.toArray) ++ (ByteArray.mk b.toArray) = ByteArray.mk (a ++ b).toArray := by
  apply ByteArray.ext
  simp

theorem cat_run {P : Program} (a b : List UInt8) (h : a.length + b.length ≤ 1000000) (w : World) : (Op.stringOp .add (ByteArray.mk a.toArray) (ByteArray.mk b.toArray)).run P w = .ok (.string (ByteArray.mk (a ++ b).toArray)) w := by
  rw [run_string_add_sum w _ _ (by simp [ByteArray.size]; omega), txt_append]
/-- A digit. -/
def dig (n : Nat) : UInt8 := UInt8.ofNat (48 + n % 10)
/-- The digits of a number. -/
def decL (n : Nat) : List UInt8 := if n < 10 then [dig n] else decL (n / 10) ++ [dig n]
termination_by n
decreasing_by omega
theorem decL_small {n : Nat} (h : n < 10) : decL n = [dig n] := by rw [decL, if_pos h]
theorem decL_big {n : Nat} (h : ¬ n < 10) : decL n = decL (n / 10) ++ [dig n] := by rw [decL, if_neg h]

theorem enc_ascii (n : Nat) (h : n < 128) : Utf8.encode (n : Int) = ByteArray.mk #[UInt8.ofNat n] := by
  unfold Utf8.encode
  have hv : Utf8.valid (n : Int) = true := by
    unfold Utf8.valid
    simp
    omega
  simp only [hv, if_true, Int.toNat_natCast]
  rw [if_pos (by omega)]
theorem enc_dig (n : Nat) : Utf8.encode (48 + (n : Int) % 10) = ByteArray.mk [dig n].toArray := by
  rw [show (48 : Int) + (n : Int) % 10 = ((48 + n % 10 : Nat) : Int) by omega, enc_ascii _ (by omega)]
  rfl
theorem txt_cat (a b : List UInt8) : Value.string (ByteArray.mk a.toArray ++ ByteArray.mk b.toArray) = txt (a ++ b) := by rw [txt_append]; rfl
theorem decL_len : ∀ (n k : Nat), n < 10 ^ (k + 1) → (decL n).length ≤ k + 1 := by
  intro n k
  induction k generalizing n with
  | zero => intro h; rw [decL_small (by omega)]; simp
  | succ k ih =>
    intro h
    by_cases hs : n < 10
    · rw [decL_small hs]; simp
    · rw [decL_big hs, List.length_append]
      have := ih (n / 10) (by rw [Nat.pow_succ] at h; omega)
      simp
      omega

/-- The digits, none of 0. -/
def decP (n : Nat) : List UInt8 := if n = 0 then [] else decL n
theorem decP_zero : decP 0 = [] := by simp [decP]
theorem decP_step {n : Nat} (h : 0 < n) : decP n = decP (n / 10) ++ [dig n] := by
  rw [decP, if_neg (by omega)]
  by_cases hs : n < 10
  · rw [decL_small hs, show n / 10 = 0 by omega, decP_zero]; rfl
  · rw [decL_big hs, decP, if_neg (by omega)]
/-- An integer as a text. -/
def decZ (z : Int) : List UInt8 := if z < 0 then 45 :: decL (-z).toNat else decL z.toNat

set_option maxRecDepth 100000 in
set_option maxHeartbeats 1600000 in
theorem sDecimal_any (z : Int) (hlo : -2000000000 < z) (hhi : z < 2000000000) (w : World) : Calls Try.prog 44 #[.int .i64 z] w fun e w' => e = .returned (txt (decZ z)) ∧ Below w.heap.size w w' := by
  have HBR := Lib.hid (Below.refl w.heap.size w)
  by_cases hz : z < 0
  · obtain ⟨m, hm⟩ : ∃ m : Nat, -z = (m : Int) := ⟨(-z).toNat, by omega⟩
    have HL := Lib.hid (show (decP m).length ≤ 10 from by rw [decP, if_neg (by omega)]; exact decL_len m 9 (by omega))
    have HM := Lib.hid hm
    have HE := Lib.hid (show decZ z = 45 :: decP m from by rw [decZ, if_pos hz, decP, if_neg (by omega), show (-z).toNat = m by omega])
    have hzz : z < -z := by omega
    have hz0 : (z == 0) = false := by simp; omega
    clear hm
    go_enter Try.func44, Try.ntmps44
    go_wp2
    go_loopw [3, 4] (fun ss sk wr => ∃ (s : ByteArray) (l : List UInt8) (k : Int) (kn : Nat), ss = .string s ∧ sk = .int .i64 k ∧ k = kn ∧ s = ByteArray.mk l.toArray ∧ decP m = decP kn ++ l ∧ 0 ≤ k ∧ k ≤ 2000000000 ∧ l.length + (decP kn).length ≤ 10 ∧ Below w.heap.size w wr) (fun _ sk _ => (intOf sk).toNat)
    case atStart => exact ⟨_, [], _, m, rfl, rfl, HM.out, rfl, by simp, by omega, by have := HM.out; omega, by simpa using HL.out, HBR.out⟩
    case round =>
      obtain ⟨wk, rfl⟩ : ∃ W, W = wr := ⟨_, rfl⟩
      clear HBR
      obtain ⟨s, l, k, kn, rfl, rfl, hkn, hs, hP, hk0, hk1, hll, hb⟩ := hrel
      by_cases hk : 0 < k
      · obtain ⟨d, hd⟩ : ∃ d : UInt8, d = dig kn := ⟨_, rfl⟩
        obtain ⟨u, hu⟩ : ∃ u, u = ByteArray.mk (d :: l).toArray := ⟨_, rfl⟩
        have hst := decP_step (n := kn) (by omega)
        have HN := Lib.hid (show decP m = decP (kn / 10) ++ (d :: l) ∧ (d :: l).length + (decP (kn / 10)).length ≤ 10 ∧ k / 10 = ((kn / 10 : Nat) : Int) ∧ (kn / 10 : Nat) < k.toNat from ⟨by rw [hP, hst, ← hd]; simp, by rw [hst, List.length_append] at hll; simp at hll ⊢; omega, by omega, by omega⟩)
        have hcat : ∀ w : World, (Op.stringOp .add (ByteArray.mk #[d]) s).run Try.prog w = .ok (.string u) w := fun w => by
          rw [hs, hu]
          exact cat_run [d] l (by simp; omega) w
        have hdd : (48 + k % 10) = ((d.toNat : Nat) : Int) := by
          rw [hd, hkn, dig, UInt8.toNat_ofNat']
          omega
        have hcv : (convert 22 9 (.slice (some ⟨wk.heap.size, 0, none⟩) 1 1)).run Try.prog (wk.alloc (.cells #[.int .u8 (48 + k % 10)] 5)) = .ok (.string (ByteArray.mk #[d])) (wk.alloc (.cells #[.int .u8 (48 + k % 10)] 5)) :=
          run_convert_bytes_back _ _ _ 5 ⟨wk.heap.size, 0, none⟩ 1 [d] Try.underlying22 Try.underlying5 Try.underlying9 (fun j hj => by
            simp at hj
            subst hj
            rw [hdd]
            simp [Addr.add])
        have hba : Below wk.heap.size wk (wk.alloc (.cells #[.int .u8 (48 + k % 10)] 5)) := (Below.refl _ _).alloc (Nat.le_refl _) _
        have HBA := Lib.hid (hb.trans (hba.mono hb.size))
        have HU := Lib.hid hu
        have HB := Lib.hid (hb)
        clear hkn hs hP hll hst hd hu hb hdd hba
        go_wp2
        go_roundw
        case rel => exact ⟨u, d :: l, k / 10, kn / 10, rfl, rfl, HN.out.2.2.1, HU.out, HN.out.1, by omega, by omega, HN.out.2.1, HBA.out⟩
        case measure => (simp [intOf]; omega)
      · obtain rfl : k = 0 := by omega
        obtain rfl : kn = 0 := by omega
        have hcat : ∀ w : World, (Op.stringOp .add (ByteArray.mk #[45]) s).run Try.prog w = .ok (.string (ByteArray.mk (45 :: l).toArray)) w := fun w => by
          rw [hs]
          exact cat_run [45] l (by simp; omega) w
        obtain ⟨u, hu⟩ : ∃ u, u = ByteArray.mk (45 :: l).toArray := ⟨_, rfl⟩
        rw [← hu] at hcat
        have HR := Lib.hid (show Value.string u = txt (decZ z) from by rw [HE.out, hP, decP_zero, hu]; rfl)
        clear hs hP hll hu hkn
        go_wp2
        go_ret
        exact ⟨ret_eq HR.out, hb⟩
  · obtain ⟨m, hm⟩ : ∃ m : Nat, z = (m : Int) := ⟨z.toNat, by omega⟩
    have HL := Lib.hid (show (decP m).length ≤ 10 from by
      unfold decP
      split
      · simp
      · exact decL_len m 9 (by omega))
    have HM := Lib.hid hm
    have hzz : ¬ z < -z := by omega
    by_cases hz1 : z = 0
    · have HE := Lib.hid (show Value.string (ByteArray.mk #[48]) = txt (decZ z) from by rw [hz1]; simp [decZ, decL_small, txt, dig])
      have hz0 : (z == 0) = true := by simp [hz1]
      clear hm hz1
      go_enter Try.func44, Try.ntmps44
      go_wp2
      go_loopw [3, 4] (fun ss sk wr => ∃ (s : ByteArray) (l : List UInt8) (k : Int) (kn : Nat), ss = .string s ∧ sk = .int .i64 k ∧ k = kn ∧ s = ByteArray.mk l.toArray ∧ decP m = decP kn ++ l ∧ 0 ≤ k ∧ k ≤ 2000000000 ∧ l.length + (decP kn).length ≤ 10 ∧ Below w.heap.size w wr) (fun _ sk _ => (intOf sk).toNat)
      case atStart => exact ⟨_, [], _, m, rfl, rfl, HM.out, rfl, by simp, by omega, by have := HM.out; omega, by simpa using HL.out, HBR.out⟩
      case round =>
        obtain ⟨wk, rfl⟩ : ∃ W, W = wr := ⟨_, rfl⟩
        clear HBR
        obtain ⟨s, l, k, kn, rfl, rfl, hkn, hs, hP, hk0, hk1, hll, hb⟩ := hrel
        by_cases hk : 0 < k
        · obtain ⟨d, hd⟩ : ∃ d : UInt8, d = dig kn := ⟨_, rfl⟩
          obtain ⟨u, hu⟩ : ∃ u, u = ByteArray.mk (d :: l).toArray := ⟨_, rfl⟩
          have hst := decP_step (n := kn) (by omega)
          have HN := Lib.hid (show decP m = decP (kn / 10) ++ (d :: l) ∧ (d :: l).length + (decP (kn / 10)).length ≤ 10 ∧ k / 10 = ((kn / 10 : Nat) : Int) ∧ (kn / 10 : Nat) < k.toNat from ⟨by rw [hP, hst, ← hd]; simp, by rw [hst, List.length_append] at hll; simp at hll ⊢; omega, by omega, by omega⟩)
          have hcat : ∀ w : World, (Op.stringOp .add (ByteArray.mk #[d]) s).run Try.prog w = .ok (.string u) w := fun w => by
            rw [hs, hu]
            exact cat_run [d] l (by simp; omega) w
          have hdd : (48 + k % 10) = ((d.toNat : Nat) : Int) := by
            rw [hd, hkn, dig, UInt8.toNat_ofNat']
            omega
          have hcv : (convert 22 9 (.slice (some ⟨wk.heap.size, 0, none⟩) 1 1)).run Try.prog (wk.alloc (.cells #[.int .u8 (48 + k % 10)] 5)) = .ok (.string (ByteArray.mk #[d])) (wk.alloc (.cells #[.int .u8 (48 + k % 10)] 5)) :=
            run_convert_bytes_back _ _ _ 5 ⟨wk.heap.size, 0, none⟩ 1 [d] Try.underlying22 Try.underlying5 Try.underlying9 (fun j hj => by
              simp at hj
              subst hj
              rw [hdd]
              simp [Addr.add])
          have hba : Below wk.heap.size wk (wk.alloc (.cells #[.int .u8 (48 + k % 10)] 5)) := (Below.refl _ _).alloc (Nat.le_refl _) _
          have HBA := Lib.hid (hb.trans (hba.mono hb.size))
          have HU := Lib.hid hu
          have HB := Lib.hid (hb)
          clear hkn hs hP hll hst hd hu hb hdd hba
          go_wp2
          go_roundw
          case rel => exact ⟨u, d :: l, k / 10, kn / 10, rfl, rfl, HN.out.2.2.1, HU.out, HN.out.1, by omega, by omega, HN.out.2.1, HBA.out⟩
          case measure => (simp [intOf]; omega)
        · clear hs hP hll hkn
          go_wp2
          go_ret
          exact ⟨ret_eq HE.out, hb⟩
    · have HE := Lib.hid (show decZ z = decP m from by rw [decZ, if_neg hz, decP, if_neg (by omega), show z.toNat = m by omega])
      have hz0 : (z == 0) = false := by simp [hz1]
      clear hm hz1
      go_enter Try.func44, Try.ntmps44
      go_wp2
      go_loopw [3, 4] (fun ss sk wr => ∃ (s : ByteArray) (l : List UInt8) (k : Int) (kn : Nat), ss = .string s ∧ sk = .int .i64 k ∧ k = kn ∧ s = ByteArray.mk l.toArray ∧ decP m = decP kn ++ l ∧ 0 ≤ k ∧ k ≤ 2000000000 ∧ l.length + (decP kn).length ≤ 10 ∧ Below w.heap.size w wr) (fun _ sk _ => (intOf sk).toNat)
      case atStart => exact ⟨_, [], _, m, rfl, rfl, HM.out, rfl, by simp, by omega, by have := HM.out; omega, by simpa using HL.out, HBR.out⟩
      case round =>
        obtain ⟨wk, rfl⟩ : ∃ W, W = wr := ⟨_, rfl⟩
        clear HBR
        obtain ⟨s, l, k, kn, rfl, rfl, hkn, hs, hP, hk0, hk1, hll, hb⟩ := hrel
        by_cases hk : 0 < k
        · obtain ⟨d, hd⟩ : ∃ d : UInt8, d = dig kn := ⟨_, rfl⟩
          obtain ⟨u, hu⟩ : ∃ u, u = ByteArray.mk (d :: l).toArray := ⟨_, rfl⟩
          have hst := decP_step (n := kn) (by omega)
          have HN := Lib.hid (show decP m = decP (kn / 10) ++ (d :: l) ∧ (d :: l).length + (decP (kn / 10)).length ≤ 10 ∧ k / 10 = ((kn / 10 : Nat) : Int) ∧ (kn / 10 : Nat) < k.toNat from ⟨by rw [hP, hst, ← hd]; simp, by rw [hst, List.length_append] at hll; simp at hll ⊢; omega, by omega, by omega⟩)
          have hcat : ∀ w : World, (Op.stringOp .add (ByteArray.mk #[d]) s).run Try.prog w = .ok (.string u) w := fun w => by
            rw [hs, hu]
            exact cat_run [d] l (by simp; omega) w
          have hdd : (48 + k % 10) = ((d.toNat : Nat) : Int) := by
            rw [hd, hkn, dig, UInt8.toNat_ofNat']
            omega
          have hcv : (convert 22 9 (.slice (some ⟨wk.heap.size, 0, none⟩) 1 1)).run Try.prog (wk.alloc (.cells #[.int .u8 (48 + k % 10)] 5)) = .ok (.string (ByteArray.mk #[d])) (wk.alloc (.cells #[.int .u8 (48 + k % 10)] 5)) :=
            run_convert_bytes_back _ _ _ 5 ⟨wk.heap.size, 0, none⟩ 1 [d] Try.underlying22 Try.underlying5 Try.underlying9 (fun j hj => by
              simp at hj
              subst hj
              rw [hdd]
              simp [Addr.add])
          have hba : Below wk.heap.size wk (wk.alloc (.cells #[.int .u8 (48 + k % 10)] 5)) := (Below.refl _ _).alloc (Nat.le_refl _) _
          have HBA := Lib.hid (hb.trans (hba.mono hb.size))
          have HU := Lib.hid hu
          have HB := Lib.hid (hb)
          clear hkn hs hP hll hst hd hu hb hdd hba
          go_wp2
          go_roundw
          case rel => exact ⟨u, d :: l, k / 10, kn / 10, rfl, rfl, HN.out.2.2.1, HU.out, HN.out.1, by omega, by omega, HN.out.2.1, HBA.out⟩
          case measure => (simp [intOf]; omega)
        · obtain rfl : k = 0 := by omega
          obtain rfl : kn = 0 := by omega
          have HR := Lib.hid (show Value.string s = txt (decZ z) from by rw [HE.out, hP, decP_zero, hs]; rfl)
          clear hs hP hll hkn
          go_wp2
          go_ret
          exact ⟨ret_eq HR.out, hb⟩
end Go.Proofs.Ytbcjhpgkodeoeaa
