/- The texts FOk, Txt, KnoA, Cpy, FldInv, Push, AppI, Tab in one: each says at its head what it proves. Conditions: as said there. -/
import Derived.Laws.Concat
import Derived.Laws.IdiomStrings
import Derived.Deep.AppendLies
import Derived.Maps.AppendAt
import Derived.Laws.OwnMore
import Derived.Lib.AppendZeros
import Derived.Test.YtbcjhpgkodeoeaaGreatDoorN03
import Derived.Test.YtbcjhpgkodeoeaaGreatDoorN02
import Derived.Test.YtbcjhpgkodeoeaaGreatDoorN01
set_option linter.unusedSimpArgs false
set_option linter.unusedVariables false
/- The tests on fields, of the program and of the reference: what they return. Conditions: polynomials whose powers have at most 1048576 elements. -/
namespace Go.Proofs.YtbcjhpgkodeoeaaGreatDoor
open Go.RowKit Go.Sort

def fldOkB (f : FldZ) : Bool := dimB f.dim && decide ((f.parts.length : Int) = f.dim) && f.parts.all (polyOkB · f.dim)
theorem fldOkB_dim {f : FldZ} (h : dimB f.dim = false) : fldOkB f = false := by simp [fldOkB, h]
theorem fldOkB_len {f : FldZ} (h : (f.parts.length : Int) ≠ f.dim) : fldOkB f = false := by simp [fldOkB, h]
theorem fldOkB_all {f : FldZ} (h1 : dimB f.dim = true) (h2 : (f.parts.length : Int) = f.dim) : fldOkB f = f.parts.all (polyOkB · f.dim) := by simp [fldOkB, h1, h2]

theorem polyOk_eq {b : Bool} (v : Value) (xs : List MonZ) (dim : Int) (w : World) (h : RdMs w v xs) (hfit : ∀ m ∈ xs, Fit_Mon m) (hb : polyOkB xs dim = b) :
    Calls Tryz.prog 44 #[v, .int .i64 dim] w fun e w' => e = .returned (.bool b) ∧ Below w.heap.size w w' := hb ▸ polyOk_any v xs dim w h hfit
theorem sPolyOk_eq {b : Bool} (v : Value) (xs : List MonZ) (dim : Int) (w : World) (h : RdMs w v xs) (hb : polyOkB xs dim = b) :
    Calls Tryz.prog 79 #[v, .int .i64 dim] w (Qt (.bool b) w) := hb ▸ sPolyOk_any v xs dim w h

set_option maxHeartbeats 1600000 in
theorem fldOk_any (v : Value) (f : FldZ) (w : World) (h : RdFld w v f) (hfit : ∀ p ∈ f.parts, ∀ m ∈ p, Fit_Mon m) :
    Calls Tryz.prog 35 #[v] w fun e w' => e = .returned (.bool (fldOkB f)) ∧ Below w.heap.size w w' := by
  obtain ⟨vP, rfl, hI, hp⟩ := h
  obtain ⟨W, hW⟩ : ∃ W, W = w.alloc (.cells #[.int .i64 f.dim, vP] 30) := ⟨_, rfl⟩
  have hb0 : Below w.heap.size w W := hW ▸ (Below.refl _ _).alloc (Nat.le_refl _) _
  have hpW := rdMss_mono hb0 hp
  obtain ⟨ad, len, cap, rfl, hl, hlc, hcm, h'⟩ := rdS_open hpW
  have HL := Lib.hid hl
  have HF := Lib.hid hfit
  have hsz : W.heap.size = w.heap.size + 1 := by rw [hW]; simp
  have hd0 : W.cell? ⟨w.heap.size, 0, none⟩ = some (.int .i64 f.dim) := by rw [hW]; simp
  have hd1 : W.cell? ⟨w.heap.size, 1, none⟩ = some (.slice ad len cap) := by rw [hW]; simp
  have HW := Lib.hid hW
  have HSZ := Lib.hid hsz
  have HB0 := Lib.hid hb0
  clear hl hfit hp hpW hsz hW
  cases hdim : dimB f.dim with
  | false =>
    have HP := Lib.hid (fldOkB_dim hdim)
    go_enter Tryz.func35, Tryz.ntmps35
    go_wp2_with (go_at_call 88; ((with_reducible refine (isDim_eq hdim _).mono ?_); rintro e w' ⟨rfl, rfl⟩))
    go_ret
    exact ⟨ret_bool HP.out.symm, by rw [← HW.out]; exact hb0⟩
  | true =>
  by_cases hld : (len : Int) = f.dim
  case neg =>
    have hldb : ((len : Int) != f.dim) = true := by simpa using hld
    have HP := Lib.hid (fldOkB_len (f := f) (by rw [HL.out]; exact hld))
    clear hld
    go_enter Tryz.func35, Tryz.ntmps35
    go_wp2_with (go_at_call 88; ((with_reducible refine (isDim_eq hdim _).mono ?_); rintro e w' ⟨rfl, rfl⟩))
    go_ret
    exact ⟨ret_bool HP.out.symm, by rw [← HW.out]; exact hb0⟩
  have hldb : ((len : Int) != f.dim) = false := by simpa using hld
  have HP := Lib.hid (fldOkB_all hdim (by rw [HL.out]; exact hld))
  clear hld
  go_enter Tryz.func35, Tryz.ntmps35
  go_wp2_with (go_at_call 88; ((with_reducible refine (isDim_eq hdim _).mono ?_); rintro e w' ⟨rfl, rfl⟩))
  rw [← HW.out]
  go_loopw [20] (fun i wr => ∃ k : Nat, k ≤ len ∧ i = .int .i64 k ∧ (f.parts.take k).all (polyOkB · f.dim) = true ∧ Below W.heap.size W wr) (fun i _ => len - (intOf i).toNat)
  case atStart => exact ⟨0, Nat.zero_le _, rfl, by simp, Below.refl _ _⟩
  case round =>
    obtain ⟨k, hk, rfl, ha, hbw⟩ := hrel
    have HA := Lib.hid ha
    clear ha
    have h'r := rdMss_mono hbw h'
    have hc0 : wr.cell? ⟨w.heap.size, 0, none⟩ = some (.int .i64 f.dim) := (hbw.cell (p := ⟨w.heap.size, 0, none⟩) (by rw [HSZ.out]; simp)).trans hd0
    by_cases hlt : k < len
    case neg =>
      go_wp2
      go_ret
      exact ⟨ret_bool (by rw [HP.out]; exact (all_done (by rw [HL.out]; omega) HA.out).symm), HB0.out.trans (hbw.mono HB0.out.size)⟩
    obtain ⟨b, off, ad', len', cap', x, rfl, hx, hcx, h6, h7, h8, h9, hbs⟩ := rdMss_get h'r hlt
    have HX := Lib.hid hx
    have hfx : ∀ m ∈ x, Fit_Mon m := HF.out x (List.mem_of_getElem? hx)
    clear hx h6
    cases hok : polyOkB x f.dim with
    | true =>
      go_wp2_with fail
      refine (polyOk_eq _ x _ _ h9 hfx hok).mono ?_
      rintro e w1 ⟨rfl, hb1⟩
      go_wp2
      go_roundw
      case rel => exact ⟨k + 1, by omega, by go_num, all_snoc HX.out HA.out hok, hbw.trans (hb1.mono hbw.size)⟩
      case measure => simp [intOf]; omega
    | false =>
      go_wp2_with fail
      refine (polyOk_eq _ x _ _ h9 hfx hok).mono ?_
      rintro e w1 ⟨rfl, hb1⟩
      have hbx := hbw.trans (hb1.mono hbw.size)
      go_wp2
      go_ret
      exact ⟨ret_bool (by rw [HP.out]; exact (all_false HX.out hok).symm), HB0.out.trans (hbx.mono HB0.out.size)⟩
theorem fldOk_eq {b : Bool} (v : Value) (f : FldZ) (w : World) (h : RdFld w v f) (hfit : ∀ p ∈ f.parts, ∀ m ∈ p, Fit_Mon m) (hb : fldOkB f = b) :
    Calls Tryz.prog 35 #[v] w fun e w' => e = .returned (.bool b) ∧ Below w.heap.size w w' := hb ▸ fldOk_any v f w h hfit

set_option maxHeartbeats 1600000 in
theorem sFldOk_any (v : Value) (f : FldZ) (w : World) (h : RdFld w v f) :
    Calls Tryz.prog 78 #[v] w fun e w' => e = .returned (.bool (fldOkB f)) ∧ Below w.heap.size w w' := by
  obtain ⟨vP, rfl, hI, hp⟩ := h
  obtain ⟨W, hW⟩ : ∃ W, W = w.alloc (.cells #[.int .i64 f.dim, vP] 30) := ⟨_, rfl⟩
  have hb0 : Below w.heap.size w W := hW ▸ (Below.refl _ _).alloc (Nat.le_refl _) _
  have hpW := rdMss_mono hb0 hp
  obtain ⟨ad, len, cap, rfl, hl, hlc, hcm, h'⟩ := rdS_open hpW
  have HL := Lib.hid hl
  have hsz : W.heap.size = w.heap.size + 1 := by rw [hW]; simp
  have hd0 : W.cell? ⟨w.heap.size, 0, none⟩ = some (.int .i64 f.dim) := by rw [hW]; simp
  have hd1 : W.cell? ⟨w.heap.size, 1, none⟩ = some (.slice ad len cap) := by rw [hW]; simp
  have HW := Lib.hid hW
  have HSZ := Lib.hid hsz
  have HB0 := Lib.hid hb0
  clear hl hp hpW hsz hW
  cases hdim : dimB f.dim with
  | false =>
    have hdimI : inB f.dim 1 6 = false := hdim
    have HP := Lib.hid (fldOkB_dim hdim)
    go_enter Tryz.func78, Tryz.ntmps78
    go_wp2_with (go_at_call 131; ((with_reducible refine (l1In_eq hdimI _).mono ?_); rintro e w' ⟨rfl, rfl⟩))
    go_ret
    exact ⟨ret_bool HP.out.symm, by rw [← HW.out]; exact hb0⟩
  | true =>
  have hdimI : inB f.dim 1 6 = true := hdim
  by_cases hld : (len : Int) = f.dim
  case neg =>
    have hldb : ((len : Int) != f.dim) = true := by simpa using hld
    have HP := Lib.hid (fldOkB_len (f := f) (by rw [HL.out]; exact hld))
    clear hld
    go_enter Tryz.func78, Tryz.ntmps78
    go_wp2_with (go_at_call 131; ((with_reducible refine (l1In_eq hdimI _).mono ?_); rintro e w' ⟨rfl, rfl⟩))
    go_ret
    exact ⟨ret_bool HP.out.symm, by rw [← HW.out]; exact hb0⟩
  have hldb : ((len : Int) != f.dim) = false := by simpa using hld
  have HLD := Lib.hid hld
  have HP := Lib.hid (fldOkB_all hdim (by rw [HL.out]; exact hld))
  clear hld
  go_enter Tryz.func78, Tryz.ntmps78
  go_wp2_with (go_at_call 131; ((with_reducible refine (l1In_eq hdimI _).mono ?_); rintro e w' ⟨rfl, rfl⟩))
  rw [← HW.out]
  go_loopw [3] (fun i wr => ∃ k : Nat, k ≤ len ∧ i = .int .i64 k ∧ (f.parts.take k).all (polyOkB · f.dim) = true ∧ Below W.heap.size W wr) (fun i _ => len - (intOf i).toNat)
  case atStart => exact ⟨0, Nat.zero_le _, rfl, by simp, Below.refl _ _⟩
  case round =>
    obtain ⟨k, hk, rfl, ha, hbw⟩ := hrel
    have HA := Lib.hid ha
    clear ha
    have h'r := rdMss_mono hbw h'
    have hc0 : wr.cell? ⟨w.heap.size, 0, none⟩ = some (.int .i64 f.dim) := (hbw.cell (p := ⟨w.heap.size, 0, none⟩) (by rw [HSZ.out]; simp)).trans hd0
    have hc1 : wr.cell? ⟨w.heap.size, 1, none⟩ = some (.slice ad len cap) := (hbw.cell (p := ⟨w.heap.size, 1, none⟩) (by rw [HSZ.out]; simp)).trans hd1
    by_cases hlt : k < len
    case neg =>
      have hkd : ¬ (k : Int) < f.dim := by rw [← HLD.out]; omega
      go_wp2
      go_ret
      exact ⟨ret_bool (by rw [HP.out]; exact (all_done (by rw [HL.out]; omega) HA.out).symm), HB0.out.trans (hbw.mono HB0.out.size)⟩
    have hkd : (k : Int) < f.dim := by rw [← HLD.out]; omega
    obtain ⟨b, off, ad', len', cap', x, rfl, hx, hcx, h6, h7, h8, h9, hbs⟩ := rdMss_get h'r hlt
    have HX := Lib.hid hx
    clear hx h6
    cases hok : polyOkB x f.dim with
    | true =>
      go_wp2
      go_quiet ((go_at_call 79; exact quiet_qt (sPolyOk_eq _ x _ _ (rdMs_mono (blw_drewN (Below.refl _ _) _) h9) hok)))
      go_wp2
      go_roundw
      case rel => exact ⟨k + 1, by omega, by go_num, all_snoc HX.out HA.out hok, blw_drewN hbw _⟩
      case measure => simp [intOf]; omega
    | false =>
      go_wp2
      go_quiet ((go_at_call 79; exact quiet_qt (sPolyOk_eq _ x _ _ (rdMs_mono (blw_drewN (Below.refl _ _) _) h9) hok)))
      go_wp2
      go_ret
      exact ⟨ret_bool (by rw [HP.out]; exact (all_false HX.out hok).symm), blw_drewN (HB0.out.trans (hbw.mono HB0.out.size)) _⟩
theorem sFldOk_eq {b : Bool} (v : Value) (f : FldZ) (w : World) (h : RdFld w v f) (hb : fldOkB f = b) :
    Calls Tryz.prog 78 #[v] w fun e w' => e = .returned (.bool b) ∧ Below w.heap.size w w' := hb ▸ sFldOk_any v f w h
end Go.Proofs.YtbcjhpgkodeoeaaGreatDoor

/- Numbers as texts. Conditions: none. -/
namespace Go.Proofs.YtbcjhpgkodeoeaaGreatDoor
open Go.RowKit Go.Sort

/-- A text out of its bytes. -/
def txt (l : List UInt8) : Value := .string ⟨l.toArray⟩
theorem txt_append (a b : List UInt8) : (ByteArray.mk a.toArray) ++ (ByteArray.mk b.toArray) = ByteArray.mk (a ++ b).toArray := by
  apply ByteArray.ext
  simp

theorem cat_run {P : Program} (a b : List UInt8) (h : a.length + b.length ≤ 1000000) (w : World) : (Op.stringOp .add (ByteArray.mk a.toArray) (ByteArray.mk b.toArray)).run P w = .ok (.string (ByteArray.mk (a ++ b).toArray)) w := by
  rw [run_string_add_sum w _ _ (by simp [ByteArray.size]; omega), txt_append]
/-- A digit. -/
def dig (n : Nat) : UInt8 := UInt8.ofNat (48 + n % 10)
/-- The digits of a number. -/
def decL (n : Nat) : List UInt8 := if n < 10 then [dig n] else decL (n / 10) ++ [dig n]
termination_by n
decreasing_by omega
theorem decL_small {n : Nat} (h : n < 10) : decL n = [dig n] := by rw [decL, if_pos h]
theorem decL_big {n : Nat} (h : ¬ n < 10) : decL n = decL (n / 10) ++ [dig n] := by rw [decL, if_neg h]

theorem enc_ascii (n : Nat) (h : n < 128) : Utf8.encode (n : Int) = ByteArray.mk #[UInt8.ofNat n] := by
  unfold Utf8.encode
  have hv : Utf8.valid (n : Int) = true := by
    unfold Utf8.valid
    simp
    omega
  simp only [hv, if_true, Int.toNat_natCast]
  rw [if_pos (by omega)]
theorem enc_dig (n : Nat) : Utf8.encode (48 + (n : Int) % 10) = ByteArray.mk [dig n].toArray := by
  rw [show (48 : Int) + (n : Int) % 10 = ((48 + n % 10 : Nat) : Int) by omega, enc_ascii _ (by omega)]
  rfl
theorem decL_len : ∀ (n k : Nat), n < 10 ^ (k + 1) → (decL n).length ≤ k + 1 := by
  intro n k
  induction k generalizing n with
  | zero => intro h; rw [decL_small (by omega)]; simp
  | succ k ih =>
    intro h
    by_cases hs : n < 10
    · rw [decL_small hs]; simp
    · rw [decL_big hs, List.length_append]
      have := ih (n / 10) (by rw [Nat.pow_succ] at h; omega)
      simp
      omega

set_option maxRecDepth 100000 in
set_option maxHeartbeats 800000 in
theorem decimal_z (n : Nat) : n < 2000000000 → ∀ (z : Int) (w : World), z = (n : Int) → Calls Tryz.prog 91 #[.int .i64 z] w fun e w' => e = .returned (txt (decL n)) ∧ w = w' := by
  induction n using Nat.strongRecOn with
  | ind n ih =>
    intro hn z w hz
    by_cases h : n < 10
    · have hd : Value.string (Utf8.encode (48 + z)) = txt (decL n) := by
        have h1 := enc_dig n
        rw [show (n : Int) % 10 = z by omega] at h1
        rw [decL_small h, h1]
        rfl
      have HD := Lib.hid hd
      have hI : z < 10 := by omega
      have hI0 : 0 ≤ z := by omega
      clear hd ih hn h hz
      go_enter Tryz.func91, Tryz.ntmps91
      go_wp2
      go_ret
      exact ⟨ret_eq HD.out, rfl⟩
    · obtain ⟨s, hs⟩ : ∃ s, s = ByteArray.mk (decL (n / 10)).toArray := ⟨_, rfl⟩
      obtain ⟨d, hd⟩ : ∃ d, d = Utf8.encode (48 + z % 10) := ⟨_, rfl⟩
      obtain ⟨u, hu⟩ : ∃ u, u = ByteArray.mk (decL n).toArray := ⟨_, rfl⟩
      have IH := Lib.hid (show Calls Tryz.prog 91 #[.int .i64 (z / 10)] w fun e w' => e = .returned (.string s) ∧ w = w' from by
        rw [hs]
        exact ih (n / 10) (by omega) (by omega) (z / 10) w (by omega))
      have hcat : ∀ w : World, (Op.stringOp .add s d).run Tryz.prog w = .ok (.string u) w := fun w => by
        rw [hs, hd, hu, hz, enc_dig, cat_run _ _ (by
          have := decL_len (n / 10) 9 (by omega)
          simp
          omega), ← decL_big h]
      have HD := Lib.hid (show Value.string u = txt (decL n) from by rw [hu]; rfl)
      have hI : 10 ≤ z := by omega
      have hI2 : z ≤ 2000000000 := by omega
      have hde := hd.symm
      clear ih hn h hs hu hd hz
      go_enter Tryz.func91, Tryz.ntmps91
      go_wp2_with fail
      refine IH.out.mono ?_
      rintro e w' ⟨rfl, rfl⟩
      go_wp2
      go_ret
      exact ⟨ret_eq HD.out, rfl⟩
theorem decimal_any {n : Nat} (hn : n < 2000000000) {z : Int} (hz : z = (n : Int)) (w : World) : Calls Tryz.prog 91 #[.int .i64 z] w fun e w' => e = .returned (txt (decL n)) ∧ w = w' := decimal_z n hn z w hz

/-- An integer as a text. -/
def decZ (z : Int) : List UInt8 := if z < 0 then 45 :: decL (-z).toNat else decL z.toNat

end Go.Proofs.YtbcjhpgkodeoeaaGreatDoor

/- The reference's nodes: roots, Gauss, Radau, Lobatto; the texts of tableaus. Conditions: none. -/
namespace Go.Proofs.YtbcjhpgkodeoeaaGreatDoor
open Go.RowKit

/-- A number. -/
def NumZ (x : Int) : Prop := 0 ≤ x ∧ x ≤ 1000000270
theorem numZ_i64 {x : Int} (h : NumZ x) : I64 x := ⟨by have := h.1; omega, by have := h.2; omega⟩
theorem lit_own {e : Nat} (w : World) (xs : List Int) (hx : ∀ x ∈ xs, I64 x) (hl : xs.length ≤ 1000) (cs : Array Value) (hcs : cs = (xs.map (Value.int .i64)).toArray) (n : Nat) (hn : n = xs.length) :
    OwnI e (w.alloc (.cells cs e)) (.slice (some ⟨w.heap.size, 0, none⟩) n n) xs [w.heap.size] := by
  subst hcs hn
  refine ⟨⟨by simp, .inr ⟨w.heap.size, xs.length, (xs.map (Value.int .i64)).toArray, rfl, Nat.zero_le _, heap_alloc_new w _, Nat.le_refl _, by unfold maxLen; omega, by simp, by simp [List.take_of_length_le]⟩⟩, rfl, hx⟩
theorem sFraction_eq {a b y : Int} (h : fracZ a b = y) (w : World) : Calls Tryz.prog 75 #[.int .i64 a, .int .i64 b] w fun e w' => e = .returned (.int .i64 y) ∧ w = w' := h ▸ sFraction_any a b w
end Go.Proofs.YtbcjhpgkodeoeaaGreatDoor

/- A slice copied. Conditions: none. -/
namespace Go.Proofs.YtbcjhpgkodeoeaaGreatDoor
open Go.RowKit

theorem rdI_news {w : World} {b off n cap : Nat} {xs : List Int} (h : RdI w (.slice (some ⟨b, off, none⟩) n cap) xs) : ∀ (j : Nat) u, (xs.map (Value.int .i64))[j]? = some u → w.cell? ((⟨b, off, none⟩ : Addr).add j) = some u := by
  intro j u hu
  obtain ⟨ad', len', cap', he, hl, _, _, _⟩ := rdS_open h
  injection he with e1 e2 e3
  subst e2
  rw [List.getElem?_map] at hu
  cases hx : xs[j]? with
  | none => rw [hx] at hu; simp at hu
  | some x =>
    rw [hx] at hu
    simp only [Option.map_some, Option.some.injEq] at hu
    have hj : j < n := by rw [← hl]; exact (List.getElem?_eq_some_iff.1 hx).1
    obtain ⟨b', off', x', hb, hx', hc, _, _⟩ := rdI_get h hj
    simp only [Option.some.injEq, Addr.mk.injEq] at hb
    obtain ⟨rfl, rfl, _⟩ := hb
    rw [hx] at hx'
    obtain rfl := Option.some.inj hx'
    have hadd : (⟨b, off, none⟩ : Addr).add j = ⟨b, off + j, none⟩ := by unfold Addr.add; split <;> simp_all
    rw [hadd, hc, hu]

/-- A copy of a slice by an append to an empty one. -/
theorem clone_own {e n : Nat} {W w2 : World} {y : List Int} {gg capn : Nat} (hown : w2.ownsRow 0 e 1 (.slice (some ⟨gg, 0, none⟩) (0 + n) capn) (0 + n) ([] ++ y.map (Value.int .i64))) (hg : (W.alloc (.cells #[] e)).grownBy w2 (some W.heap.size))
    (hat : some W.heap.size = some gg ∨ gg = W.heap.size + 1) (hn : y.length = n) (hI : ∀ x ∈ y, I64 x) : OwnI e w2 (.slice (some ⟨gg, 0, none⟩) n capn) y [gg] ∧ W.heap.size ≤ gg ∧ Below W.heap.size W w2 := by
  rw [Nat.zero_add, List.nil_append] at hown
  have hb1 : Below W.heap.size W (W.alloc (.cells #[] e)) := (Below.refl _ _).alloc (Nat.le_refl _) _
  refine ⟨⟨by rw [hn]; exact hown, rfl, hI⟩, ?_, hb1.grown hg hb1.size (fun k hk => by simp at hk; omega)⟩
  rcases hat with h | h
  · simp at h; omega
  · omega
end Go.Proofs.YtbcjhpgkodeoeaaGreatDoor

/- A field that is being made: its box, and its parts so far. Conditions: none. -/
namespace Go.Proofs.YtbcjhpgkodeoeaaGreatDoor
open Go.RowKit Go.Sort

theorem ownS_push2 {α : Type} {e size : Nat} {El : World → List Value → α → List Nat → Prop} (hE : ∀ w w' u x f g, El w u x f → Only g w w' → (∀ b ∈ f, b ∉ g) → El w' u x f)
    {w w1 w2 : World} {v v' : Value} {xs : List α} {x : α} {us : List (List Value)} {u : List Value} {fs f : List Nat} {n : Nat}
    (hone : ∀ u ∈ us, u.length = size) (hels : OwnEls El w us xs fs) (hnd : (v.ownBlock.toList ++ fs).Nodup) (hx : El w u x f) (hul : u.length = size) (hdis : ∀ b ∈ f, b ∉ v.ownBlock.toList ++ fs) (hfn : f.Nodup)
    (hfl : ∀ b ∈ f, b < w.heap.size) (hsl : ∀ b ∈ fs, b < w.heap.size) (hn : xs.length = n)
    (h1 : Below w.heap.size w w1) (hown : w2.ownsRow 0 e size v' (n + 1) (us.flatten ++ u)) (hg : w1.grownBy w2 v.ownBlock) (hv : ∀ b, v'.ownBlock = some b → v.ownBlock = some b ∨ w1.heap.size ≤ b) :
    ∃ fp', OwnS e size El w2 v' (xs ++ [x]) fp' ∧ (∀ b ∈ fp', b ∈ v.ownBlock.toList ++ fs ∨ b ∈ f ∨ w1.heap.size ≤ b) ∧ Only v.ownBlock.toList w w2 := by
  subst hn
  have hO : Only v.ownBlock.toList w w2 := (Only.of_below h1).trans ⟨hg.os, hg.tape, hg.output, hg.size, fun k hk hn => hg.block k hk (fun e => hn (by rw [← e]; simp))⟩
  rw [List.nodup_append] at hnd
  have hv' : ∀ b, v'.ownBlock = some b → (b ∈ v.ownBlock.toList ∨ w1.heap.size ≤ b) := fun b hb => (hv b hb).imp (fun h => by rw [h]; simp) id
  refine ⟨v'.ownBlock.toList ++ (fs ++ f), ⟨us ++ [u], fs ++ f, by simpa using hown, ?_, ?_, rfl, ?_⟩, ?_, hO⟩
  · intro u' hu'
    simp at hu'
    rcases hu' with hu' | rfl
    · exact hone u' hu'
    · exact hul
  · refine ownEls_snoc (ownEls_only (fun u x f h hd => hE _ _ _ _ _ _ h hO hd) hels (fun b hb hm => hnd.2.2 b hm b hb rfl)) (hE _ _ _ _ _ _ hx hO (fun b hb hm => hdis b hb (by simp at hm; simp [hm])))
  · rw [List.nodup_append, List.nodup_append]
    refine ⟨by cases v'.ownBlock <;> simp, ⟨hnd.2.1, hfn, fun a ha b hb e => hdis b hb (by simp [← e, ha])⟩, fun a ha b hb e => ?_⟩
    subst e
    rw [Option.mem_toList] at ha
    have h1s := h1.size
    rcases hv' a ha with h | h
    · simp at hb
      rcases hb with hb | hb
      · exact hnd.2.2 a h a hb rfl
      · exact hdis a hb (by simp at h; simp [h])
    · simp at hb
      rcases hb with hb | hb
      · have := hsl a hb; omega
      · have := hfl a hb; omega
  · intro b hb
    simp only [List.mem_append, Option.mem_toList] at hb
    rcases hb with hb | hb | hb
    · rcases hv b hb with h | h
      · left; simp [h]
      · right; right; exact h
    · left; simp [hb]
    · right; left; exact hb

/-- A field that is being made: its box, and its parts so far. -/
structure FldInv (e1 e2 e : Nat) (W w : World) (Bf : Nat) (dim : Int) (v : Value) (xs : List (List MonZ)) (fs : List Nat) : Prop where
  own : OwnMss e1 e2 e w v xs fs
  new : ∀ b ∈ fs, W.heap.size ≤ b
  only : Only [Bf] W w
  c0 : w.cell? ⟨Bf, 0, none⟩ = some (.int .i64 dim)
  c1 : w.cell? ⟨Bf, 1, none⟩ = some v
  f1 : w.frozen? ⟨Bf, 1, none⟩ = false
  lt : Bf < W.heap.size
theorem fldInv_start {e1 e2 e t : Nat} {w : World} {dim : Int} {W : World} (hW : W = w.alloc (.cells #[.int .i64 dim, .slice none 0 0] t)) : FldInv e1 e2 e W W w.heap.size dim (.slice none 0 0) [] [] := by
  subst hW
  exact ⟨⟨[], [], World.ownsRow_nil _ _ _ _, by simp, rfl, rfl, by simp⟩, by simp, Only.refl _ _, by simp, by simp, by simp, by simp⟩
theorem FldInv.below {e1 e2 e : Nat} {w0 W w : World} {Bf : Nat} {dim : Int} {v : Value} {xs : List (List MonZ)} {fs : List Nat} (h : FldInv e1 e2 e W w Bf dim v xs fs) (hb : Below w0.heap.size w0 W) (hB : w0.heap.size ≤ Bf) : Below w0.heap.size w0 w :=
  hb.trans (h.only.below hb.size (by simpa using hB))
/-- Behind a call, an append to the parts, and the store of the new slice of parts. -/
theorem FldInv.push {e1 e2 e : Nat} {W w wa w1 w2 : World} {Bf : Nat} {dim : Int} {v v' p : Value} {xs : List (List MonZ)} {x : List MonZ} {us : List (List Value)} {fs f : List Nat} {n : Nat}
    (h : FldInv e1 e2 e W w Bf dim v xs (v.ownBlock.toList ++ fs)) (hone : ∀ u ∈ us, u.length = 1) (hels : OwnEls (OElMss e2 e) w us xs fs) (hnd : (v.ownBlock.toList ++ fs).Nodup) (hown0 : w.ownsRow 0 e1 1 v xs.length us.flatten) (hn : xs.length = n)
    (hp : OwnMs e2 e wa p x f) (hf : ∀ b ∈ f, w.heap.size ≤ b) (hq : Below w.heap.size w wa) (h1 : Below wa.heap.size wa w1) (hown : w2.ownsRow 0 e1 1 v' (n + 1) (us.flatten ++ [p])) (hg : w1.grownBy w2 v.ownBlock)
    (hv : ∀ b, v'.ownBlock = some b → v.ownBlock = some b ∨ w1.heap.size ≤ b) :
    w2.cell? ⟨Bf, 1, none⟩ = some v ∧ w2.frozen? ⟨Bf, 1, none⟩ = false ∧ ∃ fp', FldInv e1 e2 e W (w2.setCell ⟨Bf, 1, none⟩ v') Bf dim v' (xs ++ [x]) fp' := by
  have hlt : ∀ b ∈ v.ownBlock.toList ++ fs, b < w.heap.size := fun b hb => by
    simp only [List.mem_append, Option.mem_toList] at hb
    rcases hb with hb | hb
    · exact (hown0.lt b hb).2
    · exact ownEls_lt (fun _ _ _ h => oelMss_lt h) hels b hb
  have hWw := h.only.size
  have hq1 := hq.size
  have h11 := h1.size
  have hBlt := h.lt
  obtain ⟨fp', hP, hfp, hO⟩ := ownS_push2 (El := OElMss e2 e) (w := wa) (w1 := w1) (f := f) (fs := fs) (fun w w' u x f g h ho hd => oelMss_only h ho hd) hone (ownEls_only (fun u x f' h hd => oelMss_only h (Only.of_below (fp := []) hq) hd) hels (by simp)) hnd ⟨p, rfl, hp⟩ rfl
    (fun b hb hm => by have := hf b hb; have := hlt b hm; omega) (ownMs_nodup hp) (ownMs_lt hp) (fun b hb => by have := hlt b (by simp [hb]); omega) hn h1 hown hg hv
  have hBn : Bf ∉ v.ownBlock.toList := fun hm => by have := h.new Bf (by simp only [List.mem_append]; left; exact hm); omega
  have hfn : ∀ b ∈ fp', W.heap.size ≤ b := fun b hb => by
    rcases hfp b hb with h2 | h2 | h2
    · exact h.new b h2
    · have := hf b h2; omega
    · omega
  have hOw : Only v.ownBlock.toList w w2 := (Only.of_below hq).trans hO
  have hSt : Only [Bf] w2 (w2.setCell ⟨Bf, 1, none⟩ v') := (Only.refl _ _).setCell (by simp) _
  have hc1 := cell_only hOw hBn h.c1
  have hc0 := cell_only hOw hBn h.c0
  have hf1 : w2.frozen? ⟨Bf, 1, none⟩ = false := (World.frozen?_of_block (hOw.block Bf (by omega) hBn)).trans h.f1
  refine ⟨hc1, hf1, fp', ⟨ownMss_only hP hSt (fun b hb hm => by have := hfn b hb; simp at hm; omega), hfn, ?_, ?_, World.cell?_setCell_same _ _ _ hc1, ?_, hBlt⟩⟩
  · refine ⟨by rw [hSt.os, hOw.os, h.only.os], by rw [hSt.tape, hOw.tape, h.only.tape], by rw [hSt.output, hOw.output, h.only.output], by have := hSt.size; have := hOw.size; omega, fun k hk hn => ?_⟩
    rw [hSt.block k (by have := hOw.size; omega) hn, hOw.block k (by omega) (fun hm => by have := h.new k (by simp only [List.mem_append]; left; exact hm); omega), h.only.block k hk hn]
  · exact (World.cell?_setCell_other _ _ _ _ (by simp)).trans hc0
  · rw [World.frozen?_setCell]; exact hf1

end Go.Proofs.YtbcjhpgkodeoeaaGreatDoor

/- Appending one element to a row of the call's own: what it leaves. Conditions: none. -/
namespace Go.Proofs.YtbcjhpgkodeoeaaGreatDoor
open Go.RowKit Go.Sort

theorem at_block {ad : Option Addr} {n cap gg c2 n2 : Nat} {w0 : World} {o : Obj} (hat : (Value.slice ad n cap).ownBlock = some gg ∨ gg = w0.heap.size + 1) :
    ∀ b, (Value.slice (some ⟨gg, 0, none⟩) n2 c2).ownBlock = some b → (Value.slice ad n cap).ownBlock = some b ∨ (w0.alloc o).heap.size ≤ b := fun b hb => by
  simp [Value.ownBlock] at hb
  subst hb
  rcases hat with hat | hat
  · left; exact hat
  · right; rw [hat]; simp
/-- One number more. -/
theorem ownI_push3 {e : Nat} {w0 w2 : World} {ad : Option Addr} {n cap gg capn : Nat} {f : List Nat} {xs : List Int} {y : Int} (h : OwnI e w0 (.slice ad n cap) xs f) (hn : xs.length = n) (hy : I64 y)
    (hown : w2.ownsRow 0 e 1 (.slice (some ⟨gg, 0, none⟩) (n + 1) capn) (n + 1) (xs.map (Value.int .i64) ++ [.int .i64 y])) (hg : (w0.alloc (.cells #[.int .i64 y] e)).grownBy w2 (Value.slice ad n cap).ownBlock) (hat : (Value.slice ad n cap).ownBlock = some gg ∨ gg = w0.heap.size + 1) :
    ∃ f', OwnI e w2 (.slice (some ⟨gg, 0, none⟩) (n + 1) capn) (xs ++ [y]) f' ∧ (∀ b ∈ f', b ∈ f ∨ w0.heap.size ≤ b) ∧ Only f w0 w2 := by
  subst hn
  have hal : Below w0.heap.size w0 (w0.alloc (.cells #[.int .i64 y] e)) := (Below.refl _ _).alloc (Nat.le_refl _) _
  have hfe : f = (Value.slice ad xs.length cap).ownBlock.toList := h.2.1
  refine ⟨[gg], ⟨by simpa using hown, rfl, fun x hx => ?_⟩, fun b hb => ?_, ?_⟩
  · simp at hx
    rcases hx with hx | rfl
    · exact h.2.2 x hx
    · exact hy
  · simp at hb
    subst hb
    rcases hat with hat | hat
    · left; rw [hfe, hat]; simp
    · right; omega
  · rw [hfe]
    exact (Only.of_below hal).trans ⟨hg.os, hg.tape, hg.output, hg.size, fun k hk hn => hg.block k hk (fun e => hn (by rw [← e]; simp))⟩
/-- The same in a later world. -/
theorem ownII_push4 {e1 e : Nat} {w0 : World} {v : Value} {n : Nat} {xs : List (List Int)} {fo : List Nat} (h : OwnII e1 e w0 v xs fo) (hn : xs.length = n) :
    ∃ ad cap us, v = .slice ad n cap ∧ n ≤ cap ∧ cap ≤ 9223372036854775807 ∧ ∀ (wa : World) (fp' : List Nat), Only fp' w0 wa → (∀ b ∈ fo, b ∉ fp') → wa.ownsRow 0 e1 1 (.slice ad n cap) n us ∧ ∀ (p : Value) (ys : List Int) (f : List Nat) (w2 : World) (gg capn : Nat), OwnI e wa p ys f → (∀ b ∈ f, b ∉ fo) →
      w2.ownsRow 0 e1 1 (.slice (some ⟨gg, 0, none⟩) (n + 1) capn) (n + 1) (us ++ [p]) → (wa.alloc (.cells #[p] e1)).grownBy w2 (Value.slice ad n cap).ownBlock → ((Value.slice ad n cap).ownBlock = some gg ∨ gg = wa.heap.size + 1) →
      ∃ f', OwnII e1 e w2 (.slice (some ⟨gg, 0, none⟩) (n + 1) capn) (xs ++ [ys]) f' ∧ (∀ b ∈ f', b ∈ fo ∨ b ∈ f ∨ wa.heap.size ≤ b) ∧ Only fo wa w2 := by
  subst hn
  have hlt := ownII_lt h
  obtain ⟨us, fs, hown, hone, hels, rfl, hnd⟩ := h
  have hown' := hown
  obtain ⟨ad, cap, rfl, h1, h2, _⟩ := row_open hown'
  refine ⟨ad, cap, us.flatten, rfl, h1, h2, fun wa fp' ho hd => ?_⟩
  have howna := ownsRow_only hown ho (fun g hg => hd g (by simp [hg]))
  have helsa := ownEls_only (w' := wa) (g := fp') (fun u x f h hd => oelII_only h ho hd) hels (fun b hb => hd b (by simp [hb]))
  refine ⟨howna, fun p ys f w2 gg capn hp hdis hown2 hg hat => ?_⟩
  have hal : Below wa.heap.size wa (wa.alloc (.cells #[p] e1)) := (Below.refl _ _).alloc (Nat.le_refl _) _
  have hs := ho.size
  obtain ⟨f', a1, a2, a3⟩ := ownS_push2 (El := OElII e) (fun _ _ _ _ _ _ h ho hd => oelII_only h ho hd) hone helsa hnd (u := [p]) ⟨p, rfl, hp⟩ rfl hdis (ownI_nodup hp) (ownI_lt hp) (fun b hb => by have := hlt b (by simp [hb]); omega) rfl hal hown2 hg (at_block hat)
  refine ⟨f', a1, fun b hb => ?_, a3.mono (fun b hb => by simp only [List.mem_append]; exact .inl hb)⟩
  rcases a2 b hb with h | h | h
  · exact .inl h
  · exact .inr (.inl h)
  · right; right
    have := hal.size
    omega
/-- A copy by an append to an empty slice of the call's own. -/
theorem copy_own {e E n : Nat} {W w1 w2 : World} {xs : List Int} {gg capn : Nat} (hb : Below W.heap.size W w1) (hown : w2.ownsRow 0 e 1 (.slice (some ⟨gg, 0, none⟩) (0 + n) capn) (0 + n) ([] ++ xs.map (Value.int .i64))) (hg : w1.grownBy w2 (some E)) (hE : W.heap.size ≤ E)
    (hat : E = gg ∨ gg = w1.heap.size) (hn : xs.length = n) (hI : ∀ x ∈ xs, I64 x) : OwnI e w2 (.slice (some ⟨gg, 0, none⟩) n capn) xs [gg] ∧ W.heap.size ≤ gg ∧ Below W.heap.size W w2 := by
  rw [Nat.zero_add, List.nil_append] at hown
  have hs := hb.size
  refine ⟨⟨by rw [hn]; exact hown, rfl, hI⟩, ?_, hb.grown hg hs (fun k hk => by simp at hk; omega)⟩
  rcases hat with h | h <;> omega
theorem lit_row {w : World} {e : Nat} : (w.alloc (.cells #[] e)).ownsRow 0 e 1 (.slice (some ⟨w.heap.size, 0, none⟩) 0 0) 0 [] := by
  simpa using World.ownsRow_lit (base := 0) (e := e) (size := 1) w #[] 0 (Nat.zero_le _) (Nat.zero_le _) rfl
theorem Only.newer {fp f : List Nat} {a b c : World} (h : Only fp a b) (k : Only f b c) (hf : ∀ x ∈ f, a.heap.size ≤ x) : Only fp a c :=
  ⟨k.os.trans h.os, k.tape.trans h.tape, k.output.trans h.output, Nat.le_trans h.size k.size, fun x hx hn => (k.block x (Nat.lt_of_lt_of_le hx h.size) (fun hm => by have := hf x hm; omega)).trans (h.block x hx hn)⟩
theorem below_newer {f : List Nat} {a b c : World} (h : Below a.heap.size a b) (k : Only f b c) (hf : ∀ x ∈ f, a.heap.size ≤ x) : Below a.heap.size a c := h.trans (k.below h.size hf)
theorem own_lit {e : Nat} (w : World) : OwnI e (w.alloc (.cells #[] e)) (.slice (some ⟨w.heap.size, 0, none⟩) 0 0) [] [w.heap.size] :=
  ⟨by simpa using World.ownsRow_lit (base := 0) (e := e) (size := 1) w #[] 0 (Nat.zero_le _) (Nat.zero_le _) rfl, rfl, by simp⟩
theorem ownII_lit {e1 e : Nat} (w : World) : OwnII e1 e (w.alloc (.cells #[] e1)) (.slice (some ⟨w.heap.size, 0, none⟩) 0 0) [] [w.heap.size] :=
  ⟨[], [], by simpa using World.ownsRow_lit (base := 0) (e := e1) (size := 1) w #[] 0 (Nat.zero_le _) (Nat.zero_le _) rfl, by simp, rfl, rfl, by simp⟩
theorem below_lit (w : World) (e : Nat) : Below w.heap.size w (w.alloc (.cells #[] e)) := (Below.refl _ _).alloc (Nat.le_refl _) _
/-- A store into a row of rows of the call's own. -/
theorem ownII_set {e1 e : Nat} {w : World} {ad : Option Addr} {len cap : Nat} {xs : List (List Int)} {fp : List Nat} (h : OwnII e1 e w (.slice ad len cap) xs fp) {i : Nat} {x : List Int} (hx : xs[i]? = some x) {k : Nat} {z : Int} (hz : x[k]? = some z) :
    ∃ g b capx, ad = some ⟨g, 0, none⟩ ∧ i < len ∧ w.cell? ⟨g, i, none⟩ = some (.slice (some ⟨b, 0, none⟩) x.length capx) ∧ k < x.length ∧ w.cell? ⟨b, k, none⟩ = some (.int .i64 z) ∧ w.frozen? ⟨b, k, none⟩ = false ∧ b ∈ fp ∧
      ∀ c : Int, I64 c → OwnII e1 e (w.setCell ⟨b, k, none⟩ (.int .i64 c)) (.slice ad len cap) (xs.set i (x.set k c)) fp := by
  obtain ⟨us, fs, hown, hone, hels, hfp, hnd⟩ := h
  have hi := (List.getElem?_eq_some_iff.1 hx).1
  have hk := (List.getElem?_eq_some_iff.1 hz).1
  obtain ⟨A, u, C, f1, f, f3, rfl, hA, rfl, h1, ⟨p, rfl, hp⟩, h3⟩ := ownEls_split hels hx
  obtain ⟨ad', cap', he, _, _, hg⟩ := row_open hown
  injection he with e1' e2' e3'
  subst e1'
  obtain ⟨g, rfl⟩ := hg (by omega)
  obtain ⟨adp, lp, capp, rfl, hlp, _, _, hownp, hgp, hfe⟩ := ownI_open hp
  obtain ⟨b, rfl, rfl⟩ := hgp (by omega)
  subst hlp
  have hfl := flat_get hone (i := i) (u := [Value.slice (some ⟨b, 0, none⟩) x.length capp]) (by rw [← hA]; simp) (j := 0) rfl
  simp only [Nat.mul_one, Nat.add_zero] at hfl
  rw [hfp] at hnd
  rw [List.nodup_append, List.nodup_append] at hnd
  obtain ⟨_, ⟨hn1, hn2, hn3⟩, hn4⟩ := hnd
  rw [List.nodup_append] at hn2
  have hb1 : b ∉ f1 := fun hm => hn3 b hm b (by simp) rfl
  have hb3 : b ∉ f3 := fun hm => hn2.2.2 b (by simp) b hm rfl
  have hbg : g ≠ b := fun e => hn4 g (by simp [Value.ownBlock]) b (by simp) e
  refine ⟨g, b, capp, rfl, by omega, ?_, hk, ?_, hownp.frozenAt k, by rw [hfp]; simp, fun c hc => ?_⟩
  · rw [e2'] at hown
    rw [hown.cellAt i (by omega), hfl]
  · rw [hownp.cellAt k (by omega)]
    simp [hz]
  · have hO : Only [b] w (w.setCell ⟨b, k, none⟩ (.int .i64 c)) := (Only.refl _ _).setCell (by simp) _
    have hs := (hownp.stored k (.int .i64 c)).1
    refine ⟨A ++ [Value.slice (some ⟨b, 0, none⟩) x.length capp] :: C, f1 ++ ([b] ++ f3), ?_, hone, ?_, hfp, by rw [hfp, List.nodup_append, List.nodup_append]; exact ⟨by cases (Value.slice (some ⟨g, 0, none⟩) len cap).ownBlock <;> simp, ⟨hn1, by rw [List.nodup_append]; exact hn2, hn3⟩, hn4⟩⟩
    · rw [List.length_set]
      exact ownsRow_only hown hO (fun g' hg' hm => hbg (by simp [Value.ownBlock] at hg'; rw [hg']; exact List.mem_singleton.1 hm))
    · have hset : xs.set i (x.set k c) = xs.take i ++ x.set k c :: xs.drop (i + 1) := List.set_eq_take_append_cons_drop.trans (if_pos hi)
      rw [hset]
      have h1' : OwnEls (OElII e) (w.setCell ⟨b, k, none⟩ (.int .i64 c)) A (xs.take i) f1 := ownEls_only (fun u x f h hd => oelII_only h hO hd) h1 (fun b' hb' hm => hb1 (List.mem_singleton.1 hm ▸ hb'))
      have h3' : OwnEls (OElII e) (w.setCell ⟨b, k, none⟩ (.int .i64 c)) C (xs.drop (i + 1)) f3 := ownEls_only (fun u x f h hd => oelII_only h hO hd) h3 (fun b' hb' hm => hb3 (List.mem_singleton.1 hm ▸ hb'))
      refine ownEls_append h1' ⟨[b], f3, rfl, ⟨_, rfl, ?_, rfl, fun z' hz' => ?_⟩, h3'⟩
      · rw [List.length_set, List.map_set]; exact hs
      · rcases List.mem_or_eq_of_mem_set hz' with hz' | rfl
        · exact hp.2.2 z' hz'
        · exact hc
end Go.Proofs.YtbcjhpgkodeoeaaGreatDoor

/- Appending a readable row of numbers, perhaps empty, to one of the call's own. Conditions: short rows. -/
namespace Go.Proofs.YtbcjhpgkodeoeaaGreatDoor
open Go.RowKit

/-- A row that can be appended. -/
def SrcI (w : World) (x : Value) (ys : List Int) : Prop := RdI w x ys ∧ (x = .slice none 0 0 ∨ ∃ b off m c, x = .slice (some ⟨b, off, none⟩) m c)
theorem srcI_own {e : Nat} {w : World} {x : Value} {ys : List Int} {f : List Nat} (h : OwnI e w x ys f) : SrcI w x ys := by
  refine ⟨ownI_rd h, ?_⟩
  obtain ⟨_, ⟨rfl, _⟩ | ⟨g, cap, cur, rfl, _⟩⟩ := h.1
  · exact .inl rfl
  · exact .inr ⟨g, 0, _, cap, rfl⟩
theorem srcI_below {w w' : World} {x : Value} {ys : List Int} (h : SrcI w x ys) (hb : Below w.heap.size w w') : SrcI w' x ys := ⟨rdI_mono hb h.1, h.2⟩
theorem append_I {P : Program} {w : World} (t ty e : TypeId) (i : TypeInfo) (ht : P.underlying t = some (.slice e)) (hi : P.info? e = some i) (hz : i.zero = some (.int .i64 0)) (hsize : i.size = 1) (hby : i.bytes = 8)
    {v x : Value} {xs ys : List Int} {f : List Nat} (hv : OwnI e w v xs f) (hx : SrcI w x ys) (hn : xs.length + ys.length ≤ 1000000) :
    ∃ v' w' f', (Builtin.append_ #[t, t] ty #[v, x]).run P w = .ok v' w' ∧ OwnI e w' v' (xs ++ ys) f' ∧ (∀ b ∈ f', b ∈ f ∨ w.heap.size ≤ b) ∧ Only f w w' := by
  have hyI := i64_all hx.1
  have hfe := hv.2.1
  rcases hx.2 with rfl | ⟨b, off, m, c, rfl⟩
  · obtain ⟨_, _, he, _, _, _⟩ := hx.1
    injection he with e1 e2 e3
    obtain rfl := List.eq_nil_of_length_eq_zero e2.symm
    exact ⟨v, w, f, run_append_owned_none (P := P) (w := w) 0 t ty e i 1 ht hi v xs.length _ hv.1, by simpa using hv, fun b hb => .inl hb, Only.refl _ _⟩
  · obtain ⟨_, _, _, he, hl, _, _, _⟩ := rdS_open hx.1
    injection he with e1 e2 e3
    subst e2
    obtain ⟨v', w', hr, h2, h3, _, h5⟩ := run_append_own_at (P := P) w 0 t ty e i (.int .i64 0) 1 8 ht hi hz hsize hby rfl (by omega) v xs.length _ hv.1 ⟨b, off, none⟩ m c (ys.map (Value.int .i64)) (by rw [List.length_map, hl, Nat.mul_one]) (rdI_news hx.1) (by intro u hu; simp only [List.mem_map] at hu; obtain ⟨z, _, rfl⟩ := hu; rfl)
      (by unfold maxLen; omega) (by omega) (Nat.zero_le _)
    refine ⟨v', w', v'.ownBlock.toList, hr, ⟨by simpa [hl] using h2, rfl, fun z hz => ?_⟩, fun b hb => ?_, ?_⟩
    · rcases List.mem_append.1 hz with hz | hz
      · exact hv.2.2 z hz
      · exact hyI z hz
    · rw [Option.mem_toList] at hb
      rcases h5 with h5 | h5
      · left; rw [hfe, ← h5, hb]; simp
      · right; rw [h5] at hb; simp at hb; omega
    · rw [hfe]
      exact ⟨h3.os, h3.tape, h3.output, h3.size, fun k hk hn => h3.block k hk (fun e => hn (by rw [← e]; simp))⟩
/-- One step of a region that draws. -/
theorem step_append_I {P : Program} (w : World) {ops : Array Oper} {o : Oper} {a : Act} {K : Act → World → Prop} {Q : Exit → Act → World → Prop} {E : Prop} (hgd : o.guard = none) (s x : Operand) (t e : TypeId) (ho : o.op = .call { callee := .builtin .append, args := #[s, x], argTypes := #[t, t] })
    (i : TypeInfo) (ht : P.underlying t = some (.slice e)) (hi : P.info? e = some i) (hz : i.zero = some (.int .i64 0)) (hsize : i.size = 1) (hby : i.bytes = 8)
    {v vx : Value} {xs ys : List Int} {f : List Nat} (hs : a.eval s = v) (hxx : a.eval x = vx) (hv : OwnI e w v xs f) (hx : SrcI w vx ys) (hn : xs.length + ys.length ≤ 1000000)
    (h : ∀ v' w' f', OwnI e w' v' (xs ++ ys) f' → (∀ b ∈ f', b ∈ f ∨ w.heap.size ≤ b) → Only f w w' → K (a.put o.dst v') w') :
    if Region.wanted o (yielded ops a.tmps) = true then Oper.wp P o a w K Q else E := by
  have hw : Region.wanted o (yielded ops a.tmps) = true := by simp [Region.wanted, hgd]
  rw [if_pos hw]
  obtain ⟨v', w', f', hr, h2, h3, h4⟩ := append_I (P := P) (w := w) t o.type e i ht hi hz hsize hby hv hx hn
  exact Lib.wp_append_run w s x t t ho _ _ hs hxx _ _ hr (h v' w' f' h2 h3 h4)
theorem wpList_append_I {P : Program} (w : World) {ops : Array Oper} {rest : List Oper} {o : Oper} {a : Act} {Q : Exit → Act → World → Prop} (hgd : o.guard = none) (s x : Operand) (t e : TypeId) (ho : o.op = .call { callee := .builtin .append, args := #[s, x], argTypes := #[t, t] })
    (i : TypeInfo) (ht : P.underlying t = some (.slice e)) (hi : P.info? e = some i) (hz : i.zero = some (.int .i64 0)) (hsize : i.size = 1) (hby : i.bytes = 8)
    {v vx : Value} {xs ys : List Int} {f : List Nat} (hs : a.eval s = v) (hxx : a.eval x = vx) (hv : OwnI e w v xs f) (hx : SrcI w vx ys) (hn : xs.length + ys.length ≤ 1000000)
    (h : ∀ v' w' f', OwnI e w' v' (xs ++ ys) f' → (∀ b ∈ f', b ∈ f ∨ w.heap.size ≤ b) → Only f w w' → wpList P ops Q rest (a.put o.dst v') w') : wpList P ops Q (o :: rest) a w := by
  obtain ⟨v', w', f', hr, h2, h3, h4⟩ := append_I (P := P) (w := w) t o.type e i ht hi hz hsize hby hv hx hn
  exact Lib.wpList_append_run w hgd s x t t ho _ _ hs hxx _ _ hr (h v' w' f' h2 h3 h4)
end Go.Proofs.YtbcjhpgkodeoeaaGreatDoor

/- Tableaus: readings, what is owned, and the laws' copying, comparing, marking. Conditions: none. -/
namespace Go.Proofs.YtbcjhpgkodeoeaaGreatDoor
open Go.RowKit Go.Sort

/-- A tableau. -/
structure TabZ where
  stages : Int
  A : List Int
  B : List Int
deriving Inhabited
def RdTab (w : World) (v : Value) (t : TabZ) : Prop := ∃ vA vB, v = .agg #[.int .i64 t.stages, vA, vB] ∧ I64 t.stages ∧ RdI w vA t.A ∧ RdI w vB t.B
theorem rdTab_mono {w w' : World} {v : Value} {t : TabZ} (hb : Below w.heap.size w w') (h : RdTab w v t) : RdTab w' v t := by
  obtain ⟨vA, vB, rfl, hI, hA, hB⟩ := h
  exact ⟨vA, vB, rfl, hI, rdI_mono hb hA, rdI_mono hb hB⟩
theorem rdI_slice {w : World} {v : Value} {xs : List Int} (h : RdI w v xs) : ∃ ad len cap, v = .slice ad len cap := by
  obtain ⟨ad, len, cap, rfl, _⟩ := rdS_open h
  exact ⟨_, _, _, rfl⟩

end Go.Proofs.YtbcjhpgkodeoeaaGreatDoor
