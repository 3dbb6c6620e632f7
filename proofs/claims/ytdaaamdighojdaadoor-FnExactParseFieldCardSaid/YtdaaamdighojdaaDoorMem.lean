/- The copying, comparing, marking of slices of ints: what each call returns and does to memory. Conditions: none. -/
import Derived.Test.YtdaaamdighojdaaDoorRows
import Derived.Test.YtdaaamdighojdaaDoorBase
set_option linter.unusedSimpArgs false
set_option linter.unusedVariables false
namespace Go.Proofs.YtdaaamdighojdaaDoor
open Go.RowKit

theorem Tryd.info_int : (Tryd.prog.info? 3).map (fun i => (i.zero, i.size, i.bytes)) = some (some (.int .i64 0), 1, 8) := by kernel_rfl
theorem Tryd.info_ints : (Tryd.prog.info? 33).map (fun i => (i.zero, i.size, i.bytes)) = some (some (.slice none 0 0), 1, 24) := by kernel_rfl

set_option maxHeartbeats 400000 in
/-- Two slices that read alike are equal. -/
theorem eqIntS_same (va vb : Value) (xs : List Int) (w : World) (ha : RdI w va xs) (hb : RdI w vb xs) :
    Calls Tryd.prog 72 #[va, vb] w (Qt (.bool true) w) := by
  obtain ⟨ad, len, cap, rfl, hl, hlc, hcm, h'⟩ := rdS_open ha
  obtain ⟨ad2, len2, cap2, rfl, hl2, hlc2, hcm2, h2'⟩ := rdS_open hb
  obtain rfl : len = len2 := by omega
  clear ha hb hl hl2
  go_enter Tryd.func72, Tryd.ntmps72
  go_wp2
  go_loopw [5] (fun i wr => ∃ k : Nat, k ≤ len ∧ i = .int .i64 k ∧ ∃ m, wr = w.drewN m) (fun i _ => len - (intOf i).toNat)
  case atStart => exact ⟨0, Nat.zero_le _, rfl, 0, rfl⟩
  case round =>
    obtain ⟨k, hk, rfl, m, hwr⟩ := hrel
    have h'r := rdI_drewN m h'
    have h2'r := rdI_drewN m h2'
    rw [← hwr] at h'r h2'r
    have HW := Lib.hid hwr
    clear hwr
    by_cases hlt : k < len
    · obtain ⟨b, off, x, rfl, hx, hc, hI, _⟩ := rdI_get h'r hlt
      obtain ⟨b2, off2, x2, rfl, hx2, hc2, hI2, _⟩ := rdI_get h2'r hlt
      obtain rfl : x = x2 := Option.some.inj (hx.symm.trans hx2)
      clear hx hx2
      go_wp2
      go_quiet (fail)
      go_wp2
      go_roundw
      case rel => exact ⟨k + 1, by omega, by go_num, _, by rw [HW.out, World.drewN_drewN]⟩
      case measure => simp [intOf]; omega
    · go_wp2
      go_ret
      exact ⟨rfl, m, HW.out⟩

set_option maxHeartbeats 400000 in
theorem markIntS_any (v : Value) (xs : List Int) (fp : List Nat) (k0 : Int) (w : World) (h : OwnI 3 w v xs fp) (h0 : 0 ≤ k0) (h1 : k0 + xs.length ≤ 1000000000000000) :
    Calls Tryd.prog 53 #[v, .int .i64 k0] w fun e w' => e = .returned (.int .i64 (k0 + xs.length)) ∧ OwnI 3 w' v (marks k0 xs.length) fp ∧ Only fp w w' := by
  obtain ⟨ad, len, cap, rfl, hl, hlc, hcm, hown0, hg, hfp⟩ := ownI_open h
  clear h
  rw [hl] at h1 ⊢
  have hlen := Lib.hid hl
  have HF := Lib.hid hfp
  clear hl hfp
  go_enter Tryd.func53, Tryd.ntmps53
  go_wp2
  go_loopw [1, 5] (fun c i wr => ∃ k : Nat, k ≤ len ∧ i = .int .i64 k ∧ c = .int .i64 (k0 + k) ∧ wr.ownsRow 0 3 1 (.slice ad len cap) len ((marks k0 k).map (Value.int .i64) ++ (xs.drop k).map (Value.int .i64)) ∧ Only fp w wr)
    (fun _ i _ => len - (intOf i).toNat)
  case atStart => exact ⟨0, Nat.zero_le _, rfl, by go_num, by simpa [marks] using hown0, Only.refl _ _⟩
  case round =>
    obtain ⟨k, hk, rfl, rfl, hown, hon⟩ := hrel
    clear hown0
    by_cases hlt : k < len
    · obtain ⟨g, rfl, hfg⟩ := hg (by omega)
      obtain ⟨x, hx⟩ : ∃ x, xs.drop k = x :: xs.drop (k + 1) := ⟨_, List.drop_eq_getElem_cons (by rw [hlen.out]; exact hlt)⟩
      rw [hx, List.map_cons] at hown
      obtain ⟨hc, hf, hs⟩ := own_put hown (k := k) (by simp [marks_length]) (.int .i64 (k0 + k))
      have HS := Lib.hid hs
      have HG := Lib.hid hfg
      clear hs hx hown hfg
      go_wp2
      go_roundw
      case rel => exact ⟨k + 1, by omega, by go_num, by go_num, by rw [marks_succ, List.map_append]; exact HS.out, hon.setCell (by rw [HG.out]; simp) _⟩
      case measure => simp [intOf]; omega
    · go_wp2
      go_ret
      obtain rfl : k = len := by omega
      refine ⟨rfl, ⟨?_, HF.out, marks_i64 h0 (by omega)⟩, hon⟩
      rw [List.drop_of_length_le (by rw [hlen.out]; exact Nat.le_refl _)] at hown
      simpa [marks_length] using hown

set_option maxHeartbeats 400000 in
theorem heldIntS_any (v : Value) (n : Nat) (k0 : Int) (w : World) (h : RdI w v (marks k0 n)) (h0 : 0 ≤ k0) (h1 : k0 + n ≤ 1000000000000000) :
    Calls Tryd.prog 54 #[v, .int .i64 k0] w fun e w' => e = .returned (.int .i64 (k0 + n)) ∧ w = w' := by
  obtain ⟨ad, len, cap, rfl, hl, hlc, hcm, h'⟩ := rdS_open h
  rw [marks_length] at hl
  subst hl
  clear h
  go_enter Tryd.func54, Tryd.ntmps54
  go_wp2
  go_loop [1, 5] (fun c i => ∃ k : Nat, k ≤ n ∧ i = .int .i64 k ∧ c = .int .i64 (k0 + k)) (fun _ i => n - (intOf i).toNat)
  case atStart => exact ⟨0, Nat.zero_le _, rfl, by go_num⟩
  case round =>
    obtain ⟨k, hk, rfl, rfl⟩ := hrel
    by_cases hlt : k < n
    · obtain ⟨b, off, x, rfl, hx, hc, hI, _⟩ := rdI_get h' hlt
      rw [marks_get k0 hlt] at hx
      obtain rfl := Option.some.inj hx
      clear hx
      go_wp2
      go_round
      case rel => exact ⟨k + 1, by omega, by go_num, by go_num⟩
      case measure => simp [intOf]; omega
    · go_wp2
      go_ret
      obtain rfl : k = n := by omega
      exact ⟨rfl, rfl⟩

def FitII (xs : List (List Int)) : Prop := xs.length ≤ 1048576 ∧ ∀ x ∈ xs, x.length ≤ 1048576

theorem ownI_nodup {e : Nat} {w : World} {v : Value} {xs : List Int} {fp : List Nat} (h : OwnI e w v xs fp) : fp.Nodup := by
  rw [h.2.1]
  cases v.ownBlock <;> simp

/-- The value of an owned slice: its shape, and its block where it is not empty. -/
theorem row_open {w : World} {B e size n : Nat} {v : Value} {cs : List Value} (h : w.ownsRow B e size v n cs) :
    ∃ ad cap, v = .slice ad n cap ∧ n ≤ cap ∧ cap ≤ 9223372036854775807 ∧ (0 < n → ∃ g, ad = some ⟨g, 0, none⟩) := by
  obtain ⟨_, ⟨rfl, h2⟩ | ⟨g, cap, cur, rfl, _, _, h4, h5, _⟩⟩ := h
  · exact ⟨none, 0, by rw [h2], by omega, by omega, fun hp => by omega⟩
  · exact ⟨_, cap, rfl, h4, h5, fun _ => ⟨g, rfl⟩⟩

end Go.Proofs.YtdaaamdighojdaaDoor
