/- Digits read: both programs. Conditions: texts of at most a million bytes. -/
import Derived.Test.YtdaaamdighojdaaDoorParN
set_option linter.unusedSimpArgs false
set_option linter.unusedVariables false
namespace Go.Proofs.YtdaaamdighojdaaDoor
open Go.RowKit Go.Sort

theorem str_at {s : ByteArray} {l : List UInt8} (hs : s = ByteArray.mk l.toArray) {i : Nat} {b : UInt8} (hb : l[i]? = some b) : ∃ h : i < s.size, s[i]'h = b := by
  subst hs
  obtain ⟨hi, rfl⟩ := List.getElem?_eq_some_iff.1 hb
  exact ⟨by simpa [ByteArray.size] using hi, by simp [ByteArray.getElem_eq_getElem_data]⟩
theorem str_size {s : ByteArray} {l : List UInt8} (hs : s = ByteArray.mk l.toArray) : s.size = l.length := by subst hs; simp [ByteArray.size]

theorem digGo_step {a : Int} {b : UInt8} {r : List UInt8} {x : Int} (hx : (b.toNat : Int) = x) (h : 48 ≤ x ∧ x ≤ 57) : digGo a (b :: r) = digGo (10 * a + (x - 48)) r := by
  rw [digGo, if_pos (by simp [isDig]; omega), hx]
theorem digGo_stop {a : Int} {b : UInt8} {r : List UInt8} {x : Int} (hx : (b.toNat : Int) = x) (h : ¬ (48 ≤ x ∧ x ≤ 57)) : digGo a (b :: r) = -1 := by
  rw [digGo, if_neg (by simp [isDig]; omega)]
theorem drop_at {l : List UInt8} {i : Nat} {b : UInt8} (h : l[i]? = some b) : l.drop i = b :: l.drop (i + 1) := by
  obtain ⟨hi, rfl⟩ := List.getElem?_eq_some_iff.1 h
  exact List.drop_eq_getElem_cons hi
theorem u8_in {x : Int} (h : 48 ≤ x ∧ x ≤ 57) : IntKind.u8.wrap (x - 48) = x - 48 := by
  unfold IntKind.wrap
  simp [IntKind.bits, IntKind.signed]
  omega
/-- How far digits have been read. -/
structure DigAt (l : List UInt8) (n : Nat) (a : Int) (i : Nat) : Prop where
  eq : digGo 0 l = digGo a (l.drop i)
  lo : 0 ≤ a
  hi : a < 10 ^ i
theorem digAt_zero (l : List UInt8) (n : Nat) : DigAt l n 0 0 := ⟨rfl, by decide, by decide⟩
theorem DigAt.bd {l : List UInt8} {n i : Nat} {a : Int} (h : DigAt l n a i) (hi : i ≤ 10) : a < 10000000000 := by
  have h1 := h.hi
  have h2 := pow_ten hi
  omega
theorem DigAt.next {l : List UInt8} {n i : Nat} {a x : Int} {b : UInt8} (h : DigAt l n a i) (hb : l[i]? = some b) (hx : (b.toNat : Int) = x) (hd : 48 ≤ x ∧ x ≤ 57) : DigAt l n (10 * a + (x - 48)) (i + 1) := by
  refine ⟨by rw [h.eq, drop_at hb, digGo_step hx hd], by have := h.lo; omega, ?_⟩
  have := h.hi
  rw [Int.pow_succ]
  omega

set_option maxRecDepth 100000 in
set_option maxHeartbeats 800000 in
theorem readDec_any (l : List UInt8) (s : ByteArray) (hs : s = ByteArray.mk l.toArray) (w : World) : Calls Tryd.prog 27 #[.string s] w fun e w' => e = .returned (.int .i64 (digI l)) ∧ w = w' := by
  have hsz := str_size hs
  obtain ⟨n, hn⟩ : ∃ n, l.length = n := ⟨_, rfl⟩
  rw [hn] at hsz
  have HS := Lib.hid hs
  have HN := Lib.hid hn
  by_cases h0 : n = 0
  · have HE := Lib.hid (show digI l = -1 from by rw [digI, if_pos (Or.inl (by omega))])
    clear hs hn
    go_enter Tryd.func27, Tryd.ntmps27
    go_wp2
    go_ret
    exact ⟨ret_int HE.out.symm, rfl⟩
  by_cases h10 : 10 < n
  · have HE := Lib.hid (show digI l = -1 from by rw [digI, if_pos (Or.inr (Or.inl (by omega)))])
    clear hs hn
    go_enter Tryd.func27, Tryd.ntmps27
    go_wp2
    go_ret
    exact ⟨ret_int HE.out.symm, rfl⟩
  obtain ⟨c, hc⟩ : ∃ c, l[0]? = some c := ⟨_, List.getElem?_eq_getElem (by omega)⟩
  obtain ⟨y, hy⟩ : ∃ y : Int, (c.toNat : Int) = y := ⟨_, rfl⟩
  obtain ⟨hi0, hs0⟩ := str_at hs hc
  have hyb : (s[0]'hi0).toNat = c.toNat := by rw [hs0]
  by_cases h48 : 1 < n ∧ y = 48
  · have HE := Lib.hid (show digI l = -1 from by
      rw [digI, if_pos (Or.inr (Or.inr ⟨by omega, by rw [hc]; congr 1; exact UInt8.toNat_inj.1 (by have := h48.2; simp; omega)⟩))])
    obtain ⟨h1, h2⟩ := h48
    subst h2
    clear hs hn hc hs0
    go_enter Tryd.func27, Tryd.ntmps27
    go_wp2
    go_ret
    exact ⟨ret_int HE.out.symm, rfl⟩
  · have HE := Lib.hid (show digI l = digGo 0 l from by
      rw [digI, if_neg (fun h => by
        rcases h with h | h | ⟨h1, h2⟩
        · omega
        · omega
        · rw [hc] at h2
          injection h2 with h2
          exact h48 ⟨by omega, by rw [← hy, h2]; rfl⟩)])
    have e0 : ((n : Int) == 0) = false := by simp; omega
    have e10 : ¬ ((10 : Int) < n) := by omega
    by_cases h1 : 1 < n
    · have e1 : (1 : Int) < n := by omega
      have hy48 : (y == 48) = false := by simp; omega
      clear hs hn hc hs0 h48
      go_enter Tryd.func27, Tryd.ntmps27
      go_wp2
      go_loopw [3, 25] (fun sa si wr => ∃ (a : Int) (i : Nat), sa = .int .i64 a ∧ si = .int .i64 i ∧ i ≤ n ∧ DigAt l n a i ∧ w = wr) (fun _ si _ => n - (intOf si).toNat)
      case atStart => exact ⟨0, 0, rfl, rfl, Nat.zero_le _, digAt_zero _ _, rfl⟩
      case round =>
        obtain ⟨wk, rfl⟩ : ∃ W, W = wr := ⟨_, rfl⟩
        obtain ⟨a, i, rfl, rfl, hi, hD, rfl⟩ := hrel
        have hDb := hD.bd (by omega)
        have hD0 := hD.lo
        by_cases hlt : i < n
        case neg =>
          obtain rfl : i = n := by omega
          have HR := Lib.hid (show digGo 0 l = a from by rw [hD.eq, List.drop_of_length_le (by rw [HN.out]; exact Nat.le_refl _)]; rfl)
          clear hD
          go_wp2
          go_ret
          exact ⟨ret_int (HE.out.trans HR.out).symm, rfl⟩
        case pos =>
          obtain ⟨b, hb⟩ : ∃ b, l[i]? = some b := ⟨_, List.getElem?_eq_getElem (by rw [HN.out]; exact hlt)⟩
          obtain ⟨x, hx⟩ : ∃ x : Int, (b.toNat : Int) = x := ⟨_, rfl⟩
          obtain ⟨hi', hsb⟩ := str_at HS.out hb
          have hxb : (s[i]'hi').toNat = b.toNat := by rw [hsb]
          have hx0 : 0 ≤ x := by omega
          have hx2 : x ≤ 255 := by have := b.toNat_lt; omega
          have hiI : (i : Int) < n := by omega
          have hsI : (i : Int) < s.size := by omega
          by_cases hd : 48 ≤ x ∧ x ≤ 57
          · have HD := Lib.hid (hD.next hb hx hd)
            have hu8 := u8_in hd
            obtain ⟨hd1, hd2⟩ := hd
            have hw1 : IntKind.i64.wrap (10 * a) = 10 * a := IntWalk.i64_in _ (by omega)
            have hw2 : IntKind.i64.wrap (10 * a + (x - 48)) = 10 * a + (x - 48) := IntWalk.i64_in _ (by omega)
            have hw3 : IntKind.i64.wrap (x - 48) = x - 48 := IntWalk.i64_in _ (by omega)
            clear hD hb hsb
            go_wp2
            go_roundw
            case rel => exact ⟨10 * a + (x - 48), i + 1, rfl, by go_num, by omega, HD.out, by first | trivial | rfl⟩
            case measure => (simp [intOf]; try omega)
          · have HX := Lib.hid (show digGo 0 l = -1 from by rw [hD.eq, drop_at hb, digGo_stop hx hd])
            by_cases hd1 : x < 48
            · clear hD hb hsb hd
              go_wp2
              go_ret
              exact ⟨ret_int (HE.out.trans HX.out).symm, rfl⟩
            · have hd2 : 57 < x := by omega
              clear hD hb hsb hd
              go_wp2
              go_ret
              exact ⟨ret_int (HE.out.trans HX.out).symm, rfl⟩
    · have e1 : ¬ ((1 : Int) < n) := by omega
      clear hs hn hc hs0 h48
      go_enter Tryd.func27, Tryd.ntmps27
      go_wp2
      go_loopw [3, 25] (fun sa si wr => ∃ (a : Int) (i : Nat), sa = .int .i64 a ∧ si = .int .i64 i ∧ i ≤ n ∧ DigAt l n a i ∧ w = wr) (fun _ si _ => n - (intOf si).toNat)
      case atStart => exact ⟨0, 0, rfl, rfl, Nat.zero_le _, digAt_zero _ _, rfl⟩
      case round =>
        obtain ⟨wk, rfl⟩ : ∃ W, W = wr := ⟨_, rfl⟩
        obtain ⟨a, i, rfl, rfl, hi, hD, rfl⟩ := hrel
        have hDb := hD.bd (by omega)
        have hD0 := hD.lo
        by_cases hlt : i < n
        case neg =>
          obtain rfl : i = n := by omega
          have HR := Lib.hid (show digGo 0 l = a from by rw [hD.eq, List.drop_of_length_le (by rw [HN.out]; exact Nat.le_refl _)]; rfl)
          clear hD
          go_wp2
          go_ret
          exact ⟨ret_int (HE.out.trans HR.out).symm, rfl⟩
        case pos =>
          obtain ⟨b, hb⟩ : ∃ b, l[i]? = some b := ⟨_, List.getElem?_eq_getElem (by rw [HN.out]; exact hlt)⟩
          obtain ⟨x, hx⟩ : ∃ x : Int, (b.toNat : Int) = x := ⟨_, rfl⟩
          obtain ⟨hi', hsb⟩ := str_at HS.out hb
          have hxb : (s[i]'hi').toNat = b.toNat := by rw [hsb]
          have hx0 : 0 ≤ x := by omega
          have hx2 : x ≤ 255 := by have := b.toNat_lt; omega
          have hiI : (i : Int) < n := by omega
          have hsI : (i : Int) < s.size := by omega
          by_cases hd : 48 ≤ x ∧ x ≤ 57
          · have HD := Lib.hid (hD.next hb hx hd)
            have hu8 := u8_in hd
            obtain ⟨hd1, hd2⟩ := hd
            have hw1 : IntKind.i64.wrap (10 * a) = 10 * a := IntWalk.i64_in _ (by omega)
            have hw2 : IntKind.i64.wrap (10 * a + (x - 48)) = 10 * a + (x - 48) := IntWalk.i64_in _ (by omega)
            have hw3 : IntKind.i64.wrap (x - 48) = x - 48 := IntWalk.i64_in _ (by omega)
            clear hD hb hsb
            go_wp2
            go_roundw
            case rel => exact ⟨10 * a + (x - 48), i + 1, rfl, by go_num, by omega, HD.out, by first | trivial | rfl⟩
            case measure => (simp [intOf]; try omega)
          · have HX := Lib.hid (show digGo 0 l = -1 from by rw [hD.eq, drop_at hb, digGo_stop hx hd])
            by_cases hd1 : x < 48
            · clear hD hb hsb hd
              go_wp2
              go_ret
              exact ⟨ret_int (HE.out.trans HX.out).symm, rfl⟩
            · have hd2 : 57 < x := by omega
              clear hD hb hsb hd
              go_wp2
              go_ret
              exact ⟨ret_int (HE.out.trans HX.out).symm, rfl⟩
set_option maxRecDepth 100000 in
set_option maxHeartbeats 800000 in
theorem sDigits_any (l : List UInt8) (s : ByteArray) (hs : s = ByteArray.mk l.toArray) (w : World) : Calls Tryd.prog 22 #[.string s] w fun e w' => e = .returned (.int .i64 (digR l)) ∧ w = w' := by
  have hsz := str_size hs
  obtain ⟨n, hn⟩ : ∃ n, l.length = n := ⟨_, rfl⟩
  rw [hn] at hsz
  have HS := Lib.hid hs
  have HN := Lib.hid hn
  by_cases h0 : n = 0
  · have HE := Lib.hid (show digR l = -1 from by rw [digR, if_pos (Or.inl (by omega))])
    clear hs hn
    go_enter Tryd.func22, Tryd.ntmps22
    go_wp2
    go_ret
    exact ⟨ret_int HE.out.symm, rfl⟩
  by_cases h10 : 10 < n
  · have HE := Lib.hid (show digR l = -1 from by rw [digR, if_pos (Or.inr (by omega))])
    clear hs hn
    go_enter Tryd.func22, Tryd.ntmps22
    go_wp2
    go_ret
    exact ⟨ret_int HE.out.symm, rfl⟩
  have HE := Lib.hid (show digR l = digGo 0 l from by rw [digR, if_neg (by omega)])
  have e0 : ((n : Int) == 0) = false := by simp; omega
  have e10 : ¬ ((10 : Int) < n) := by omega
  clear hs hn
  go_enter Tryd.func22, Tryd.ntmps22
  go_wp2
  go_loopw [3, 4] (fun sa si wr => ∃ (a : Int) (i : Nat), sa = .int .i64 a ∧ si = .int .i64 i ∧ i ≤ n ∧ DigAt l n a i ∧ w = wr) (fun _ si _ => n - (intOf si).toNat)
  case atStart => exact ⟨0, 0, rfl, rfl, Nat.zero_le _, digAt_zero _ _, rfl⟩
  case round =>
    obtain ⟨wk, rfl⟩ : ∃ W, W = wr := ⟨_, rfl⟩
    obtain ⟨a, i, rfl, rfl, hi, hD, rfl⟩ := hrel
    have hDb := hD.bd (by omega)
    have hD0 := hD.lo
    by_cases hlt : i < n
    case neg =>
      obtain rfl : i = n := by omega
      have HR := Lib.hid (show digGo 0 l = a from by rw [hD.eq, List.drop_of_length_le (by rw [HN.out]; exact Nat.le_refl _)]; rfl)
      clear hD
      go_wp2
      go_ret
      exact ⟨ret_int (HE.out.trans HR.out).symm, rfl⟩
    case pos =>
      obtain ⟨b, hb⟩ : ∃ b, l[i]? = some b := ⟨_, List.getElem?_eq_getElem (by rw [HN.out]; exact hlt)⟩
      obtain ⟨x, hx⟩ : ∃ x : Int, (b.toNat : Int) = x := ⟨_, rfl⟩
      obtain ⟨hi', hsb⟩ := str_at HS.out hb
      have hxb : (s[i]'hi').toNat = b.toNat := by rw [hsb]
      have hx0 : 0 ≤ x := by omega
      have hx2 : x ≤ 255 := by have := b.toNat_lt; omega
      have hiI : (i : Int) < n := by omega
      have hsI : (i : Int) < s.size := by omega
      by_cases hd : 48 ≤ x ∧ x ≤ 57
      · have HD := Lib.hid (hD.next hb hx hd)
        have hu8 := u8_in hd
        obtain ⟨hd1, hd2⟩ := hd
        have hw1 : IntKind.i64.wrap (10 * a) = 10 * a := IntWalk.i64_in _ (by omega)
        have hw2 : IntKind.i64.wrap (10 * a + (x - 48)) = 10 * a + (x - 48) := IntWalk.i64_in _ (by omega)
        have hw3 : IntKind.i64.wrap (x - 48) = x - 48 := IntWalk.i64_in _ (by omega)
        clear hD hb hsb
        go_wp2
        go_roundw
        case rel => exact ⟨10 * a + (x - 48), i + 1, rfl, by go_num, by omega, HD.out, by first | trivial | rfl⟩
        case measure => (simp [intOf]; try omega)
      · have HX := Lib.hid (show digGo 0 l = -1 from by rw [hD.eq, drop_at hb, digGo_stop hx hd])
        by_cases hd1 : x < 48
        · clear hD hb hsb hd
          go_wp2
          go_ret
          exact ⟨ret_int (HE.out.trans HX.out).symm, rfl⟩
        · have hd2 : 57 < x := by omega
          clear hD hb hsb hd
          go_wp2
          go_ret
          exact ⟨ret_int (HE.out.trans HX.out).symm, rfl⟩
end Go.Proofs.YtdaaamdighojdaaDoor
