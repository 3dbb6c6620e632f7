/- The copying, comparing, marking of slices of ints: what each call returns and does to memory. Conditions: none. -/
import Derived.Test.YtdaaamdighojdaaRows
import Derived.Test.YtdaaamdighojdaaBase
set_option linter.unusedSimpArgs false
set_option linter.unusedVariables false
namespace Go.Proofs.Ytdaaamdighojdaa
open Go.RowKit

theorem Try.info_int : (Try.prog.info? 3).map (fun i => (i.zero, i.size, i.bytes)) = some (some (.int .i64 0), 1, 8) := by kernel_rfl
theorem Try.info_ints : (Try.prog.info? 24).map (fun i => (i.zero, i.size, i.bytes)) = some (some (.slice none 0 0), 1, 24) := by kernel_rfl

set_option maxHeartbeats 400000 in
theorem szIntS_n (v : Value) (xs : List Int) (left : Int) (w : World) (h : RdI w v xs) (h0 : 0 ≤ left) (h1 : left ≤ 1048576) :
    Calls Try.prog 58 #[v, .int .i64 left] w (SzN xs.length (xs.length ≤ 1048576) left w) := by
  obtain ⟨ad, len, cap, rfl, hl, hlc, hcm, h'⟩ := rdS_open h
  have hlen := Lib.hid hl
  clear h hl
  by_cases hc : left < len
  · go_enter Try.func58, Try.ntmps58
    go_wp2
    go_ret
    exact ⟨_, rfl, .inl rfl, Below.refl _ _⟩
  · go_enter Try.func58, Try.ntmps58
    go_wp2
    go_ret
    exact ⟨_, rfl, .inr ⟨by omega, by rw [hlen.out]; omega, by rw [hlen.out]; omega⟩, Below.refl _ _⟩

theorem szIntS_any (v : Value) (xs : List Int) (left : Int) (w : World) (h : RdI w v xs) (h0 : 0 ≤ left) (h1 : left ≤ 1048576) :
    Calls Try.prog 58 #[v, .int .i64 left] w (Sz (xs.length ≤ 1048576) left w) := (szIntS_n v xs left w h h0 h1).mono fun _ _ h => h.sz

set_option maxHeartbeats 400000 in
theorem toIntS_any (v : Value) (xs : List Int) (w : World) (h : RdI w v xs) (hn : xs.length ≤ 1048576) :
    Calls Try.prog 44 #[v] w (Gives (fun w' v fp => OwnI 3 w' v xs fp) w) := by
  obtain ⟨ad, len, cap, rfl, hl, hlc, hcm, h'⟩ := rdS_open h
  rw [hl] at hn
  have hlen := Lib.hid hl
  clear h hl
  obtain ⟨i0, hi, hz0, hz1, hz2⟩ := info_parts Try.info_int
  have hib : i0.bytes * len ≤ 281474976710656 := by rw [hz2]; omega
  go_enter Try.func44, Try.ntmps44
  go_wp2_with (first
    | (at_make; refine wpList_make_full _ rfl _ _ 24 rfl w.heap.size 3 i0 (.int .i64 0) 1 Try.underlying24 hi hz0 hz1 .i64 .i64 _ _ len rfl rfl rfl rfl hib (by unfold maxLen; omega) (Nat.le_refl _) ?_; intro w1 hown1 hgrow1))
  have hm0 : (madeCells (Value.int .i64 0).cells (len * 1)).toList = List.replicate len (.int .i64 0) := by
    rw [Nat.mul_one]; exact toList_madeCells_one _ _
  rw [hm0] at hown1
  have hbl : Below w.heap.size w w1 := (Below.refl _ _).grown hgrow1 (Nat.le_refl _) (fun k hk => by cases hk)
  clear hm0 hgrow1 hi hz0 hz1 hz2 hib
  go_loopw [4] (fun i wr => ∃ k : Nat, k ≤ len ∧ i = .int .i64 k ∧ wr.ownsRow w.heap.size 3 1 (.slice (some ⟨w.heap.size, 0, none⟩) len len) len ((xs.take k).map (Value.int .i64) ++ List.replicate (len - k) (.int .i64 0)) ∧ Below w.heap.size w wr)
    (fun i _ => len - (intOf i).toNat)
  case atStart => exact ⟨0, Nat.zero_le _, rfl, by simpa using hown1, hbl⟩
  case round =>
    obtain ⟨k, hk, rfl, hown, hb⟩ := hrel
    clear hown1 hbl
    have h'r := rdI_mono hb h'
    by_cases hlt : k < len
    · obtain ⟨b, off, x, rfl, hx, hc, hI, hbs⟩ := rdI_get h'r hlt
      obtain ⟨⟨u, hcN⟩, hfz, hset⟩ := own_fill hown hb hx hlen.out (Nat.le_refl _)
      have HS := Lib.hid hset
      clear hset hx hown
      go_wp2
      go_roundw
      case rel => exact ⟨k + 1, by omega, by go_num, HS.out⟩
      case measure => simp [intOf]; omega
    · go_wp2
      go_ret
      exact ⟨_, [w.heap.size], rfl, own_i64 hown hlen.out (by omega) (i64_all h'), by simp, hb⟩

set_option maxHeartbeats 400000 in
/-- Two slices that read alike are equal. -/
theorem eqIntS_same (va vb : Value) (xs : List Int) (w : World) (ha : RdI w va xs) (hb : RdI w vb xs) :
    Calls Try.prog 18 #[va, vb] w (Qt (.bool true) w) := by
  obtain ⟨ad, len, cap, rfl, hl, hlc, hcm, h'⟩ := rdS_open ha
  obtain ⟨ad2, len2, cap2, rfl, hl2, hlc2, hcm2, h2'⟩ := rdS_open hb
  obtain rfl : len = len2 := by omega
  clear ha hb hl hl2
  go_enter Try.func18, Try.ntmps18
  go_wp2
  go_loopw [5] (fun i wr => ∃ k : Nat, k ≤ len ∧ i = .int .i64 k ∧ ∃ m, wr = w.drewN m) (fun i _ => len - (intOf i).toNat)
  case atStart => exact ⟨0, Nat.zero_le _, rfl, 0, rfl⟩
  case round =>
    obtain ⟨k, hk, rfl, m, hwr⟩ := hrel
    have h'r := rdI_drewN m h'
    have h2'r := rdI_drewN m h2'
    rw [← hwr] at h'r h2'r
    have HW := Lib.hid hwr
    clear hwr
    by_cases hlt : k < len
    · obtain ⟨b, off, x, rfl, hx, hc, hI, _⟩ := rdI_get h'r hlt
      obtain ⟨b2, off2, x2, rfl, hx2, hc2, hI2, _⟩ := rdI_get h2'r hlt
      obtain rfl : x = x2 := Option.some.inj (hx.symm.trans hx2)
      clear hx hx2
      go_wp2
      go_quiet (fail)
      go_wp2
      go_roundw
      case rel => exact ⟨k + 1, by omega, by go_num, _, by rw [HW.out, World.drewN_drewN]⟩
      case measure => simp [intOf]; omega
    · go_wp2
      go_ret
      exact ⟨rfl, m, HW.out⟩

set_option maxHeartbeats 400000 in
theorem markIntS_any (v : Value) (xs : List Int) (fp : List Nat) (k0 : Int) (w : World) (h : OwnI 3 w v xs fp) (h0 : 0 ≤ k0) (h1 : k0 + xs.length ≤ 1000000000000000) :
    Calls Try.prog 21 #[v, .int .i64 k0] w fun e w' => e = .returned (.int .i64 (k0 + xs.length)) ∧ OwnI 3 w' v (marks k0 xs.length) fp ∧ Only fp w w' := by
  obtain ⟨ad, len, cap, rfl, hl, hlc, hcm, hown0, hg, hfp⟩ := ownI_open h
  clear h
  rw [hl] at h1 ⊢
  have hlen := Lib.hid hl
  have HF := Lib.hid hfp
  clear hl hfp
  go_enter Try.func21, Try.ntmps21
  go_wp2
  go_loopw [1, 5] (fun c i wr => ∃ k : Nat, k ≤ len ∧ i = .int .i64 k ∧ c = .int .i64 (k0 + k) ∧ wr.ownsRow 0 3 1 (.slice ad len cap) len ((marks k0 k).map (Value.int .i64) ++ (xs.drop k).map (Value.int .i64)) ∧ Only fp w wr)
    (fun _ i _ => len - (intOf i).toNat)
  case atStart => exact ⟨0, Nat.zero_le _, rfl, by go_num, by simpa [marks] using hown0, Only.refl _ _⟩
  case round =>
    obtain ⟨k, hk, rfl, rfl, hown, hon⟩ := hrel
    clear hown0
    by_cases hlt : k < len
    · obtain ⟨g, rfl, hfg⟩ := hg (by omega)
      obtain ⟨x, hx⟩ : ∃ x, xs.drop k = x :: xs.drop (k + 1) := ⟨_, List.drop_eq_getElem_cons (by rw [hlen.out]; exact hlt)⟩
      rw [hx, List.map_cons] at hown
      obtain ⟨hc, hf, hs⟩ := own_put hown (k := k) (by simp [marks_length]) (.int .i64 (k0 + k))
      have HS := Lib.hid hs
      have HG := Lib.hid hfg
      clear hs hx hown hfg
      go_wp2
      go_roundw
      case rel => exact ⟨k + 1, by omega, by go_num, by go_num, by rw [marks_succ, List.map_append]; exact HS.out, hon.setCell (by rw [HG.out]; simp) _⟩
      case measure => simp [intOf]; omega
    · go_wp2
      go_ret
      obtain rfl : k = len := by omega
      refine ⟨rfl, ⟨?_, HF.out, marks_i64 h0 (by omega)⟩, hon⟩
      rw [List.drop_of_length_le (by rw [hlen.out]; exact Nat.le_refl _)] at hown
      simpa [marks_length] using hown

set_option maxHeartbeats 400000 in
theorem heldIntS_any (v : Value) (n : Nat) (k0 : Int) (w : World) (h : RdI w v (marks k0 n)) (h0 : 0 ≤ k0) (h1 : k0 + n ≤ 1000000000000000) :
    Calls Try.prog 22 #[v, .int .i64 k0] w fun e w' => e = .returned (.int .i64 (k0 + n)) ∧ w = w' := by
  obtain ⟨ad, len, cap, rfl, hl, hlc, hcm, h'⟩ := rdS_open h
  rw [marks_length] at hl
  subst hl
  clear h
  go_enter Try.func22, Try.ntmps22
  go_wp2
  go_loop [1, 5] (fun c i => ∃ k : Nat, k ≤ n ∧ i = .int .i64 k ∧ c = .int .i64 (k0 + k)) (fun _ i => n - (intOf i).toNat)
  case atStart => exact ⟨0, Nat.zero_le _, rfl, by go_num⟩
  case round =>
    obtain ⟨k, hk, rfl, rfl⟩ := hrel
    by_cases hlt : k < n
    · obtain ⟨b, off, x, rfl, hx, hc, hI, _⟩ := rdI_get h' hlt
      rw [marks_get k0 hlt] at hx
      obtain rfl := Option.some.inj hx
      clear hx
      go_wp2
      go_round
      case rel => exact ⟨k + 1, by omega, by go_num, by go_num⟩
      case measure => simp [intOf]; omega
    · go_wp2
      go_ret
      obtain rfl : k = n := by omega
      exact ⟨rfl, rfl⟩

def FitII (xs : List (List Int)) : Prop := xs.length ≤ 1048576 ∧ ∀ x ∈ xs, x.length ≤ 1048576

set_option maxHeartbeats 400000 in
theorem szIntSS_any (v : Value) (xs : List (List Int)) (left : Int) (w : World) (h : RdII w v xs) (h0 : 0 ≤ left) (h1 : left ≤ 1048576) :
    Calls Try.prog 14 #[v, .int .i64 left] w (Sz (FitII xs) left w) := by
  obtain ⟨ad, len, cap, rfl, hl, hlc, hcm, h'⟩ := rdS_open h
  have hlen := Lib.hid hl
  clear h hl
  by_cases hc : left < len
  · go_enter Try.func14, Try.ntmps14
    go_wp2
    go_ret
    exact ⟨_, rfl, .inl rfl, Below.refl _ _⟩
  · go_enter Try.func14, Try.ntmps14
    go_wp2
    go_loopw [1, 5] (fun c i wr => ∃ (k : Nat) (r : Int), k ≤ len ∧ i = .int .i64 k ∧ c = .int .i64 r ∧ 0 ≤ r ∧ r ≤ left ∧ Below w.heap.size w wr ∧ (∀ x ∈ xs.take k, x.length ≤ 1048576)) (fun _ i _ => len - (intOf i).toNat)
    case atStart => exact ⟨0, left - len, Nat.zero_le _, rfl, rfl, by omega, by omega, Below.refl _ _, by simp⟩
    case round =>
      obtain ⟨k, r, hk, rfl, rfl, hr0, hr1, hb, hx⟩ := hrel
      have HX := Lib.hid hx
      clear hx
      have h'r := rdII_mono hb h'
      by_cases hlt : k < len
      · obtain ⟨b, off, ad', len', cap', x, rfl, hx, hcc, h6, h7, h8, h9, _⟩ := rdII_get h'r hlt
        have HE := Lib.hid hx
        clear hx h6
        go_wp2_with fail
        refine (szIntS_any _ x r _ h9 hr0 (by omega)).mono ?_
        rintro e w' ⟨r', rfl, hr', hb'⟩
        rcases hr' with rfl | ⟨h10, h11, h12⟩
        · go_wp2
          go_ret
          exact ⟨_, rfl, .inl rfl, hb.trans (hb'.mono hb.size)⟩
        · go_wp2
          go_roundw
          case rel => exact ⟨k + 1, r', by omega, by go_num, rfl, h10, by omega, hb.trans (hb'.mono hb.size), by rw [take_snoc HE.out]; simpa [or_imp, forall_and] using ⟨HX.out, h12⟩⟩
          case measure => simp [intOf]; omega
      · go_wp2
        go_ret
        exact ⟨_, rfl, .inr ⟨hr0, hr1, by rw [hlen.out]; omega, by have := HX.out; rwa [List.take_of_length_le (by rw [hlen.out]; omega)] at this⟩, hb⟩

set_option maxHeartbeats 400000 in
theorem eqIntSS_same (va vb : Value) (xs : List (List Int)) (w : World) (ha : RdII w va xs) (hb : RdII w vb xs) :
    Calls Try.prog 19 #[va, vb] w (Qt (.bool true) w) := by
  obtain ⟨ad, len, cap, rfl, hl, hlc, hcm, h'⟩ := rdS_open ha
  obtain ⟨ad2, len2, cap2, rfl, hl2, hlc2, hcm2, h2'⟩ := rdS_open hb
  obtain rfl : len = len2 := by omega
  clear ha hb hl hl2
  go_enter Try.func19, Try.ntmps19
  go_wp2
  go_loopw [5] (fun i wr => ∃ k : Nat, k ≤ len ∧ i = .int .i64 k ∧ ∃ m, wr = w.drewN m) (fun i _ => len - (intOf i).toNat)
  case atStart => exact ⟨0, Nat.zero_le _, rfl, 0, rfl⟩
  case round =>
    obtain ⟨k, hk, rfl, m, hwr⟩ := hrel
    have h'r := rdII_drewN m h'
    have h2'r := rdII_drewN m h2'
    rw [← hwr] at h'r h2'r
    have HW := Lib.hid hwr
    clear hwr
    by_cases hlt : k < len
    · obtain ⟨b, off, ad', len', cap', x, rfl, hx, hcc, h6, h7, h8, h9, _⟩ := rdII_get h'r hlt
      obtain ⟨b2, off2, ad2', len2', cap2', x2, rfl, hx2, hcc2, h62, h72, h82, h92, _⟩ := rdII_get h2'r hlt
      obtain rfl : x = x2 := Option.some.inj (hx.symm.trans hx2)
      clear hx hx2 h6 h62
      go_wp2
      go_quiet ((go_at_call 18; exact quiet_qt (eqIntS_same _ _ x _ (rdI_drewN _ h9) (rdI_drewN _ h92))))
      go_wp2
      go_roundw
      case rel => exact ⟨k + 1, by omega, by go_num, _, by rw [HW.out, World.drewN_drewN]⟩
      case measure => simp [intOf]; omega
    · go_wp2
      go_ret
      exact ⟨rfl, m, HW.out⟩

theorem ownI_nodup {e : Nat} {w : World} {v : Value} {xs : List Int} {fp : List Nat} (h : OwnI e w v xs fp) : fp.Nodup := by
  rw [h.2.1]
  cases v.ownBlock <;> simp

set_option maxHeartbeats 800000 in
theorem toIntSS_any (v : Value) (xs : List (List Int)) (w : World) (h : RdII w v xs) (hn : FitII xs) :
    Calls Try.prog 16 #[v] w (Gives (fun w' v fp => OwnII 24 3 w' v xs fp) w) := by
  obtain ⟨ad, len, cap, rfl, hl, hlc, hcm, h'⟩ := rdS_open h
  have hnl := hn.1
  rw [hl] at hnl
  have hlen := Lib.hid hl
  have hfit := Lib.hid hn.2
  clear h hl hn
  obtain ⟨i0, hi, hz0, hz1, hz2⟩ := info_parts Try.info_ints
  have hib : i0.bytes * len ≤ 281474976710656 := by rw [hz2]; omega
  go_enter Try.func16, Try.ntmps16
  go_wp2_with (first
    | (at_make; refine wpList_make_full _ rfl _ _ 22 rfl 0 24 i0 (.slice none 0 0) 1 Try.underlying22 hi hz0 hz1 .i64 .i64 _ _ len rfl rfl rfl rfl hib (by unfold maxLen; omega) (Nat.zero_le _) ?_; intro w1 hown1 hgrow1))
  have hbl : Below w.heap.size w w1 := (Below.refl _ _).grown hgrow1 (Nat.le_refl _) (fun k hk => by cases hk)
  have B0 := Lib.hid (Build.start (El := OElII 3) hown1 hbl (Nat.le_refl _))
  clear hgrow1 hi hz0 hz1 hz2 hib hown1 hbl
  go_loopw [4] (fun i wr => ∃ (k : Nat) (us : List (List Value)) (fs : List Nat), k ≤ len ∧ i = .int .i64 k ∧ Build 24 1 (OElII 3) w.heap.size len len w wr (xs.take k) us fs)
    (fun i _ => len - (intOf i).toNat)
  case atStart => exact ⟨0, [], [], Nat.zero_le _, rfl, by simpa using B0.out⟩
  case round =>
    obtain ⟨k, us, fs, hk, rfl, hB⟩ := hrel
    have h'r := rdII_mono hB.below h'
    by_cases hlt : k < len
    · obtain ⟨b, off, ad', len', cap', x, rfl, hx, hcc, h6, h7, h8, h9, hbs⟩ := rdII_get h'r hlt
      have HE := Lib.hid hx
      have hxl : x.length ≤ 1048576 := hfit.out x (List.mem_of_getElem? hx)
      clear hx h6
      go_wp2_with fail
      refine (toIntS_any _ x _ h9 hxl).mono ?_
      rintro e w' ⟨v', fp', rfl, ho', hnew', hb'⟩
      obtain ⟨⟨u0, hc'⟩, hf', hB'⟩ := Build.step (El := OElII 3) (fun _ _ _ _ _ _ h ho hd => oelII_only h ho hd) hB (x := x) (u := v') ⟨v', rfl, ho'⟩ hnew' (ownI_nodup ho') (ownI_lt ho') hb' (by rw [List.length_take]; omega)
      rw [show (xs.take k).length = k by simp; rw [hlen.out]; omega] at hc' hf' hB'
      rw [← take_snoc HE.out] at hB'
      have HB := Lib.hid hB'
      obtain ⟨ad3, len3, cap3, rfl, _⟩ := ownI_open ho'
      clear hB' ho' hnew' hB
      go_wp2
      go_roundw
      case rel => exact ⟨k + 1, _, _, by omega, by go_num, HB.out⟩
      case measure => simp [intOf]; omega
    · go_wp2
      go_ret
      obtain rfl : k = len := by omega
      rw [List.take_of_length_le (by rw [hlen.out]; exact Nat.le_refl _)] at hB
      exact ⟨_, _, rfl, (hB.done hlen.out).1, (hB.done hlen.out).2, hB.below⟩

/-- The value of an owned slice: its shape, and its block where it is not empty. -/
theorem row_open {w : World} {B e size n : Nat} {v : Value} {cs : List Value} (h : w.ownsRow B e size v n cs) :
    ∃ ad cap, v = .slice ad n cap ∧ n ≤ cap ∧ cap ≤ 9223372036854775807 ∧ (0 < n → ∃ g, ad = some ⟨g, 0, none⟩) := by
  obtain ⟨_, ⟨rfl, h2⟩ | ⟨g, cap, cur, rfl, _, _, h4, h5, _⟩⟩ := h
  · exact ⟨none, 0, by rw [h2], by omega, by omega, fun hp => by omega⟩
  · exact ⟨_, cap, rfl, h4, h5, fun _ => ⟨g, rfl⟩⟩

set_option maxHeartbeats 400000 in
theorem markIntSS_any (v : Value) (xs : List (List Int)) (fp : List Nat) (k0 : Int) (w : World) (h : OwnII 24 3 w v xs fp) (h0 : 0 ≤ k0) (h1 : k0 + cntII xs ≤ 1000000000000000) :
    Calls Try.prog 20 #[v, .int .i64 k0] w fun e w' => e = .returned (.int .i64 (k0 + cntII xs)) ∧ OwnII 24 3 w' v (marksII k0 xs) fp ∧ Only fp w w' := by
  obtain ⟨us, hM0⟩ := Marked.start h
  obtain ⟨len, hlen⟩ : ∃ len, len = xs.length := ⟨_, rfl⟩
  rw [← hlen] at hM0
  obtain ⟨ad, cap, rfl, hlc, hcm, hg⟩ := row_open hM0.row
  have HL := Lib.hid hlen
  clear h hlen
  go_enter Try.func20, Try.ntmps20
  go_wp2
  go_loopw [1, 5] (fun c i wr => ∃ k : Nat, k ≤ len ∧ i = .int .i64 k ∧ c = .int .i64 (k0 + cntII (xs.take k)) ∧ Marked 24 1 (OElII 3) (.slice ad len cap) fp us w wr (marksII k0 (xs.take k)) (xs.drop k) len)
    (fun _ i _ => len - (intOf i).toNat)
  case atStart => exact ⟨0, Nat.zero_le _, rfl, by simp [cntII], hM0⟩
  case round =>
    obtain ⟨k, hk, rfl, rfl, hM⟩ := hrel
    have hct := cntII_take_le xs k
    by_cases hlt : k < len
    · obtain ⟨g, rfl⟩ := hg (by omega)
      have hkx : k < xs.length := by rw [← HL.out]; exact hlt
      have hd : xs.drop k = xs[k] :: xs.drop (k + 1) := List.drop_eq_getElem_cons hkx
      have hxk : xs[k]? = some xs[k] := List.getElem?_eq_getElem hkx
      obtain ⟨x, hx⟩ : ∃ x, x = xs[k] := ⟨_, rfl⟩
      rw [← hx] at hd hxk
      rw [hd] at hM
      obtain ⟨us', f, hu, hul, ⟨u, rfl, ho⟩, hf, hnx⟩ := Marked.next (El := OElII 3) (fun _ _ _ _ _ _ h ho hd => oelII_only h ho hd) hM
      have hkl : (marksII k0 (xs.take k)).length = k := by rw [marksII_length, List.length_take]; omega
      rw [hkl] at hu
      have hcell := flat_get hM.one hu (j := 0) rfl
      rw [Nat.mul_one, Nat.add_zero] at hcell
      have hc := hM.row.cellAt k (by omega)
      rw [hcell] at hc
      have hct2 := cntII_take_le xs (k + 1)
      rw [take_snoc hxk, cntII_snoc] at hct2
      have HX := Lib.hid hxk
      have HN := Lib.hid hnx
      obtain ⟨ad3, len3, cap3, rfl, _⟩ := ownI_open ho
      clear hxk hd hx hu hul hf hnx hcell hkl hM0
      go_wp2_with fail
      refine (markIntS_any _ x f _ _ ho (by omega) (by omega)).mono ?_
      rintro e w' ⟨rfl, ho', hon'⟩
      have HM := Lib.hid (HN.out w' _ ⟨_, rfl, ho'⟩ hon')
      clear ho' ho hon' hM HN
      go_wp2
      go_roundw
      case rel => exact ⟨k + 1, by omega, by go_num, by rw [take_snoc HX.out, cntII_snoc]; go_num, by rw [take_snoc HX.out, marksII_snoc]; exact HM.out⟩
      case measure => simp [intOf]; omega
    · obtain rfl : k = len := by omega
      go_wp2
      go_ret
      rw [List.take_of_length_le (by rw [HL.out]; exact Nat.le_refl _), List.drop_of_length_le (by rw [HL.out]; exact Nat.le_refl _)] at hM
      rw [List.take_of_length_le (by rw [HL.out]; exact Nat.le_refl _)]
      exact ⟨rfl, hM.done.1, hM.done.2⟩

set_option maxHeartbeats 400000 in
theorem heldIntSS_any (v : Value) (xs : List (List Int)) (k0 : Int) (w : World) (h : RdII w v (marksII k0 xs)) (h0 : 0 ≤ k0) (h1 : k0 + cntII xs ≤ 1000000000000000) :
    Calls Try.prog 42 #[v, .int .i64 k0] w fun e w' => e = .returned (.int .i64 (k0 + cntII xs)) ∧ w = w' := by
  obtain ⟨ad, len, cap, rfl, hl, hlc, hcm, h'⟩ := rdS_open h
  rw [marksII_length] at hl
  have HL := Lib.hid hl
  clear h hl
  go_enter Try.func42, Try.ntmps42
  go_wp2
  go_loop [1, 5] (fun c i => ∃ k : Nat, k ≤ len ∧ i = .int .i64 k ∧ c = .int .i64 (k0 + cntII (xs.take k))) (fun _ i => len - (intOf i).toNat)
  case atStart => exact ⟨0, Nat.zero_le _, rfl, by simp [cntII]⟩
  case round =>
    obtain ⟨k, hk, rfl, rfl⟩ := hrel
    have hct := cntII_take_le xs k
    by_cases hlt : k < len
    · obtain ⟨b, off, ad', len', cap', y, rfl, hy, hcc, h6, h7, h8, h9, _⟩ := rdII_get h' hlt
      have hkx : k < xs.length := by rw [HL.out]; exact hlt
      have hxk : xs[k]? = some xs[k] := List.getElem?_eq_getElem hkx
      obtain ⟨x, hx⟩ : ∃ x, x = xs[k] := ⟨_, rfl⟩
      rw [← hx] at hxk
      have hyx : y = marks (k0 + cntII (xs.take k)) x.length := by
        have h2 : (marksII k0 (xs.take (k + 1)))[k]? = some (marks (k0 + cntII (xs.take k)) x.length) := by
          rw [take_snoc hxk, marksII_snoc, List.getElem?_append_right (by rw [marksII_length, List.length_take]; omega), marksII_length, List.length_take]
          simp [show k - min k xs.length = 0 by omega]
        have h3 : (marksII k0 xs)[k]? = (marksII k0 (xs.take (k + 1)))[k]? := by
          have : ∀ (zs : List (List Int)) (ys : List (List Int)) (c : Int), ∃ r, marksII c (zs ++ ys) = marksII c zs ++ r := by
            intro zs
            induction zs with
            | nil => intro ys c; exact ⟨_, rfl⟩
            | cons z zs ih => intro ys c; obtain ⟨r, hr⟩ := ih ys (c + (z.length : Int)); exact ⟨r, by simp [marksII, hr]⟩
          obtain ⟨r, hr⟩ := this (xs.take (k + 1)) (xs.drop (k + 1)) k0
          rw [List.take_append_drop] at hr
          rw [hr, List.getElem?_append_left (by rw [marksII_length, List.length_take]; omega)]
        rw [h3, h2] at hy
        exact (Option.some.inj hy).symm
      subst hyx
      have hct2 := cntII_take_le xs (k + 1)
      rw [take_snoc hxk, cntII_snoc] at hct2
      have HX := Lib.hid hxk
      clear hxk hx hy h6
      go_wp2_with (go_at_call 22; ((with_reducible refine (heldIntS_any _ x.length _ _ h9 (by omega) (by omega)).mono ?_); rintro e w' ⟨rfl, rfl⟩))
      go_round
      case rel => exact ⟨k + 1, by omega, by go_num, by rw [take_snoc HX.out, cntII_snoc]; go_num⟩
      case measure => simp [intOf]; omega
    · obtain rfl : k = len := by omega
      go_wp2
      go_ret
      rw [List.take_of_length_le (by rw [HL.out]; exact Nat.le_refl _)]
      exact ⟨rfl, rfl⟩
end Go.Proofs.Ytdaaamdighojdaa
