/- The program's derivative of a polynomial along directions. Conditions: valid polynomials, a few directions. -/
import Derived.Test.YtbcjhpgkodeoeaaGreatDoorN27
set_option linter.unusedSimpArgs false
set_option linter.unusedVariables false

namespace Go.Proofs.YtbcjhpgkodeoeaaGreatDoor
open Go.RowKit Go.Sort

theorem allJ_atL {size : Nat} {l : List (List Int)} (h : AllJ size l) {i : Nat} (hi : i < l.length) : (atL l i).length = size ∧ Nums (atL l i) := by
  rw [atL_get (List.getElem?_eq_getElem hi)]
  exact h _ (List.getElem_mem hi)
theorem bits_and_nat (a b : Nat) (ha : a < 4294967296) (hb : b < 4294967296) : bits .and .i64 (a : Int) (b : Int) = ((a &&& b : Nat) : Int) := by
  have hx : a &&& b < 2 ^ 32 := Nat.and_lt_two_pow _ (by omega)
  have h1 : (BitVec.ofInt 64 (a : Int)).toNat = a := by
    rw [BitVec.ofInt_natCast, BitVec.toNat_ofNat]; exact Nat.mod_eq_of_lt (by omega)
  have h2 : (BitVec.ofInt 64 (b : Int)).toNat = b := by
    rw [BitVec.ofInt_natCast, BitVec.toNat_ofNat]; exact Nat.mod_eq_of_lt (by omega)
  show IntKind.i64.wrap ((BitVec.ofInt 64 (a : Int) &&& BitVec.ofInt 64 (b : Int)).toNat : Int) = _
  rw [BitVec.toNat_and, h1, h2]
  exact IntWalk.i64_in _ (by omega)
theorem bits_xor_nat (a b : Nat) (ha : a < 4294967296) (hb : b < 4294967296) : bits .xor .i64 (a : Int) (b : Int) = ((a ^^^ b : Nat) : Int) := by
  have hx : a ^^^ b < 2 ^ 32 := Nat.xor_lt_two_pow (by omega) (by omega)
  have h1 : (BitVec.ofInt 64 (a : Int)).toNat = a := by
    rw [BitVec.ofInt_natCast, BitVec.toNat_ofNat]; exact Nat.mod_eq_of_lt (by omega)
  have h2 : (BitVec.ofInt 64 (b : Int)).toNat = b := by
    rw [BitVec.ofInt_natCast, BitVec.toNat_ofNat]; exact Nat.mod_eq_of_lt (by omega)
  show IntKind.i64.wrap ((BitVec.ofInt 64 (a : Int) ^^^ BitVec.ofInt 64 (b : Int)).toNat : Int) = _
  rw [BitVec.toNat_xor, h1, h2]
  exact IntWalk.i64_in _ (by omega)
theorem bit_and (s d : Nat) (hs : s < 4294967296) : bits .and .i64 ((s : Int) / 2 ^ d) 1 = if bitB s d then 1 else 0 := by
  have e1 : ((s : Int) / 2 ^ d) = ((s >>> d : Nat) : Int) := by rw [Nat.shiftRight_eq_div_pow]; simp
  have hle : s >>> d ≤ s := by rw [Nat.shiftRight_eq_div_pow]; exact Nat.div_le_self _ _
  rw [e1, show (1 : Int) = ((1 : Nat) : Int) from rfl, bits_and_nat _ _ (by omega) (by omega)]
  unfold bitB
  rw [Nat.and_one_is_mod]
  rcases Nat.mod_two_eq_zero_or_one (s >>> d) with h | h <;> simp [h]

theorem bit_yes {s d q : Nat} (hs : s < q) (hq : q ≤ 256) (h : bitB s d = true) : bits .and .i64 ((s : Int) / 2 ^ d) 1 = 1 := by rw [bit_and _ _ (by omega), h]; rfl
theorem bit_no {s d q : Nat} (hs : s < q) (hq : q ≤ 256) (h : bitB s d = false) : bits .and .i64 ((s : Int) / 2 ^ d) 1 = 0 := by rw [bit_and _ _ (by omega), h]; rfl
theorem bit_out {s d q T s' : Nat} (hs : s < q) (hq : q ≤ 256) (hd : d ≤ 8) (hT : T = 1 <<< d) (hs' : s' = s ^^^ 1 <<< d) :
    IntKind.i64.wrap ((2 : Int) ^ d) = (T : Int) ∧ bits .xor .i64 (s : Int) (T : Int) = (s' : Int) := by
  have hT2 : T ≤ 256 := by rw [hT, Nat.one_shiftLeft]; exact Nat.le_trans (Nat.pow_le_pow_right (by omega) hd) (by decide)
  constructor
  · have e1 : ((2 : Int) ^ d) = (T : Int) := by rw [hT, Nat.one_shiftLeft]; simp
    rw [e1]
    exact IntWalk.i64_in _ (by omega)
  · rw [bits_xor_nat _ _ (by omega) (by omega), hs', hT]

theorem zero_row {e1 e g n size q : Nat} {W w w3 : World} {us : List (List Value)} {fs : List Nat} (hB : Build e1 1 (OElII e) g n n W w (List.replicate q (List.replicate size (0 : Int))) us fs)
    (hown : w3.ownsRow 0 e 1 (.slice (some ⟨w.heap.size, 0, none⟩) size size) size (madeCells (Value.int .i64 0).cells (size * 1)).toList) (hg : w.grownBy w3 none) (hq : q < n) :
    (∃ u0, w3.cell? ⟨g, q, none⟩ = some u0) ∧ w3.frozen? ⟨g, q, none⟩ = false ∧ Build e1 1 (OElII e) g n n W (w3.setCell ⟨g, q, none⟩ (.slice (some ⟨w.heap.size, 0, none⟩) size size)) (List.replicate q (List.replicate size (0 : Int)) ++ [List.replicate size (0 : Int)]) (us ++ [[.slice (some ⟨w.heap.size, 0, none⟩) size size]]) (fs ++ [w.heap.size]) := by
  have hm0 : (madeCells (Value.int .i64 0).cells (size * 1)).toList = (List.replicate size (0 : Int)).map (Value.int .i64) := by
    rw [Nat.mul_one, List.map_replicate]; exact toList_madeCells_one _ _
  rw [hm0] at hown
  have hb : Below w.heap.size w w3 := (Below.refl _ _).grown hg (Nat.le_refl _) (fun k hk => by cases hk)
  have ho : OwnI e w3 (.slice (some ⟨w.heap.size, 0, none⟩) size size) (List.replicate size 0) [w.heap.size] := ⟨by rw [List.length_replicate]; exact hown, rfl, fun x hx => i64_of_bd (nums_zero size x hx)⟩
  have h := Build.step (El := OElII e) (fun _ _ _ _ _ _ h ho hd => oelII_only h ho hd) hB (x := List.replicate size (0 : Int)) (u := .slice (some ⟨w.heap.size, 0, none⟩) size size) ⟨_, rfl, ho⟩ (by simp) (by simp) (fun b hb' => by rw [List.mem_singleton.1 hb']; exact ownI_lt ho _ (by simp)) hb (by rw [List.length_replicate]; exact hq)
  rw [List.length_replicate] at h
  exact h

set_option maxRecDepth 100000 in
set_option maxHeartbeats 6400000 in
theorem derived_any (vp vy va : Value) (p : List MonZ) (ys : List (List Int)) (al : List (List (List Int))) (n size : Nat) (w : World) (hp : RdMs w vp p) (hy : RdII w vy ys) (ha : RdIII w va al)
    (hp12 : p.length ≤ 12) (hpm : ∀ m ∈ p, MonFine n m) (hn1 : 1 ≤ n) (hn6 : n ≤ 6) (hs1 : 1 ≤ size) (hs7 : size ≤ 7) (hyl : ys.length = n) (hyj : AllJ size ys) (hal : al.length ≤ 8) (haj : ∀ a ∈ al, a.length = n ∧ AllJ size a) :
    Calls Tryz.prog 83 #[vp, vy, va] w (Gives (fun w' v fp => OwnI 3 w' v (derL p ys al size) fp) w) := by
  obtain ⟨ad1, len1, cap1, rfl, hl1, hlc1, hcm1, h1'⟩ := rdS_open hp
  obtain ⟨ad2, len2, cap2, rfl, hl2, hlc2, hcm2, h2'⟩ := rdS_open hy
  obtain ⟨ad3, len3, cap3, rfl, hl3, hlc3, hcm3, h3'⟩ := rdS_open ha
  obtain rfl : len2 = n := by omega
  rw [hl1] at hp12
  rw [hl3] at hal
  obtain ⟨b0, o0, ady, ly, capy, y0, rfl, hy0, hcy, hly, hlcy, hcmy, hry, hbs⟩ := rdII_get h2' (k := 0) (by omega)
  obtain rfl : ly = size := by have := (allJ_at hyj hy0).1; omega
  simp only [Nat.add_zero] at hcy
  have HL1 := Lib.hid hl1
  have HL2 := Lib.hid hl2
  have HL3 := Lib.hid hl3
  have HPM := Lib.hid hpm
  have HYJ := Lib.hid hyj
  have HAJ := Lib.hid haj
  clear hp hy ha hl1 hl2 hl3 hpm hyl hyj haj hy0 hly hry
  obtain ⟨i0, hi, hz0, hz1, hz2⟩ := info_parts Tryz.info_int
  have hib : i0.bytes * ly ≤ 281474976710656 := by rw [hz2]; omega
  obtain ⟨N, hN⟩ : ∃ N : Nat, N = 2 ^ len3 := ⟨_, rfl⟩
  have hN1 : 0 < N := by rw [hN]; exact Nat.two_pow_pos _
  have hN2 : N ≤ 256 := by rw [hN]; exact Nat.le_trans (Nat.pow_le_pow_right (by omega) hal) (by decide)
  have hsh : wrap64 ((2 : Int) ^ len3) = (N : Int) := by
    have e1 : ((2 : Int) ^ len3) = (N : Int) := by rw [hN]; simp
    rw [e1]
    exact IntWalk.wrap64_in _ (by omega)
  have HN := Lib.hid hN
  clear hN
  obtain ⟨j0, hj, hy0, hy1, hy2⟩ := info_parts Tryz.info_jet
  have hjb : j0.bytes * N ≤ 281474976710656 := by rw [hy2]; exact Nat.le_trans (Nat.mul_le_mul_left _ hN2) (by decide)
  go_enter Tryz.func83, Tryz.ntmps83
  go_wp2_with (first
    | (at_make; refine wpList_make_full _ rfl _ _ 89 rfl 0 3 i0 (.int .i64 0) 1 Tryz.underlying89 hi hz0 hz1 .i64 .i64 _ _ ly rfl rfl rfl rfl hib (by unfold maxLen; omega) (Nat.zero_le _) ?_; intro w1 hown1 hgrow1))
  have hm0 : (madeCells (Value.int .i64 0).cells (ly * 1)).toList = (List.replicate ly (0 : Int)).map (Value.int .i64) := by
    rw [Nat.mul_one, List.map_replicate]; exact toList_madeCells_one _ _
  rw [hm0] at hown1
  have hbl : Below w.heap.size w w1 := (Below.refl _ _).grown hgrow1 (Nat.le_refl _) (fun k hk => by cases hk)
  have HO1 := Lib.hid (show OwnI 3 w1 (.slice (some ⟨w.heap.size, 0, none⟩) ly ly) (derP p ys al ly 0) [w.heap.size] from ⟨by rw [derP, List.length_replicate]; exact hown1, rfl, fun x hx => i64_of_bd (derP_nums p ys al ly 0 x hx)⟩)
  have HBL := Lib.hid hbl
  simp only [hsh]
  clear hm0 hgrow1 hown1 hbl hcy hsh
  go_loopw [8, 30] (fun u i wr => ∃ (k : Nat) (f : List Nat), k ≤ len1 ∧ i = .int .i64 k ∧ OwnI 3 wr u (derP p ys al ly k) f ∧ (∀ b ∈ f, w.heap.size ≤ b) ∧ Below w.heap.size w wr) (fun _ i _ => len1 - (intOf i).toNat)
  case atStart => exact ⟨0, _, Nat.zero_le _, rfl, HO1.out, by simp, HBL.out⟩
  case round =>
    obtain ⟨wk, rfl⟩ : ∃ W, W = wr := ⟨_, rfl⟩
    obtain ⟨k, f, hk, rfl, ho, hf, hb⟩ := hrel
    clear HO1 HBL
    by_cases hlt : k < len1
    case neg =>
      obtain rfl : k = len1 := by omega
      go_wp2
      go_ret
      exact ⟨_, f, rfl, by rw [derL, HL1.out]; exact ho, hf, hb⟩
    have h1r := rdMs_mono hb h1'
    obtain ⟨b, off, ad', len', cap', m, rfl, hm, hc0, hc1, hI, h6, h7, h8, h9, _⟩ := rdMs_get h1r hlt
    obtain ⟨⟨hm0, hm1⟩, hmn, hmd, hmp⟩ := HPM.out m (List.mem_of_getElem? hm)
    obtain rfl : len' = len2 := by omega
    obtain ⟨W1, hW1⟩ : ∃ W, W = wk.alloc (.cells #[.int .i64 m.coef, .slice ad' len' cap'] 56) := ⟨_, rfl⟩
    have hbW : Below wk.heap.size wk W1 := hW1 ▸ (Below.refl _ _).alloc (Nat.le_refl _) _
    have hsz : W1.heap.size = wk.heap.size + 1 := by rw [hW1]; simp
    have hd0 : W1.cell? ⟨wk.heap.size, 0, none⟩ = some (.int .i64 m.coef) := by rw [hW1]; simp
    have hd1 : W1.cell? ⟨wk.heap.size, 1, none⟩ = some (.slice ad' len' cap') := by rw [hW1]; simp
    have h9W : RdI W1 (.slice ad' len' cap') m.pows := rdI_mono hbW h9
    have HW1 := Lib.hid hW1
    have HM := Lib.hid hm
    have HMN := Lib.hid hmn
    have HMP := Lib.hid hmp
    have HO := Lib.hid ho
    have H9W := Lib.hid h9W
    obtain ⟨adu, lenu, capu, rfl, hlu, hluc, hcum, _, _, _⟩ := ownI_open ho
    clear hm h6 h9 h1r hW1 hmn hmp ho h9W hlu hsz
    go_wp2_with fail
    rw [← HW1.out]
    refine (degree_any _ _ _ H9W.out (by rw [HMN.out]; omega)).mono ?_
    rintro e w' ⟨rfl, rfl⟩
    clear hc0 hc1
    by_cases hdg : degZ m.pows < len3
    case pos =>
      have e1 : derP p ys al ly (k + 1) = derP p ys al ly k := by
        rw [derP, HM.out]
        simp only [Option.getD_some, derAdd]
        rw [if_pos (by rw [HL3.out]; exact hdg)]
      have HE := Lib.hid e1
      clear e1
      go_wp2
      go_roundw
      case rel => exact ⟨k + 1, f, by omega, by go_num, by rw [HE.out]; exact ownI_only HO.out (Only.of_below (fp := []) hbW) (by simp), hf, hb.trans (hbW.mono hb.size)⟩
      case measure => simp [intOf]; omega
    have hdg2 : ¬ degZ m.pows < len3 := hdg
    go_wp2_with (first
      | (at_make; refine wpList_make_full _ rfl _ _ 83 rfl 0 89 j0 (.slice none 0 0) 1 Tryz.underlying83 hj hy0 hy1 .i64 .i64 _ _ N rfl rfl rfl rfl hjb (by unfold maxLen; omega) (Nat.zero_le _) ?_; intro w2 hown2 hgrow2))
    have hb2 : Below W1.heap.size W1 w2 := (Below.refl _ _).grown hgrow2 (Nat.le_refl _) (fun k hk => by cases hk)
    have B0 := Lib.hid (Build.start (El := OElII 3) hown2 hb2 (Nat.le_refl _))
    clear hown2 hgrow2 hb2
    go_loopw [44] (fun i wq => ∃ (q : Nat) (us : List (List Value)) (fs : List Nat), q ≤ N ∧ i = .int .i64 q ∧ Build 89 1 (OElII 3) W1.heap.size N N W1 wq (List.replicate q (List.replicate ly (0 : Int))) us fs) (fun i _ => N - (intOf i).toNat)
    case atStart => exact ⟨0, [], [], Nat.zero_le _, rfl, B0.out⟩
    case round =>
      obtain ⟨wq, rfl⟩ : ∃ W, W = wr := ⟨_, rfl⟩
      obtain ⟨q, us, fs, hq, rfl, hB⟩ := hrel
      clear B0
      by_cases hql : q < N
      case pos =>
        go_wp2_with (first
          | (at_make; refine wpList_make_full _ rfl _ _ 89 rfl 0 3 i0 (.int .i64 0) 1 Tryz.underlying89 hi hz0 hz1 .i64 .i64 _ _ ly rfl rfl rfl rfl hib (by unfold maxLen; omega) (Nat.zero_le _) ?_; intro w3 hown3 hgrow3; have hHB := zero_row hB hown3 hgrow3 hql; obtain ⟨⟨u0, hcu⟩, hfz, hB'⟩ := hHB; have HB := Lib.hid hB'; clear hB' hown3 hgrow3))
        go_roundw
        case rel => exact ⟨q + 1, _, _, by omega, by go_num, by rw [List.replicate_succ']; exact HB.out⟩
        case measure => simp [intOf]; omega
      obtain rfl : q = N := by omega
      obtain ⟨st, hst⟩ : ∃ st, st = (List.replicate (2 ^ al.length) (List.replicate ly (0 : Int))).set 0 (oneAt m.coef ly) := ⟨_, rfl⟩
      have hqa : q = 2 ^ al.length := by rw [HN.out, HL3.out]
      have hB2 : Build 89 1 (OElII 3) W1.heap.size q q W1 wq (List.replicate ly (0 : Int) :: List.replicate (q - 1) (List.replicate ly (0 : Int))) us fs := by
        have e1 : List.replicate q (List.replicate ly (0 : Int)) = List.replicate ly (0 : Int) :: List.replicate (q - 1) (List.replicate ly (0 : Int)) := by
          rw [← List.replicate_succ, show q - 1 + 1 = q by omega]
        rw [← e1]; exact hB
      obtain ⟨bz, cz, hz1', hz2', hz3', us', hNW⟩ := nows_start hB2 (by simp; omega) (z := 0) (zs := List.replicate (ly - 1) 0) (by rw [← List.replicate_succ, show ly - 1 + 1 = ly by omega]) (c := m.coef) (i64_of_bd ⟨hm0, hm1⟩)
      have hst2 : (m.coef :: List.replicate (ly - 1) (0 : Int)) :: List.replicate (q - 1) (List.replicate ly (0 : Int)) = st := by
        rw [hst, ← hqa, show q = q - 1 + 1 by omega, List.replicate_succ, List.set_cons_zero, oneAt, show ly = ly - 1 + 1 by omega, List.replicate_succ, List.set_cons_zero]
        simp
      rw [hst2] at hNW
      rw [List.length_replicate] at hz1'
      have hstl : st.length = 2 ^ al.length := by rw [hst]; simp
      have hstj : AllJ ly st := by rw [hst]; exact derStart_ok ⟨hm0, hm1⟩ _ _
      have hdmE : derM m ys al ly = atL (derV st ys al m.pows m.pows.length) (q - 1) := by rw [derM, ← hst, hqa]
      have HST := Lib.hid (And.intro hstl hstj)
      have HDM := Lib.hid hdmE
      have HQA := Lib.hid hqa
      have hbwq := hB.below
      have hd0q := cell_below hbwq hd0
      have hd1q := cell_below hbwq hd1
      have HNW := Lib.hid hNW
      have HBQ := Lib.hid hbwq
      clear hst hst2 hB hB2 hNW hstl hstj hdmE hqa hbwq
      have hly0 : (0 : Int) < ly := by omega
      have hly1 : 0 < ly := hs1
      go_wp2
      (refine wp_region_still_tail 6 (by kernel_rfl) (by kernel_rfl) ?_; simp only [List.take_succ_cons, List.take_zero, List.drop_succ_cons, List.drop_zero]; (repeat (first | still_step )); refine wpStill_nil ?_; change wpList _ _ _ _ _ (World.drew _))
      go_wp2
      go_loopw [62] (fun i wx => ∃ (v : Nat) (us : List Value), v ≤ len' ∧ i = .int .i64 v ∧ Nows 89 3 W1.heap.size q W1 wx (derV st ys al m.pows v) us) (fun i _ => len' - (intOf i).toNat)
      case atStart => exact ⟨0, us', Nat.zero_le _, rfl, HNW.out.mono ((Below.refl _ _).drew)⟩
      case round =>
        obtain ⟨wx, rfl⟩ : ∃ W, W = wr := ⟨_, rfl⟩
        obtain ⟨v, us, hv, rfl, hNV⟩ := hrel
        clear HNW
        by_cases hvl : v < len'
        case neg =>
          have hBx := hNV.below
          have hwx := hbW.trans (hBx.mono hbW.size)
          obtain rfl : v = len' := by omega
          obtain ⟨adr, lr, cr, hcr, hlr, hrr⟩ := hNV.get (s := q - 1) (by omega)
          have hox := ownI_only HO.out (Only.of_below (fp := []) hwx) (by simp)
          have hrow : RdI wx (.slice adr lr cr) (derM m ys al ly) := by rw [HDM.out, HMN.out]; exact hrr
          have hlrow : (derM m ys al ly).length = ly := by
            rw [HDM.out]
            exact (allJ_atL (derV_ok HST.out.1 HST.out.2 _) (by rw [derV_len, HST.out.1, ← HQA.out]; omega)).1
          have A := Lib.hid (plusJ_any _ _ (derP p ys al ly k) (derM m ys al ly) 1 wx (ownI_rd hox) hrow (by rw [derP_len, hlrow]; exact Nat.le_refl _) (by rw [derP_len]; omega))
          have e1 : derP p ys al ly (k + 1) = addJ (derP p ys al ly k) (derM m ys al ly) 1 := by
            rw [derP, HM.out]
            simp only [Option.getD_some, derAdd]
            rw [if_neg (by rw [HL3.out]; omega)]
          have HE := Lib.hid e1
          have u1 : wrap64 ((q : Int) - 1) = (q : Int) - 1 := IntWalk.wrap64_in _ (by omega)
          have u2 : ((q : Int) - 1).toNat = q - 1 := by omega
          have u3 : 0 ≤ (q : Int) - 1 := by omega
          have u4 : (q : Int) - 1 < q := by omega
          have HWX := Lib.hid hwx
          clear e1 hrow hlrow hox hrr hlr hwx hBx hNV
          go_wp2_with (go_at_call 68; ((with_reducible refine (A.out).mono ?_); rintro e wp ⟨p1, fp1, rfl, hop1, hfp1, hbp⟩))
          have HOP := Lib.hid hop1
          have HBP := Lib.hid hbp
          have HFP := Lib.hid hfp1
          clear hop1 hbp hfp1
          go_roundw
          case rel => exact ⟨k + 1, fp1, by omega, by go_num, by rw [HE.out]; exact HOP.out, fun b' hb' => by { have h1 := HFP.out b' hb'; have h2 := HWX.out.size; have h3 := hb.size; omega }, hb.trans ((HWX.out.trans (HBP.out.mono HWX.out.size)).mono hb.size)⟩
          case measure => simp [intOf]; omega
        have hBx := hNV.below
        obtain ⟨b5, o5, x, rfl, hx, hcx, hIx, _⟩ := rdI_get (rdI_mono hBx H9W.out) hvl
        obtain ⟨hx0, hx5⟩ := HMP.out x (List.mem_of_getElem? hx)
        have hxa : atZ m.pows v = x := atZ_get hx
        have HXA := Lib.hid hxa
        have HNV := Lib.hid hNV
        obtain ⟨DV, hDV⟩ : ∃ DV, DV = derV st ys al m.pows v := ⟨_, rfl⟩
        have HDV := Lib.hid hDV
        have hdvj : AllJ ly DV ∧ DV.length = 2 ^ al.length := by rw [hDV]; exact ⟨derV_ok HST.out.1 HST.out.2 _, by rw [derV_len, HST.out.1]⟩
        have HDVJ := Lib.hid hdvj
        clear hx hxa hNV hBx hDV hdvj
        go_wp2
        go_loopw [15] (fun c wy => ∃ (r : Nat) (us : List Value), (r : Int) ≤ x ∧ c = .int .i64 (x - r) ∧ Nows 89 3 W1.heap.size q W1 wy (derN DV ys al v r) us) (fun c _ => (intOf c).toNat)
        case atStart => exact ⟨0, us, by omega, by simp, HDV.out ▸ HNV.out⟩
        case round =>
          obtain ⟨wy, rfl⟩ : ∃ W, W = wr := ⟨_, rfl⟩
          obtain ⟨r, us, hr, rfl, hNN⟩ := hrel
          clear HNV
          by_cases hrx : (r : Int) < x
          case neg =>
            have hE : derV st ys al m.pows (v + 1) = derN DV ys al v r := by
              rw [derV, HXA.out, ← HDV.out, show x.toNat = r by omega]
            have HNN := Lib.hid (hE ▸ hNN)
            have u1 : ¬ (0 < x - (r : Int)) := by omega
            clear hE hNN
            go_wp2
            go_roundw
            case rel => exact ⟨v + 1, us, by omega, by go_num, HNN.out⟩
            case measure => simp [intOf]; omega
          have HNN := Lib.hid hNN
          have hdnj : AllJ ly (derN DV ys al v r) ∧ (derN DV ys al v r).length = 2 ^ al.length := ⟨derN_ok HDVJ.out.2 HDVJ.out.1 _, by rw [derN_len, HDVJ.out.2]⟩
          obtain ⟨DN, hDN⟩ : ∃ DN, DN = derN DV ys al v r := ⟨_, rfl⟩
          rw [← hDN] at hdnj
          have HDNJ := Lib.hid hdnj
          have HDN := Lib.hid hDN
          have u0 : 0 < x - (r : Int) := by omega
          have u1 : wrap64 ((q : Int) - 1) = (q : Int) - 1 := IntWalk.wrap64_in _ (by omega)
          clear hNN hDN hdnj
          go_wp2
          go_loopw [16] (fun c wz => ∃ (r2 : Nat) (i : Int) (us : List Value), r2 ≤ q ∧ i = (q : Int) - 1 - r2 ∧ c = .int .i64 i ∧ Nows 89 3 W1.heap.size q W1 wz (derS DN ys al v r2) us) (fun c _ => (intOf c + 1).toNat)
          case atStart => exact ⟨0, _, us, by omega, by simp, rfl, by rw [derS, HDN.out]; exact HNN.out⟩
          case round =>
            obtain ⟨wz, rfl⟩ : ∃ W, W = wr := ⟨_, rfl⟩
            obtain ⟨r2, i, us, hr2, hi, rfl, hNS⟩ := hrel
            clear HNN
            by_cases h2l : r2 < q
            case neg =>
              obtain rfl : r2 = q := by omega
              have hE : derN DV ys al v (r + 1) = derS DN ys al v r2 := by rw [derN, ← HDN.out, ← HQA.out]
              have HNS := Lib.hid (hE ▸ hNS)
              have u2 : ¬ (0 ≤ i) := by omega
              have u3 : wrap64 (x - (r : Int) - 1) = x - (r : Int) - 1 := IntWalk.wrap64_in _ (by omega)
              clear hE hNS
              go_wp2
              go_roundw
              case rel => exact ⟨r + 1, us, by omega, by show Value.int _ _ = Value.int _ _; congr 1; omega, HNS.out⟩
              case measure => simp [intOf]; omega
            obtain ⟨s, rfl⟩ : ∃ s : Nat, i = s := ⟨i.toNat, by omega⟩
            have hsq : s < q := by omega
            have hcuj : AllJ ly (derS DN ys al v r2) ∧ (derS DN ys al v r2).length = 2 ^ al.length := ⟨derS_ok HDNJ.out.2 HDNJ.out.1 _, by rw [derS_len, HDNJ.out.2]⟩
            have hcs : derS DN ys al v (r2 + 1) = (derS DN ys al v r2).set s (derX (derS DN ys al v r2) ys al v s al.length) := by
              rw [derS, ← HQA.out, show q - 1 - r2 = s by omega]
            obtain ⟨CU, hCU⟩ : ∃ CU, CU = derS DN ys al v r2 := ⟨_, rfl⟩
            rw [← hCU] at hcuj hcs hNS
            have HCUJ := Lib.hid hcuj
            have HCS := Lib.hid hcs
            have hgz : W1.heap.size < wz.heap.size := (hNS.row.lt _ rfl).2
            have hBz := hNS.below
            obtain ⟨ads, ls, cs, hcs1, hls, hrs⟩ := hNS.get (s := s) hsq
            have hwz := hb.trans ((hbW.trans (hBz.mono hbW.size)).mono hb.size)
            obtain ⟨b1, o1, ad5, l5, c5, yv, hbo, hyv, hcyv, h51, h52, h53, h54, _⟩ := rdII_get (rdII_mono hwz h2') (k := v) hvl
            obtain ⟨rfl, rfl⟩ : b0 = b1 ∧ o0 = o1 := by simpa using hbo
            have hdr : Below wz.heap.size wz wz.drew := (Below.refl _ _).drew
            obtain ⟨q1, q2⟩ := allJ_atL HCUJ.out.1 (i := s) (by rw [HCUJ.out.2, ← HQA.out]; exact hsq)
            obtain ⟨q3, q4⟩ := allJ_at HYJ.out hyv
            have M1 := Lib.hid (timesJ_any _ _ (atL CU s) yv _ (rdI_mono hdr hrs) (rdI_mono hdr h54) (by rw [q1, q3]; exact Nat.le_refl _) (by rw [q1]; exact hs7) q2 q4)
            have hx0 : derX CU ys al v s 0 = mulZ (atL CU s) yv := by rw [derX, atL_get hyv]
            have HX0 := Lib.hid hx0
            have HNS := Lib.hid hNS
            have HWZ := Lib.hid hwz
            have HI := Lib.hid hi
            clear hi hcuj hcs hCU hNS hBz hrs h54 hls h51 hyv hbo q1 q2 q3 q4 hx0 hwz
            go_wp2
            go_region_law (go_simp; go_at_call 69; (with_reducible refine (M1.out).mono ?_); rintro e wa ⟨p1, fp1, rfl, hop1, hfp1, hba⟩)
            all_goals (
              have hza := hdr.trans (hba.mono hdr.size)
              have HNA := Lib.hid (HNS.out.mono hza)
              have HOP := Lib.hid hop1
              have HZA := Lib.hid hza
              have hfpz : ∀ b ∈ fp1, wz.heap.size ≤ b := fun b hb' => by { have := hfp1 b hb'; have := hdr.size; omega }
              have HFPZ := Lib.hid hfpz
              clear hza hop1 hba hfp1 hfpz M1 hcs1 hcyv
              go_wp2
              go_loopw [17, 88] (fun u i wt => ∃ (d : Nat) (f6 : List Nat), d ≤ len3 ∧ i = .int .i64 d ∧ OwnI 3 wt u (derX CU ys al v s d) f6 ∧ (∀ b ∈ f6, wz.heap.size ≤ b) ∧ Nows 89 3 W1.heap.size q W1 wt CU us ∧ Below wz.heap.size wz wt) (fun _ i _ => len3 - (intOf i).toNat)
              case atStart => exact ⟨0, fp1, Nat.zero_le _, rfl, by rw [HX0.out]; exact HOP.out, HFPZ.out, HNA.out, HZA.out⟩
              case round =>
                obtain ⟨wt, rfl⟩ : ∃ W, W = wr := ⟨_, rfl⟩
                obtain ⟨d, f6, hd, rfl, ho6, hf6, hN6, hb6⟩ := hrel
                clear HNA HOP HZA HFPZ HX0 HNS
                obtain ⟨adx, lx, cx, rfl, hlx, hlcx, hcmx, _, _, _⟩ := ownI_open ho6
                by_cases hdl : d < len3
                case neg =>
                  obtain rfl : d = len3 := by omega
                  obtain ⟨ad8, l8, c8, hc8, _, _⟩ := hN6.get (s := s) hsq
                  obtain ⟨hfz, us6, hput⟩ := hN6.put (s := s) hsq ho6 (fun b hb' => by { have := hf6 b hb'; omega })
                  rw [← HL3.out] at hput
                  rw [← HCS.out] at hput
                  have HPUT := Lib.hid hput
                  clear hput hN6 ho6 hlx
                  have u2 : wrap64 ((s : Int) - 1) = (s : Int) - 1 := IntWalk.wrap64_in _ (by omega)
                  go_wp2
                  go_roundw
                  case rel => exact ⟨r2 + 1, _, us6, by omega, by have := HI.out; omega, rfl, HPUT.out⟩
                  case measure => simp [intOf]
                have hcu6 := HCUJ.out
                obtain ⟨p1', p2'⟩ := derX_ok (y := ys) (al := al) (v := v) (s := s) (allJ_atL hcu6.1 (i := s) (by rw [hcu6.2, ← HQA.out]; exact hsq)).1 d
                cases hbt : bitB s d with
                | false =>
                  have u1 := bit_no hsq hN2 hbt
                  have hE : derX CU ys al v s (d + 1) = derX CU ys al v s d := by rw [derX, hbt]; rfl
                  have HO6 := Lib.hid (hE ▸ ho6)
                  have HN6 := Lib.hid hN6
                  clear hE ho6 hN6 hlx p1' p2' hcu6
                  go_wp2
                  go_roundw
                  case rel => exact ⟨d + 1, f6, by omega, by go_num, HO6.out, hf6, HN6.out, hb6⟩
                  case measure => simp [intOf]; omega
                | true =>
                  have u1 := bit_yes hsq hN2 hbt
                  obtain ⟨T, hT⟩ : ∃ T : Nat, T = 1 <<< d := ⟨_, rfl⟩
                  obtain ⟨s', hs'⟩ : ∃ s' : Nat, s' = s ^^^ 1 <<< d := ⟨_, rfl⟩
                  have hs2 : s' < s := by rw [hs']; exact flip_lt hbt
                  obtain ⟨u3, u4⟩ := bit_out hsq hN2 (show d ≤ 8 by omega) hT hs'
                  have hs3 : s' < q := by omega
                  obtain ⟨ad6, l6, c6, hc6, hl6, hr6⟩ := hN6.get (s := s') hs3
                  have hwt := HWZ.out.trans (hb6.mono HWZ.out.size)
                  obtain ⟨b3, o3, ad7, l7, c7, a, rfl, ha7, hc7, hl7, _, _, hr7, _⟩ := rdIII_get (rdIII_mono hwt h3') hdl
                  obtain ⟨q5, q6⟩ := HAJ.out a (List.mem_of_getElem? ha7)
                  obtain rfl : l7 = len' := by omega
                  obtain ⟨b8, o8, ad8, l8, c8, av, rfl, hav, hc8, hl8, _, _, hr8, _⟩ := rdII_get hr7 hvl
                  obtain ⟨q7, q8⟩ := allJ_at q6 hav
                  obtain ⟨q9, q10⟩ := allJ_atL hcu6.1 (i := s') (by rw [hcu6.2, ← HQA.out]; exact hs3)
                  have hdr : Below wt.heap.size wt wt.drew := (Below.refl _ _).drew
                  have M2 := Lib.hid (timesJ_any _ _ (atL CU s') av _ (rdI_mono hdr hr6) (rdI_mono hdr hr8) (by rw [q9, q7]; exact Nat.le_refl _) (by rw [q9]; exact hs7) q10 q8)
                  have hE : derX CU ys al v s (d + 1) = addJ (derX CU ys al v s d) (mulZ (atL CU s') av) 1 := by
                    rw [derX, hbt, ← hs', atLL_get ha7, atL_get hav]; rfl
                  have HE := Lib.hid hE
                  have HO6 := Lib.hid ho6
                  have HN6 := Lib.hid hN6
                  have HP1 := Lib.hid p1'
                  have HQ9 := Lib.hid q9
                  have HT := Lib.hid (And.intro hT hs')
                  clear hE ho6 hN6 hlx p1' p2' hcu6 hr6 hr7 hr8 hl6 hl7 hl8 ha7 hav q5 q6 q7 q8 q9 q10 hwt hT hs'
                  go_wp2
                  go_region_law (go_simp; first | (go_at_call 69; (with_reducible refine (M2.out).mono ?_); rintro e wa ⟨p3, fp3, rfl, hop3, hfp3, hba⟩) | (go_at_call 68; have A2 := plusJ_any _ _ (derX CU ys al v s d) (mulZ (atL CU s') av) 1 _ (ownI_rd (ownI_only HO6.out (Only.of_below (fp := []) (hdr.trans (hba.mono hdr.size))) (by simp))) (ownI_rd hop3) (by rw [mulZ_len, HP1.out, HQ9.out]; exact Nat.le_refl _) (by rw [HP1.out]; omega); (with_reducible refine A2.mono ?_); rintro e wb ⟨p4, fp4, rfl, hop4, hfp4, hbb⟩))
                  all_goals (
                    have hzb := hdr.trans ((hba.trans (hbb.mono hba.size)).mono hdr.size)
                    have hf4 : ∀ b ∈ fp4, wz.heap.size ≤ b := fun b hb' => by { have := hfp4 b hb'; have := hba.size; have := hdr.size; have := hb6.size; omega }
                    have HNB := Lib.hid (HN6.out.mono hzb)
                    have HO4 := Lib.hid hop4
                    have HF4 := Lib.hid hf4
                    have HZB := Lib.hid (hb6.trans (hzb.mono hb6.size))
                    clear hzb hop3 hop4 hba hbb hfp3 hfp4 hf4 M2 A2 hc6 hc7 hc8
                    go_wp2
                    go_roundw
                    case rel => exact ⟨d + 1, fp4, by omega, by go_num, by rw [HE.out]; exact HO4.out, HF4.out, HNB.out, HZB.out⟩
                    case measure => simp [intOf]; omega))
end Go.Proofs.YtbcjhpgkodeoeaaGreatDoor
