/- The texts One, FAlong, SDer, JetAt in one: each says at its head what it proves. Conditions: as said there. -/
import Derived.Test.YtbcjhpgkodeoeaaGreatDoorG44
import Derived.Test.YtbcjhpgkodeoeaaGreatDoorG03
import Derived.Test.YtbcjhpgkodeoeaaGreatDoorG45
import Derived.Test.YtbcjhpgkodeoeaaGreatDoorG09
set_option linter.unusedSimpArgs false
set_option linter.unusedVariables false
/- The reference's derivative of a product of powers along vectors. Conditions: valid powers, a few vectors. -/
namespace Go.Proofs.YtbcjhpgkodeoeaaGreatDoor
open Go.RowKit Go.Sort


theorem one_row {e size : Nat} {w w1 : World} (hown : w1.ownsRow 0 e 1 (.slice (some ⟨w.heap.size, 0, none⟩) size size) size (madeCells (Value.int .i64 0).cells (size * 1)).toList) (hg : w.grownBy w1 none) (hs : 1 ≤ size) :
    w1.cell? ⟨w.heap.size, 0, none⟩ = some (.int .i64 0) ∧ OwnI e (w1.setCell ⟨w.heap.size, 0, none⟩ (.int .i64 1)) (.slice (some ⟨w.heap.size, 0, none⟩) size size) (oneAt 1 size) [w.heap.size] ∧ Below w.heap.size w (w1.setCell ⟨w.heap.size, 0, none⟩ (.int .i64 1)) := by
  have hm0 : (madeCells (Value.int .i64 0).cells (size * 1)).toList = (List.replicate size (0 : Int)).map (Value.int .i64) := by
    rw [Nat.mul_one, List.map_replicate]; exact toList_madeCells_one _ _
  rw [hm0] at hown
  have hb : Below w.heap.size w w1 := (Below.refl _ _).grown hg (Nat.le_refl _) (fun k hk => by cases hk)
  have hsr := (hown.stored 0 (.int .i64 1)).1
  refine ⟨?_, ⟨?_, rfl, fun x hx => i64_of_bd (oneAt_nums (by omega) size x hx)⟩, hb.setCell (Nat.le_refl _) _⟩
  · rw [hown.cellAt 0 (by omega), List.getElem?_map, List.getElem?_replicate, if_pos (by omega)]
    rfl
  · rw [oneAt_len, oneAt, List.map_set]
    exact hsr

set_option maxRecDepth 100000 in
set_option maxHeartbeats 3200000 in
theorem l8One_nil (vp vy vv : Value) (ps : List Int) (ys : List (List Int)) (n size : Nat) (w : World) (hp : RdI w vp ps) (hy : RdII w vy ys) (ha : RdIII w vv []) (hpl : ps.length = n) (hp5 : ∀ x ∈ ps, 0 ≤ x ∧ x ≤ 5)
    (hn1 : 1 ≤ n) (hn6 : n ≤ 6) (hs1 : 1 ≤ size) (hs7 : size ≤ 7) (hyl : ys.length = n) (hyj : AllJ size ys) :
    Calls Tryz.prog 153 #[vp, vy, vv] w (Gives (fun w' v fp => OwnI 3 w' v (oneL ys [] ps) fp) w) := by
  obtain ⟨ad1, len1, cap1, rfl, hl1, hlc1, hcm1, h1'⟩ := rdS_open hp
  obtain ⟨ad2, len2, cap2, rfl, hl2, hlc2, hcm2, h2'⟩ := rdS_open hy
  obtain ⟨ad3, len3, cap3, rfl, hl3, hlc3, hcm3, h3'⟩ := rdS_open ha
  obtain rfl : len1 = n := by omega
  obtain rfl : len2 = len1 := by omega
  obtain rfl : len3 = 0 := by simpa using hl3.symm
  obtain ⟨b0, o0, ady, ly, capy, y0, rfl, hy0, hcy, hly, hlcy, hcmy, hry, hbs⟩ := rdII_get h2' (k := 0) (by omega)
  obtain rfl : ly = size := by have := (allJ_at hyj hy0).1; omega
  have hhd : hdL ys = ly := by
    cases ys with
    | nil => simp at hy0
    | cons y ys => exact (hyj y (by simp)).1
  simp only [Nat.add_zero] at hcy
  have HL1 := Lib.hid hl1
  have HL2 := Lib.hid hl2
  have HP5 := Lib.hid hp5
  have HYJ := Lib.hid hyj
  have HHD := Lib.hid hhd
  clear hp hy ha hl1 hl2 hl3 hpl hp5 hyl hyj hy0 hly hry hhd
  obtain ⟨i0, hi, hz0, hz1, hz2⟩ := info_parts Tryz.info_int
  have hib : i0.bytes * ly ≤ 281474976710656 := by rw [hz2]; omega
  have hly0 : (0 : Int) < ly := by omega
  have hly1 : 0 < ly := hs1
  go_enter Tryz.func153, Tryz.ntmps153
  go_wp2_with (first
    | (at_make; refine wpList_make_full _ rfl _ _ 35 rfl 0 3 i0 (.int .i64 0) 1 Tryz.underlying35 hi hz0 hz1 .i64 .i64 _ _ ly rfl rfl rfl rfl hib (by unfold maxLen; omega) (Nat.zero_le _) ?_; intro w1 hown1 hgrow1; have hcell := hown1.cellAt 0 (by omega); have hfz := hown1.frozenAt 0; have hst := one_row hown1 hgrow1 hs1; obtain ⟨hcell', hOW⟩ := hst; have HOW := Lib.hid hOW; clear hOW hcell hown1 hgrow1))
  go_loopw [12, 13] (fun u i wr => ∃ (k : Nat) (f : List Nat), k ≤ len2 ∧ i = .int .i64 k ∧ OwnI 3 wr u (powV ys ps (oneAt 1 ly) k) f ∧ (∀ b ∈ f, w.heap.size ≤ b) ∧ Below w.heap.size w wr) (fun _ i _ => len2 - (intOf i).toNat)
  case atStart => exact ⟨0, _, Nat.zero_le _, rfl, HOW.out.1, by simp, HOW.out.2⟩
  case round =>
    obtain ⟨wk, rfl⟩ : ∃ W, W = wr := ⟨_, rfl⟩
    obtain ⟨k, f, hk, rfl, ho, hf, hb⟩ := hrel
    clear HOW hcell' hfz
    by_cases hlt : k < len2
    case neg =>
      obtain rfl : k = len2 := by omega
      go_wp2
      go_ret
      exact ⟨_, f, rfl, by rw [oneL, HL1.out, HHD.out]; exact ho, hf, hb⟩
    obtain ⟨b1, o1, x, rfl, hx, hcx0, hIx, _⟩ := rdI_get h1' hlt
    obtain ⟨hx0, hx5⟩ := HP5.out x (List.mem_of_getElem? hx)
    have hxa : atZ ps k = x := atZ_get hx
    have HXA := Lib.hid hxa
    have hpl : (powV ys ps (oneAt 1 ly) k).length = ly := by rw [powV_len, oneAt_len]
    have hnu : Nums (powV ys ps (oneAt 1 ly) k) := powV_nums (oneAt_nums (by omega) _) _
    obtain ⟨PV, hPV⟩ : ∃ PV, PV = powV ys ps (oneAt 1 ly) k := ⟨_, rfl⟩
    rw [← hPV] at ho hpl hnu
    have HPL := Lib.hid (And.intro hpl hnu)
    have HPV := Lib.hid hPV
    have HO := Lib.hid ho
    have HF := Lib.hid hf
    have HB := Lib.hid hb
    obtain ⟨adu, lenu, capu, rfl, hlu, hluc, hcum, _, _, _⟩ := ownI_open ho
    clear hx hxa hpl hnu hPV ho hf hb hlu
    go_wp2
    go_loopw [12, 14] (fun u j wr => ∃ (r : Nat) (f : List Nat), (r : Int) ≤ x ∧ j = .int .i64 r ∧ OwnI 3 wr u (powN (atL ys k) PV r) f ∧ (∀ b ∈ f, w.heap.size ≤ b) ∧ Below w.heap.size w wr) (fun _ j _ => x.toNat - (intOf j).toNat)
    case atStart => exact ⟨0, f, by omega, rfl, HO.out, HF.out, HB.out⟩
    case round =>
      obtain ⟨wq, rfl⟩ : ∃ W, W = wr := ⟨_, rfl⟩
      obtain ⟨r, f2, hr, rfl, ho2, hf2, hb2⟩ := hrel
      clear HO HF HB
      have hcx := cell_below hb2 hcx0
      by_cases hrx : (r : Int) < x
      case neg =>
        have hE : powV ys ps (oneAt 1 ly) (k + 1) = powN (atL ys k) PV r := by rw [powV, HXA.out, ← HPV.out, show x.toNat = r by omega]
        have HO2 := Lib.hid (hE ▸ ho2)
        clear hE ho2
        go_wp2
        go_roundw
        case rel => exact ⟨k + 1, f2, by omega, by go_num, HO2.out, hf2, hb2⟩
        case measure => simp [intOf]; omega
      obtain ⟨b5, o5, ad5, l5, c5, yv, hbo, hyv, hcyv, h51, h52, h53, h54, _⟩ := rdII_get (rdII_mono hb2 h2') (k := k) hlt
      obtain ⟨rfl, rfl⟩ : b0 = b5 ∧ o0 = o5 := by simpa using hbo
      have M1 := Lib.hid (l8Mul_any _ _ (powN (atL ys k) PV r) yv wq (ownI_rd ho2) h54 (by rw [powN_len, HPL.out.1, (allJ_at HYJ.out hyv).1]; exact Nat.le_refl _) (by rw [powN_len, HPL.out.1]; exact hs7))
      have hE : powN (atL ys k) PV (r + 1) = mulZ (powN (atL ys k) PV r) yv := by rw [powN, atL_get hyv]
      have HE := Lib.hid hE
      obtain ⟨adu2, lenu2, capu2, rfl, _, _, _, _, _, _⟩ := ownI_open ho2
      have HB2 := Lib.hid hb2
      clear hE ho2 h54 hyv h51 hbo hb2
      go_wp2_with (go_at_call 185; ((with_reducible refine (M1.out).mono ?_); rintro e wp ⟨p1, fp1, rfl, hop1, hfp1, hbp⟩))
      have HOP := Lib.hid hop1
      have HFP := Lib.hid hfp1
      have HBP := Lib.hid hbp
      clear hop1 hfp1 hbp
      go_roundw
      case rel => exact ⟨r + 1, fp1, by omega, by go_num, by rw [HE.out]; exact HOP.out, fun b hb => by { have h1 := HFP.out b hb; have h2 := HB2.out.size; omega }, HB2.out.trans (HBP.out.mono HB2.out.size)⟩
      case measure => simp [intOf]; omega

theorem rdIII_tail {w : World} {b off n cap : Nat} {x : List (List Int)} {xs : List (List (List Int))} (h : RdIII w (.slice (some ⟨b, off, none⟩) (n + 1) cap) (x :: xs)) {ad : Option Addr} (had : (if cap = 1 then some (⟨b, off, none⟩ : Addr) else some ⟨b, off + 1, none⟩) = ad) : RdIII w (.slice ad n (cap - 1)) xs := by
  obtain ⟨ad', cap', he, h1, h2, h3⟩ := h
  injection he with e1 e2 e3
  subst e3
  simp only [List.length_cons] at e2 h1 h3
  obtain rfl : n = xs.length := by omega
  refine ⟨_, _, rfl, by omega, by omega, fun hpos => ⟨b, off + 1, by rw [← had, if_neg (by omega)], fun i y hy => ?_⟩⟩
  obtain ⟨b', off', hb, hc⟩ := h3 (by omega)
  rw [← e1] at hb
  simp only [Option.some.injEq, Addr.mk.injEq] at hb
  obtain ⟨rfl, rfl, _⟩ := hb
  obtain ⟨us, hs, hu, hE⟩ := hc (i + 1) y (by simpa using hy)
  exact ⟨us, hs, fun j u hj => by have := hu j u hj; rwa [show off + 1 + i * 1 + j = off + (i + 1) * 1 + j by omega], hE⟩
theorem less_set {e W1h : Nat} {W w1 w2 : World} {ps : List Int} {gg n capn k : Nat} {x : Int} (hown : w2.ownsRow 0 e 1 (.slice (some ⟨gg, 0, none⟩) (0 + n) capn) (0 + n) ([] ++ ps.map (Value.int .i64))) (hb1 : Below W.heap.size W w1)
    (hg : w1.grownBy w2 (some W1h)) (h1 : W1h = W.heap.size) (hat : some W1h = some gg ∨ W.heap.size ≤ gg) (hx : ps[k]? = some x) (hx0 : 0 < x) (hx5 : x ≤ 5) (hp5 : ∀ x ∈ ps, 0 ≤ x ∧ x ≤ 5) (hn : ps.length = n) :
    w2.cell? ⟨gg, k, none⟩ = some (.int .i64 x) ∧ w2.frozen? ⟨gg, k, none⟩ = false ∧ OwnI e (w2.setCell ⟨gg, k, none⟩ (.int .i64 (x - 1))) (.slice (some ⟨gg, 0, none⟩) n capn) (ps.set k (x - 1)) [gg] ∧ Below W.heap.size W (w2.setCell ⟨gg, k, none⟩ (.int .i64 (x - 1))) := by
  rw [Nat.zero_add, List.nil_append] at hown
  have hgg : W.heap.size ≤ gg := by
    rcases hat with h | h
    · simp at h; omega
    · exact h
  have hB : Below W.heap.size W w2 := hb1.grown hg (Nat.le_trans (Nat.le_refl _) hb1.size) (fun k hk => by simp at hk; omega)
  have hk : k < ps.length := (List.getElem?_eq_some_iff.1 hx).1
  have hs := (hown.stored k (.int .i64 (x - 1))).1
  refine ⟨?_, hown.frozenAt k, ⟨by rw [List.length_set, hn, List.map_set]; exact hs, rfl, fun z hz => ?_⟩, hB.setCell hgg _⟩
  · rw [hown.cellAt k (by omega)]
    simp [hx]
  · rcases List.mem_or_eq_of_mem_set hz with hz | rfl
    · have := hp5 z hz; exact ⟨by omega, by omega⟩
    · exact ⟨by omega, by omega⟩

set_option maxRecDepth 100000 in
set_option maxHeartbeats 3200000 in
theorem l8One_cons (v0 : List (List Int)) (vs : List (List (List Int))) (vp vy vv : Value) (ps : List Int) (ys : List (List Int)) (n size : Nat) (w : World) (hp : RdI w vp ps) (hy : RdII w vy ys) (ha : RdIII w vv (v0 :: vs)) (hpl : ps.length = n) (hp5 : ∀ x ∈ ps, 0 ≤ x ∧ x ≤ 5)
    (hn1 : 1 ≤ n) (hn6 : n ≤ 6) (hs1 : 1 ≤ size) (hs7 : size ≤ 7) (hyl : ys.length = n) (hyj : AllJ size ys) (hv0 : v0.length = n ∧ AllJ size v0)
    (ih : ∀ (vp vy vv : Value) (ps : List Int) (w : World), RdI w vp ps → RdII w vy ys → RdIII w vv vs → ps.length = n → (∀ x ∈ ps, 0 ≤ x ∧ x ≤ 5) →
      Calls Tryz.prog 153 #[vp, vy, vv] w (Gives (fun w' v fp => OwnI 3 w' v (oneL ys vs ps) fp) w)) :
    Calls Tryz.prog 153 #[vp, vy, vv] w (Gives (fun w' v fp => OwnI 3 w' v (oneL ys (v0 :: vs) ps) fp) w) := by
  obtain ⟨ad1, len1, cap1, rfl, hl1, hlc1, hcm1, h1'⟩ := rdS_open hp
  obtain ⟨ad2, len2, cap2, rfl, hl2, hlc2, hcm2, h2'⟩ := rdS_open hy
  obtain ⟨ad3, len3, cap3, rfl, hl3, hlc3, hcm3, h3'⟩ := rdS_open ha
  obtain rfl : len1 = n := by omega
  obtain rfl : len2 = len1 := by omega
  obtain ⟨b0, o0, ady, ly, capy, y0, rfl, hy0, hcy, hly, hlcy, hcmy, hry, hbs⟩ := rdII_get h2' (k := 0) (by omega)
  obtain rfl : ly = size := by have := (allJ_at hyj hy0).1; omega
  have hhd : hdL ys = ly := by
    cases ys with
    | nil => simp at hy0
    | cons y ys => exact (hyj y (by simp)).1
  obtain ⟨nt, rfl⟩ : ∃ nt, len3 = nt + 1 := ⟨vs.length, by rw [← hl3]; rfl⟩
  obtain ⟨b3, o3, adv, lv, capv, v0', rfl, hv0', hcv, hlv, hlcv, hcmv, hrv, _⟩ := rdIII_get h3' (k := 0) (by omega)
  obtain rfl : v0 = v0' := by simpa using hv0'
  obtain rfl : len2 = lv := by omega
  obtain ⟨tad, htad⟩ : ∃ tad, (if cap3 = 1 then some (⟨b3, o3, none⟩ : Addr) else some ⟨b3, o3 + 1, none⟩) = tad := ⟨_, rfl⟩
  have htl := rdIII_tail h3' htad
  obtain ⟨bw, ow, hwv⟩ : ∃ bw ow, adv = some ⟨bw, ow, none⟩ := by obtain ⟨b, o, _, _, _, _, h, _⟩ := rdII_get hrv (k := 0) (by omega); exact ⟨b, o, h⟩
  subst hwv
  obtain ⟨bp, op, hpv⟩ : ∃ bp op, ad1 = some ⟨bp, op, none⟩ := by obtain ⟨b, o, _, h, _⟩ := rdI_get h1' (k := 0) (by omega); exact ⟨b, o, h⟩
  subst hpv
  simp only [Nat.add_zero] at hcy hcv
  have HL1 := Lib.hid hl1
  have HP5 := Lib.hid hp5
  have HYJ := Lib.hid hyj
  have HHD := Lib.hid hhd
  have HV0 := Lib.hid hv0
  have IH := Lib.hid ih
  clear hp hy ha hl1 hl2 hl3 hpl hp5 hyl hyj hy0 hly hry hhd hv0 hv0' hlv ih
  obtain ⟨i0, hi, hz0, hz1, hz2⟩ := info_parts Tryz.info_int
  have hib : i0.bytes * ly ≤ 281474976710656 := by rw [hz2]; omega
  have hpos : (0 : Int) < (nt : Int) + 1 := by omega
  have hpos1 : (1 : Int) ≤ (nt : Int) + 1 := by omega
  go_enter Tryz.func153, Tryz.ntmps153
  go_wp2_with (first
    | (at_make; refine wpList_make_full _ rfl _ _ 35 rfl 0 3 i0 (.int .i64 0) 1 Tryz.underlying35 hi hz0 hz1 .i64 .i64 _ _ ly rfl rfl rfl rfl hib (by unfold maxLen; omega) (Nat.zero_le _) ?_; intro w1 hown1 hgrow1))
  have hm0 : (madeCells (Value.int .i64 0).cells (ly * 1)).toList = (List.replicate ly (0 : Int)).map (Value.int .i64) := by
    rw [Nat.mul_one, List.map_replicate]; exact toList_madeCells_one _ _
  rw [hm0] at hown1
  have hbl : Below w.heap.size w w1 := (Below.refl _ _).grown hgrow1 (Nat.le_refl _) (fun k hk => by cases hk)
  have HO1 := Lib.hid (show OwnI 3 w1 (.slice (some ⟨w.heap.size, 0, none⟩) ly ly) (oneS ys ps v0 (oneL ys vs) 0) [w.heap.size] from ⟨by rw [oneS, HHD.out, List.length_replicate]; exact hown1, rfl, fun x hx => i64_of_bd (oneS_nums ys ps v0 _ 0 x hx)⟩)
  have HBL := Lib.hid hbl
  clear hm0 hgrow1 hown1 hbl hib
  go_loopw [8, 9] (fun u i wr => ∃ (k : Nat) (f : List Nat), k ≤ len2 ∧ i = .int .i64 k ∧ OwnI 3 wr u (oneS ys ps v0 (oneL ys vs) k) f ∧ (∀ b ∈ f, w.heap.size ≤ b) ∧ Below w.heap.size w wr) (fun _ i _ => len2 - (intOf i).toNat)
  case atStart => exact ⟨0, _, Nat.zero_le _, rfl, HO1.out, by simp, HBL.out⟩
  case round =>
    obtain ⟨wk, rfl⟩ : ∃ W, W = wr := ⟨_, rfl⟩
    obtain ⟨k, f, hk, rfl, ho, hf, hb⟩ := hrel
    clear HO1 HBL
    by_cases hlt : k < len2
    case neg =>
      obtain rfl : k = len2 := by omega
      go_wp2
      go_ret
      exact ⟨_, f, rfl, by rw [oneL, HL1.out]; exact ho, hf, hb⟩
    obtain ⟨b1, o1, x, hbo, hx, hcx0, hIx, _⟩ := rdI_get (rdI_mono hb h1') hlt
    obtain ⟨rfl, rfl⟩ : bp = b1 ∧ op = o1 := by simpa using hbo
    obtain ⟨hx0, hx5⟩ := HP5.out x (List.mem_of_getElem? hx)
    have hxa : atZ ps k = x := atZ_get hx
    obtain ⟨adu, lenu, capu, rfl, hlu, hluc, hcum, _, _, _⟩ := ownI_open ho
    have HO := Lib.hid ho
    have HF := Lib.hid hf
    have HB := Lib.hid hb
    clear hlu ho hf hbo
    by_cases hxp : 0 < x
    case neg =>
      have hE : oneS ys ps v0 (oneL ys vs) (k + 1) = oneS ys ps v0 (oneL ys vs) k := by rw [oneS, if_neg (by rw [hxa]; exact hxp)]
      have HE := Lib.hid hE
      clear hE hx hxa hb
      go_wp2
      go_roundw
      case rel => exact ⟨k + 1, f, by omega, by go_num, by rw [HE.out]; exact HO.out, HF.out, HB.out⟩
      case measure => simp [intOf]; omega
    have hE : oneS ys ps v0 (oneL ys vs) (k + 1) = addJ (oneS ys ps v0 (oneL ys vs) k) (mulZ (atL v0 k) (oneL ys vs (ps.set k (x - 1)))) x := by rw [oneS, if_pos (by rw [hxa]; exact hxp), hxa]
    have HE := Lib.hid hE
    have hr1 := rdI_mono hb h1'
    have halr : Below wk.heap.size wk (wk.alloc (.cells #[] 3)) := (Below.refl _ _).alloc (Nat.le_refl _) _
    have HNW := Lib.hid (rdI_news (rdI_mono halr hr1))
    have HX := Lib.hid hx
    have HLS := Lib.hid (fun (w2 : World) (gg capn : Nat) (hown : w2.ownsRow 0 3 1 (.slice (some ⟨gg, 0, none⟩) (0 + len2) capn) (0 + len2) ([] ++ ps.map (Value.int .i64))) (hg : (wk.alloc (.cells #[] 3)).grownBy w2 (some wk.heap.size)) (hat : some wk.heap.size = some gg ∨ wk.heap.size ≤ gg) =>
      less_set (W := wk) hown halr hg rfl hat HX.out hxp hx5 HP5.out HL1.out)
    have HHR := Lib.hid hr1
    have HROW := Lib.hid (show (wk.alloc (.cells #[] 3)).ownsRow 0 3 1 (.slice (some ⟨wk.heap.size, 0, none⟩) 0 0) 0 [] from by simpa using World.ownsRow_lit (base := 0) (e := 3) (size := 1) wk #[] 0 (Nat.zero_le _) (Nat.zero_le _) rfl)
    clear hE hx hxa hr1 halr hb
    go_wp2_with (first | (at_builtin; refine wpList_append_lies _ rfl _ _ _ rfl 0 3 i0 _ 1 8 Tryz.underlying35 hi hz0 hz1 hz2 rfl (by omega) (.slice (some ⟨wk.heap.size, 0, none⟩) 0 0) 0 [] (by rfl) HROW.out ⟨bp, op, none⟩ len2 cap1 (ps.map (Value.int .i64)) (by rfl) (by rw [List.length_map, HL1.out, Nat.mul_one]) HNW.out (by intro u hu; simp only [List.mem_map] at hu; obtain ⟨z, _, rfl⟩ := hu; rfl) (by omega) (by unfold maxLen; omega) (by omega) (by simp) (wk.heap.size + 1) (by simp) ?_; intro gg capn w1 hown1 hgrow hat hlt1; obtain ⟨hco, hfz, hset, hbs⟩ := HLS.out w1 gg capn hown1 (by simpa [Value.ownBlock] using hgrow) (by rcases hat with hat | hat; exact .inl (by simpa [Value.ownBlock] using hat); exact .inr (by omega))))
    obtain ⟨W2, hW2⟩ : ∃ W, W = w1.setCell ⟨gg, k, none⟩ (.int .i64 (x - 1)) := ⟨_, rfl⟩
    rw [← hW2] at hset hbs ⊢
    have hbW2 := HB.out.trans (hbs.mono HB.out.size)
    have hcv2 := cell_below hbW2 hcv
    obtain ⟨b8, o8, ad8, l8, c8, av, hbo8, hav, hc8, hl8, _, _, hr8, _⟩ := rdII_get (rdII_mono hbW2 hrv) hlt
    obtain ⟨rfl, rfl⟩ : bw = b8 ∧ ow = o8 := by simpa using hbo8
    obtain ⟨q7, q8⟩ := allJ_at HV0.out.2 hav
    have hdr : Below W2.heap.size W2 W2.drew := (Below.refl _ _).drew
    have I1 := Lib.hid (IH.out _ _ _ (ps.set k (x - 1)) W2.drew (rdI_mono hdr (ownI_rd hset)) (rdII_mono (hbW2.trans (hdr.mono hbW2.size)) h2') (rdIII_mono (hbW2.trans (hdr.mono hbW2.size)) htl) (by rw [List.length_set, HL1.out]) (fun z hz => by
      rcases List.mem_or_eq_of_mem_set hz with hz | rfl
      · exact HP5.out z hz
      · omega))
    have hr8d := Lib.hid hr8
    have hE2 : atL v0 k = av := atL_get hav
    have HE2 := Lib.hid hE2
    have HQ7 := Lib.hid q7
    have HBS := Lib.hid hbs
    have hgl : gg < W2.heap.size := ownI_lt hset _ (by simp)
    have hcx2 := cell_below hbs hcx0
    have hol := oneL_len ys vs (ps.set k (x - 1))
    rw [HHD.out] at hol
    have HOL := Lib.hid hol
    clear hset hbs hW2 hco hfz hown1 hgrow hat hlt1 hav hbo8 hr8 hl8 q7 q8 hE2 hol hbW2
    go_region_law (go_simp; first | (go_at_call 153; (with_reducible refine (I1.out).mono ?_); rintro e wa ⟨p1, fp1, rfl, hop1, hfp1, hba⟩; have hra := hdr.trans (hba.mono hdr.size); have hcva := cell_below hra hcv2; have hc8a := cell_below hra hc8) | (go_at_call 185; have A1 := l8Mul_any _ _ av (oneL ys vs (ps.set k (x - 1))) _ (rdI_mono (hdr.trans (hba.mono hdr.size)) hr8d.out) (ownI_rd hop1) (by rw [HQ7.out, HOL.out]; exact Nat.le_refl _) (by rw [HQ7.out]; exact hs7); (with_reducible refine A1.mono ?_); rintro e wb ⟨p2, fp2, rfl, hop2, hfp2, hbb⟩))
    all_goals (
      have hrb := hdr.trans ((hba.trans (hbb.mono hba.size)).mono hdr.size)
      have hwb := HBS.out.trans (hrb.mono HBS.out.size)
      have hcxb := cell_below hwb hcx0
      have A2 := Lib.hid (l8Add_any _ _ (oneS ys ps v0 (oneL ys vs) k) (mulZ av (oneL ys vs (ps.set k (x - 1)))) x wb (ownI_rd (ownI_only HO.out (Only.of_below (fp := []) hwb) (by simp))) (ownI_rd hop2) (by rw [oneS_len, HHD.out, mulZ_len, HQ7.out]; exact Nat.le_refl _) (by rw [oneS_len, HHD.out]; omega))
      obtain ⟨adz, lz, cz, rfl, _, _, _, _, _, _⟩ := ownI_open hop2
      have HWB := Lib.hid hwb
      clear hop1 hop2 hba hbb hrb hwb A1 hfp1 hfp2 hcva hc8a I1 hra
      go_wp2_with (go_at_call 152; ((with_reducible refine (A2.out).mono ?_); rintro e wp ⟨p3, fp3, rfl, hop3, hfp3, hbp⟩))
      have HOP := Lib.hid hop3
      have HFP := Lib.hid hfp3
      have HBP := Lib.hid hbp
      clear hop3 hfp3 hbp
      go_roundw
      case rel => exact ⟨k + 1, fp3, by omega, by go_num, by rw [HE.out, HE2.out]; exact HOP.out, fun b hb => by { have h1 := HFP.out b hb; have h2 := HWB.out.size; have h3 := HB.out.size; omega }, HB.out.trans ((HWB.out.trans (HBP.out.mono HWB.out.size)).mono HB.out.size)⟩
      case measure => simp [intOf]; omega)

theorem l8One_any (vs : List (List (List Int))) : ∀ (vp vy vv : Value) (ps : List Int) (ys : List (List Int)) (n size : Nat) (w : World), RdI w vp ps → RdII w vy ys → RdIII w vv vs → ps.length = n → (∀ x ∈ ps, 0 ≤ x ∧ x ≤ 5) →
    1 ≤ n → n ≤ 6 → 1 ≤ size → size ≤ 7 → ys.length = n → AllJ size ys → (∀ v ∈ vs, v.length = n ∧ AllJ size v) →
    Calls Tryz.prog 153 #[vp, vy, vv] w (Gives (fun w' v fp => OwnI 3 w' v (oneL ys vs ps) fp) w) := by
  induction vs with
  | nil => intro vp vy vv ps ys n size w hp hy ha hpl hp5 hn1 hn6 hs1 hs7 hyl hyj _; exact l8One_nil vp vy vv ps ys n size w hp hy ha hpl hp5 hn1 hn6 hs1 hs7 hyl hyj
  | cons v0 vs ih =>
    intro vp vy vv ps ys n size w hp hy ha hpl hp5 hn1 hn6 hs1 hs7 hyl hyj hv
    exact l8One_cons v0 vs vp vy vv ps ys n size w hp hy ha hpl hp5 hn1 hn6 hs1 hs7 hyl hyj (hv v0 (by simp)) (fun vp' vy' vv' ps' w' h1 h2 h3 h4 h5 => ih vp' vy' vv' ps' ys n size w' h1 h2 h3 h4 h5 hn1 hn6 hs1 hs7 hyl hyj (fun v hv' => hv v (by simp [hv'])))
end Go.Proofs.YtbcjhpgkodeoeaaGreatDoor

/- Derivatives of fields along directions, of the program and of the reference. Conditions: valid fields, a few directions. -/
namespace Go.Proofs.YtbcjhpgkodeoeaaGreatDoor
open Go.RowKit Go.Sort

theorem fldOk_facts {f : FldZ} (h : fldOkB f = true) : ∃ n : Nat, f.dim = n ∧ f.parts.length = n ∧ 1 ≤ n ∧ n ≤ 6 ∧ ∀ p ∈ f.parts, p.length ≤ 12 ∧ ∀ m ∈ p, MonFine n m := by
  simp only [fldOkB, Bool.and_eq_true, decide_eq_true_eq, List.all_eq_true, dimB] at h
  obtain ⟨⟨h1, h2⟩, h3⟩ := h
  refine ⟨f.parts.length, h2.symm, rfl, by omega, by omega, fun p hp => ?_⟩
  have h4 := h3 p hp
  rw [← h2] at h4
  obtain ⟨_, _, h5, h6⟩ := polyOk_facts h4
  exact ⟨h5, h6⟩
def fldD (parts : List (List MonZ)) (ys : List (List Int)) (al : List (List (List Int))) (size : Nat) : List (List Int) := parts.map fun p => derL p ys al size
def fldE (parts : List (List MonZ)) (ys : List (List Int)) (al : List (List (List Int))) : List (List Int) := parts.map fun p => dervL p ys al

set_option maxRecDepth 100000 in
set_option maxHeartbeats 3200000 in
theorem fieldAlong_any (vf vy va : Value) (f : FldZ) (ys : List (List Int)) (al : List (List (List Int))) (n size : Nat) (w : World) (hf : RdFld w vf f) (hy : RdII w vy ys) (ha : RdIII w va al)
    (hfl : f.parts.length = n) (hfp : ∀ p ∈ f.parts, p.length ≤ 12 ∧ ∀ m ∈ p, MonFine n m) (hn1 : 1 ≤ n) (hn6 : n ≤ 6) (hs1 : 1 ≤ size) (hs7 : size ≤ 7) (hyl : ys.length = n) (hyj : AllJ size ys) (hal : al.length ≤ 8) (haj : ∀ a ∈ al, a.length = n ∧ AllJ size a) :
    Calls Tryz.prog 64 #[vf, vy, va] w (Gives (fun w' v fp => OwnII 89 3 w' v (fldD f.parts ys al size) fp) w) := by
  obtain ⟨vP, rfl, hI, hp⟩ := hf
  obtain ⟨ad2, len2, cap2, rfl, hl2, hlc2, hcm2, h2'⟩ := rdS_open hy
  obtain ⟨ad3, len3, cap3, rfl, hl3, hlc3, hcm3, h3'⟩ := rdS_open ha
  obtain ⟨W0, hW0⟩ : ∃ W, W = w.alloc (.cells #[.int .i64 f.dim, vP] 30) := ⟨_, rfl⟩
  obtain ⟨W, hW⟩ : ∃ W, W = W0.alloc (.cells #[] 89) := ⟨_, rfl⟩
  have hb0 : Below w.heap.size w W0 := hW0 ▸ (Below.refl _ _).alloc (Nat.le_refl _) _
  have hsz0 : W0.heap.size = w.heap.size + 1 := by rw [hW0]; simp
  have hbW : Below w.heap.size w W := hW ▸ hb0.alloc (by omega) _
  obtain ⟨ad, len, cap, rfl, hl, hlc, hcm, h'⟩ := rdS_open hp
  have hd1 : W0.cell? ⟨w.heap.size, 1, none⟩ = some (.slice ad len cap) := by rw [hW0]; simp
  have hd1W : W.cell? ⟨w.heap.size, 1, none⟩ = some (.slice ad len cap) := by rw [hW, hW0]; simp
  obtain rfl : n = len := by omega
  have HO0 := Lib.hid (show OwnII 89 3 W (.slice (some ⟨w.heap.size + 1, 0, none⟩) 0 0) [] [w.heap.size + 1] from ⟨[], [], by
    have := World.ownsRow_lit (base := 0) (e := 89) (size := 1) W0 #[] 0 (Nat.zero_le _) (Nat.zero_le _) rfl
    rw [hW, ← hsz0]; simpa using this, by simp, rfl, rfl, by simp⟩)
  have HL := Lib.hid hl
  have HFP := Lib.hid hfp
  have HYL := Lib.hid hyl
  have HYJ := Lib.hid hyj
  have HAL := Lib.hid (hl3 ▸ hal)
  have HAL2 := Lib.hid hal
  have HAJ := Lib.hid haj
  have HBW := Lib.hid hbW
  have HW := Lib.hid hW
  have HW0 := Lib.hid hW0
  clear hp hy ha hl hl2 hl3 hfl hfp hyl hyj hal haj hW hW0 hb0 hsz0 hd1 hbW
  obtain ⟨j1, hj1, hw0, hw1, hw2⟩ := info_parts Tryz.info_jet
  go_enter Tryz.func64, Tryz.ntmps64
  go_wp2
  rw [← HW0.out, ← HW.out]
  go_loopw [7, 14] (fun u i wr => ∃ (k : Nat) (fs : List Nat), k ≤ n ∧ i = .int .i64 k ∧ OwnII 89 3 wr u ((fldD f.parts ys al size).take k) fs ∧ (∀ b ∈ fs, w.heap.size ≤ b) ∧ Below w.heap.size w wr) (fun _ i _ => n - (intOf i).toNat)
  case atStart => exact ⟨0, [w.heap.size + 1], Nat.zero_le _, rfl, by simpa using HO0.out, by simp, HBW.out⟩
  case round =>
    obtain ⟨wk, rfl⟩ : ∃ W, W = wr := ⟨_, rfl⟩
    obtain ⟨k, fs0, hk, rfl, ho, hf, hb⟩ := hrel
    clear HO0
    have htl : (fldD f.parts ys al size).length = n := by simp [fldD, HL.out]
    by_cases hlt : k < n
    case neg =>
      obtain rfl : k = n := by omega
      rw [List.take_of_length_le (by omega)] at ho
      go_wp2
      go_ret
      exact ⟨_, fs0, rfl, ho, hf, hb⟩
    have hkl : ((fldD f.parts ys al size).take k).length = k := by rw [List.length_take]; omega
    obtain ⟨us, fs, hown, hone, hels, rfl, hnd⟩ := ho
    have HOWN := Lib.hid hown
    rw [hkl] at hown
    obtain ⟨adu, capu, rfl, hluc, hcum, _⟩ := row_open hown
    have HNU := Lib.hid hown
    have HONE := Lib.hid hone
    have HELS := Lib.hid hels
    have HND := Lib.hid hnd
    have HF := Lib.hid hf
    have HKL := Lib.hid hkl
    obtain ⟨b, off, ad', len', cap', x, rfl, hx, hcx, h6, h7, h8, h9, hbs⟩ := rdMss_get (rdMss_mono hb h') hlt
    obtain ⟨hx12, hxm⟩ := HFP.out x (List.mem_of_getElem? hx)
    have M := Lib.hid (derived_any _ _ _ x ys al n size wk h9 (rdII_mono hb h2') (rdIII_mono hb h3') hx12 hxm hn1 hn6 hs1 hs7 HYL.out HYJ.out HAL2.out HAJ.out)
    have hsn : (fldD f.parts ys al size).take (k + 1) = (fldD f.parts ys al size).take k ++ [derL x ys al size] := take_snoc (by simp [fldD, hx])
    have HSN := Lib.hid hsn
    have HB := Lib.hid hb
    clear hown hone hels hnd hf hkl htl hx hx12 hxm h6 h9 hsn hbs hb
    go_wp2_with fail
    refine (M.out).mono ?_
    rintro e wa ⟨p1, fp1, rfl, hop1, hfp1, hba⟩
    obtain ⟨adp, lenp, capp, rfl, hlp, hlpc, hcpm, hownp, _, hfe⟩ := ownI_open hop1
    have hal : Below wa.heap.size wa (wa.alloc (.cells #[.slice adp lenp capp] 89)) := (Below.refl _ _).alloc (Nat.le_refl _) _
    have HNQ := Lib.hid (ownsRow_only HNU.out (Only.of_below (fp := []) hba) (by simp))
    have HS := Lib.hid (fun (w1 : World) (gg capn : Nat) (hown1 : w1.ownsRow 0 89 1 (.slice (some ⟨gg, 0, none⟩) (k + 1) capn) (k + 1) (us.flatten ++ [.slice adp lenp capp]))
        (hgrow : (wa.alloc (.cells #[.slice adp lenp capp] 89)).grownBy w1 (Value.slice adu k capu).ownBlock) (hat : (Value.slice adu k capu).ownBlock = some gg ∨ gg = wa.heap.size + 1) =>
      ownII_push (W := w) HONE.out HELS.out HND.out HOWN.out HKL.out hop1 hfp1 HF.out HB.out hba hal hown1 hgrow (fun b hb => by
        simp [Value.ownBlock] at hb
        subst hb
        rcases hat with hat | hat
        · left; exact hat
        · right; rw [hat]; simp))
    clear hop1 hlp hfe hownp hal hfp1 hba
    go_wp2_with (first | (at_builtin; refine wpList_append_lies _ rfl _ _ _ rfl 0 89 j1 _ 1 24 Tryz.underlying83 hj1 hw0 hw1 hw2 rfl (by omega) (.slice adu k capu) k _ (by rfl) (HNQ.out.alloc _) ⟨wa.heap.size, 0, none⟩ 1 1 [.slice adp lenp capp] (by rfl) (by rfl) (World.news_of_block (cs := #[.slice adp lenp capp]) (t := 89) (fr := (0, 0)) (heap_alloc_new wa _)) (by simp [Value.oneCell']) (by omega) (by unfold maxLen; omega) (by omega) (by simp) (wa.heap.size + 1) (by simp) ?_; intro gg capn w1 hown1 hgrow hat hlt1; obtain ⟨f', hP1, hP2, hP3⟩ := HS.out w1 gg capn hown1 hgrow hat; have HPP := Lib.hid hP1))
    all_goals (
      go_roundw
      case rel => exact ⟨k + 1, f', by omega, by go_num, by rw [HSN.out]; exact HPP.out, hP2, hP3⟩
      case measure => simp [intOf]; omega)
end Go.Proofs.YtbcjhpgkodeoeaaGreatDoor

/- The reference's derivative of a field along vectors. Conditions: valid fields, a few vectors. -/
namespace Go.Proofs.YtbcjhpgkodeoeaaGreatDoor
open Go.RowKit Go.Sort

set_option maxRecDepth 100000 in
set_option maxHeartbeats 6400000 in
theorem l8Der_any (vf vy vv : Value) (f : FldZ) (ys : List (List Int)) (vs : List (List (List Int))) (n size : Nat) (w : World) (hf : RdFld w vf f) (hy : RdII w vy ys) (ha : RdIII w vv vs) (hfd : f.dim = n)
    (hfl : f.parts.length = n) (hfp : ∀ p ∈ f.parts, p.length ≤ 12 ∧ ∀ m ∈ p, MonFine n m) (hn1 : 1 ≤ n) (hn6 : n ≤ 6) (hs1 : 1 ≤ size) (hs7 : size ≤ 7) (hyl : ys.length = n) (hyj : AllJ size ys) (haj : ∀ a ∈ vs, a.length = n ∧ AllJ size a) :
    Calls Tryz.prog 101 #[vf, vy, vv] w (Gives (fun w' v fp => OwnII 35 3 w' v (fldE f.parts ys vs) fp) w) := by
  obtain ⟨vP, rfl, hI, hp⟩ := hf
  rw [hfd]
  obtain ⟨ad2, len2, cap2, rfl, hl2, hlc2, hcm2, h2'⟩ := rdS_open hy
  obtain ⟨ad3, len3, cap3, rfl, hl3, hlc3, hcm3, h3'⟩ := rdS_open ha
  obtain rfl : n = len2 := by omega
  obtain ⟨b0, o0, ady, ly, capy, y0, rfl, hy0, hcy, hly, hlcy, hcmy, hry, hbs⟩ := rdII_get h2' (k := 0) (by omega)
  obtain rfl : ly = size := by have := (allJ_at hyj hy0).1; omega
  have hhd : hdL ys = ly := by
    cases ys with
    | nil => simp at hy0
    | cons y ys => exact (hyj y (by simp)).1
  simp only [Nat.add_zero] at hcy
  obtain ⟨W0, hW0⟩ : ∃ W, W = w.alloc (.cells #[.int .i64 (n : Int), vP] 30) := ⟨_, rfl⟩
  obtain ⟨W, hW⟩ : ∃ W, W = W0.alloc (.cells #[] 35) := ⟨_, rfl⟩
  have hb0 : Below w.heap.size w W0 := hW0 ▸ (Below.refl _ _).alloc (Nat.le_refl _) _
  have hsz0 : W0.heap.size = w.heap.size + 1 := by rw [hW0]; simp
  have hbW : Below W0.heap.size W0 W := hW ▸ (Below.refl _ _).alloc (Nat.le_refl _) _
  obtain ⟨ad, len, cap, rfl, hl, hlc, hcm, h'⟩ := rdS_open hp
  have hd0 : W0.cell? ⟨w.heap.size, 0, none⟩ = some (.int .i64 (n : Int)) := by rw [hW0]; simp
  have hd1 : W0.cell? ⟨w.heap.size, 1, none⟩ = some (.slice ad len cap) := by rw [hW0]; simp
  obtain rfl : n = len := by omega
  have HO0 := Lib.hid (show OwnII 35 3 W (.slice (some ⟨w.heap.size + 1, 0, none⟩) 0 0) [] [w.heap.size + 1] from ⟨[], [], by
    have := World.ownsRow_lit (base := 0) (e := 35) (size := 1) W0 #[] 0 (Nat.zero_le _) (Nat.zero_le _) rfl
    rw [hW, ← hsz0]; simpa using this, by simp, rfl, rfl, by simp⟩)
  have HL := Lib.hid hl
  have HFP := Lib.hid hfp
  have HYL := Lib.hid hyl
  have HYJ := Lib.hid hyj
  have HAJ := Lib.hid haj
  have HHD := Lib.hid hhd
  have HBW := Lib.hid hbW
  have HB0 := Lib.hid hb0
  have HW := Lib.hid hW
  have HW0 := Lib.hid hW0
  have HSZ := Lib.hid hsz0
  have HD0 := Lib.hid hd0
  have HD1 := Lib.hid hd1
  have HCY := Lib.hid hcy
  clear hp hy ha hl hl2 hl3 hfl hfp hyl hyj haj hW hW0 hb0 hsz0 hd0 hd1 hbW hhd hy0 hly hry hcy
  obtain ⟨i0, hi, hz0, hz1, hz2⟩ := info_parts Tryz.info_int
  obtain ⟨j1, hj1, hw0, hw1, hw2⟩ := info_parts Tryz.info_ints
  have hib : i0.bytes * ly ≤ 281474976710656 := by rw [hz2]; omega
  go_enter Tryz.func101, Tryz.ntmps101
  go_wp2
  rw [← HW0.out, ← HW.out]
  go_loopw [7, 8] (fun u i wr => ∃ (k : Nat) (fs : List Nat), k ≤ n ∧ i = .int .i64 k ∧ OwnII 35 3 wr u ((fldE f.parts ys vs).take k) fs ∧ (∀ b ∈ fs, W0.heap.size ≤ b) ∧ Below W0.heap.size W0 wr) (fun _ i _ => n - (intOf i).toNat)
  case atStart => exact ⟨0, [w.heap.size + 1], Nat.zero_le _, rfl, by simpa using HO0.out, by simp [HSZ.out], HBW.out⟩
  case round =>
    obtain ⟨wk, rfl⟩ : ∃ W, W = wr := ⟨_, rfl⟩
    obtain ⟨k, fs0, hk, rfl, ho, hf, hb⟩ := hrel
    clear HO0
    have htl : (fldE f.parts ys vs).length = n := by simp [fldE, HL.out]
    have hd0k := cell_below hb HD0.out
    have hd1k := cell_below hb HD1.out
    have hwk := HB0.out.trans (hb.mono HB0.out.size)
    have hcyk := cell_below hwk HCY.out
    by_cases hlt : k < n
    case neg =>
      obtain rfl : k = n := by omega
      rw [List.take_of_length_le (by omega)] at ho
      go_wp2
      go_ret
      exact ⟨_, fs0, rfl, ho, fun b hb' => by { have := hf b hb'; have := HB0.out.size; omega }, hwk⟩
    have hkl : ((fldE f.parts ys vs).take k).length = k := by rw [List.length_take]; omega
    obtain ⟨us, fs, hown, hone, hels, rfl, hnd⟩ := ho
    have HOWN := Lib.hid hown
    rw [hkl] at hown
    obtain ⟨adu, capu, rfl, hluc, hcum, _⟩ := row_open hown
    have HNU := Lib.hid hown
    have HONE := Lib.hid hone
    have HELS := Lib.hid hels
    have HND := Lib.hid hnd
    have HF := Lib.hid hf
    have HKL := Lib.hid hkl
    obtain ⟨b, off, ad', len', cap', x, rfl, hx, hcx, h6, h7, h8, h9, hbs⟩ := rdMss_get (rdMss_mono hwk h') hlt
    obtain ⟨hx12, hxm⟩ := HFP.out x (List.mem_of_getElem? hx)
    have hsn : (fldE f.parts ys vs).take (k + 1) = (fldE f.parts ys vs).take k ++ [dervL x ys vs] := take_snoc (by simp [fldE, hx])
    have HSN := Lib.hid hsn
    have HB := Lib.hid hb
    have HXM := Lib.hid hxm
    have HXL := Lib.hid h6
    have HWK := Lib.hid hwk
    have HD0K := Lib.hid hd0k
    clear hown hone hels hnd hf hkl htl hx hxm h6 hsn hbs hb hwk hd0k
    have hd0k := HD0K.out
    go_wp2_with (first
      | (at_make; refine wpList_make_full _ rfl _ _ 35 rfl 0 3 i0 (.int .i64 0) 1 Tryz.underlying35 hi hz0 hz1 .i64 .i64 _ _ ly rfl rfl rfl rfl hib (by unfold maxLen; omega) (Nat.zero_le _) ?_; intro w3 hown3 hgrow3))
    have hm0 : (madeCells (Value.int .i64 0).cells (ly * 1)).toList = (List.replicate ly (0 : Int)).map (Value.int .i64) := by
      rw [Nat.mul_one, List.map_replicate]; exact toList_madeCells_one _ _
    rw [hm0] at hown3
    have hbl : Below wk.heap.size wk w3 := (Below.refl _ _).grown hgrow3 (Nat.le_refl _) (fun k hk => by cases hk)
    have HO3 := Lib.hid (show OwnI 3 w3 (.slice (some ⟨wk.heap.size, 0, none⟩) ly ly) (dervP x ys vs 0) [wk.heap.size] from ⟨by rw [dervP, HHD.out, List.length_replicate]; exact hown3, rfl, fun z hz => i64_of_bd (dervP_nums x ys vs 0 z hz)⟩)
    have HB3 := Lib.hid hbl
    clear hm0 hown3 hgrow3 hbl
    go_loopw [9, 10] (fun u j wr => ∃ (q : Nat) (f2 : List Nat), q ≤ len' ∧ j = .int .i64 q ∧ OwnI 3 wr u (dervP x ys vs q) f2 ∧ (∀ b ∈ f2, wk.heap.size ≤ b) ∧ Below wk.heap.size wk wr) (fun _ j _ => len' - (intOf j).toNat)
    case atStart => exact ⟨0, _, Nat.zero_le _, rfl, HO3.out, by simp, HB3.out⟩
    case round =>
      obtain ⟨wq, rfl⟩ : ∃ W, W = wr := ⟨_, rfl⟩
      obtain ⟨q, f2, hq, rfl, ho2, hf2, hbq⟩ := hrel
      clear HO3 HB3
      have hd1q := cell_below hbq hd1k
      have hcxq := cell_below hbq hcx
      by_cases hql : q < len'
      case neg =>
        obtain rfl : q = len' := by omega
        have hE : dervP x ys vs q = dervL x ys vs := by rw [dervL, HXL.out]
        rw [hE] at ho2
        obtain ⟨adp, lenp, capp, rfl, hlp, hlpc, hcpm, hownp, _, hfe⟩ := ownI_open ho2
        have hal : Below wq.heap.size wq (wq.alloc (.cells #[.slice adp lenp capp] 35)) := (Below.refl _ _).alloc (Nat.le_refl _) _
        have HNQ := Lib.hid (ownsRow_only HNU.out (Only.of_below (fp := []) hbq) (by simp))
        have HS := Lib.hid (fun (w1 : World) (gg capn : Nat) (hown1 : w1.ownsRow 0 35 1 (.slice (some ⟨gg, 0, none⟩) (k + 1) capn) (k + 1) (us.flatten ++ [.slice adp lenp capp]))
            (hgrow : (wq.alloc (.cells #[.slice adp lenp capp] 35)).grownBy w1 (Value.slice adu k capu).ownBlock) (hat : (Value.slice adu k capu).ownBlock = some gg ∨ gg = wq.heap.size + 1) =>
          ownII_push (W := W0) HONE.out HELS.out HND.out HOWN.out HKL.out ho2 hf2 HF.out HB.out hbq hal hown1 hgrow (fun b hb => by
            simp [Value.ownBlock] at hb
            subst hb
            rcases hat with hat | hat
            · left; exact hat
            · right; rw [hat]; simp))
        clear ho2 hlp hfe hownp hal hf2 hbq hE
        go_wp2_with (first | (at_builtin; refine wpList_append_lies _ rfl _ _ _ rfl 0 35 j1 _ 1 24 Tryz.underlying25 hj1 hw0 hw1 hw2 rfl (by omega) (.slice adu k capu) k _ (by rfl) (HNQ.out.alloc _) ⟨wq.heap.size, 0, none⟩ 1 1 [.slice adp lenp capp] (by rfl) (by rfl) (World.news_of_block (cs := #[.slice adp lenp capp]) (t := 35) (fr := (0, 0)) (heap_alloc_new wq _)) (by simp [Value.oneCell']) (by omega) (by unfold maxLen; omega) (by omega) (by simp) (wq.heap.size + 1) (by simp) ?_; intro gg capn w1 hown1 hgrow hat hlt1; obtain ⟨f', hP1, hP2, hP3⟩ := HS.out w1 gg capn hown1 hgrow hat; have HPP := Lib.hid hP1))
        all_goals (
          go_roundw
          case rel => exact ⟨k + 1, f', by omega, by go_num, by rw [HSN.out]; exact HPP.out, hP2, hP3⟩
          case measure => simp [intOf]; omega)
      obtain ⟨b5, o5, adm, lenm, capm, m, rfl, hm, hc0, hc1, hIm, h61, h71, h81, h91, _⟩ := rdMs_get (rdMs_mono hbq h9) hql
      obtain ⟨⟨hm0, hm1⟩, hmn, hmd, hmp⟩ := HXM.out m (List.mem_of_getElem? hm)
      obtain ⟨W1, hW1⟩ : ∃ W, W = wq.alloc (.cells #[.int .i64 m.coef, .slice adm lenm capm] 56) := ⟨_, rfl⟩
      have hbW1 : Below wq.heap.size wq W1 := hW1 ▸ (Below.refl _ _).alloc (Nat.le_refl _) _
      have hm0c : W1.cell? ⟨wq.heap.size, 0, none⟩ = some (.int .i64 m.coef) := by rw [hW1]; simp
      have hm1c : W1.cell? ⟨wq.heap.size, 1, none⟩ = some (.slice adm lenm capm) := by rw [hW1]; simp
      have hdr : Below W1.heap.size W1 W1.drew := (Below.refl _ _).drew
      have hwq := HWK.out.trans (hbq.mono HWK.out.size)
      have hq1 := hwq.trans ((hbW1.trans (hdr.mono hbW1.size)).mono hwq.size)
      have I1 := Lib.hid (l8One_any vs _ _ _ m.pows ys n ly W1.drew (rdI_mono (hbW1.trans (hdr.mono hbW1.size)) h91) (rdII_mono hq1 h2') (rdIII_mono hq1 h3') hmn hmp hn1 hn6 hs1 hs7 HYL.out HYJ.out HAJ.out)
      have hE : dervP x ys vs (q + 1) = addJ (dervP x ys vs q) (oneL ys vs m.pows) m.coef := by rw [dervP, hm]; rfl
      have HE := Lib.hid hE
      have HW1 := Lib.hid hW1
      have HO2 := Lib.hid ho2
      have HF2 := Lib.hid hf2
      have HBQ := Lib.hid hbq
      have HBW1 := Lib.hid hbW1
      have hol := oneL_len ys vs m.pows
      rw [HHD.out] at hol
      have HOL := Lib.hid hol
      obtain ⟨adz, lz, cz, rfl, _, _, _, _, _, _⟩ := ownI_open ho2
      clear hm hmn hmp h61 h91 hE hW1 ho2 hf2 hbq hwq hq1 hol hbW1
      go_wp2
      rw [← HW1.out]
      go_region_law (go_simp; first | (go_at_call 153; (with_reducible refine (I1.out).mono ?_); rintro e wa ⟨p1, fp1, rfl, hop1, hfp1, hba⟩; have hra := hdr.trans (hba.mono hdr.size); have hm0a := cell_below hra hm0c) | (go_at_call 152; have A1 := l8Add_any _ _ (dervP x ys vs q) (oneL ys vs m.pows) m.coef _ (ownI_rd (ownI_only HO2.out (Only.of_below (fp := []) (HBW1.out.trans (hra.mono HBW1.out.size))) (by simp))) (ownI_rd hop1) (by rw [dervP_len, HHD.out, HOL.out]; exact Nat.le_refl _) (by rw [dervP_len, HHD.out]; omega); (with_reducible refine A1.mono ?_); rintro e wb ⟨p2, fp2, rfl, hop2, hfp2, hbb⟩))
      all_goals (
        have hrb := HBW1.out.trans ((hra.trans (hbb.mono hra.size)).mono HBW1.out.size)
        have hf3 : ∀ b ∈ fp2, wk.heap.size ≤ b := fun b hb' => by { have := hfp2 b hb'; have := hra.size; have := HBW1.out.size; have := HBQ.out.size; omega }
        have HO4 := Lib.hid hop2
        have HRB := Lib.hid (HBQ.out.trans (hrb.mono HBQ.out.size))
        have HF3 := Lib.hid hf3
        clear hop1 hop2 hba hbb hrb hra A1 hfp1 hfp2 hm0a I1 hf3
        go_wp2
        go_roundw
        case rel => exact ⟨q + 1, fp2, by omega, by go_num, by rw [HE.out]; exact HO4.out, HF3.out, HRB.out⟩
        case measure => simp [intOf]; omega)
end Go.Proofs.YtbcjhpgkodeoeaaGreatDoor

/- Jets of a path, the number of coordinates in any spelling. Conditions: as for the jets. -/
namespace Go.Proofs.YtbcjhpgkodeoeaaGreatDoor
open Go.RowKit Go.Sort

theorem jets_at (v : Value) (xs : List (List Int)) (n : Nat) (nz : Int) (w : World) (hz : nz = (n : Int)) (h : RdII w v xs) (hn : n ≤ 2097152) (hx7 : xs.length ≤ 7) (hrow : ∀ y ∈ xs, y.length = n) :
    Calls Tryz.prog 61 #[v, .int .i64 nz] w (Gives (fun w' v fp => OwnII 89 3 w' v (turnZ xs n) fp) w) := by
  subst hz
  exact jets_any v xs n w h hn hx7 hrow

end Go.Proofs.YtbcjhpgkodeoeaaGreatDoor
