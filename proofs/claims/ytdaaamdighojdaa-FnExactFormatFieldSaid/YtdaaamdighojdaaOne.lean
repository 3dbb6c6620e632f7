/- The reference's derivative of a product of powers along vectors. Conditions: valid powers, a few vectors. -/
import Derived.Test.YtdaaamdighojdaaNows
set_option linter.unusedSimpArgs false
set_option linter.unusedVariables false
namespace Go.Proofs.Ytdaaamdighojdaa
open Go.RowKit Go.Sort

theorem rdI_news {w : World} {b off n cap : Nat} {xs : List Int} (h : RdI w (.slice (some ⟨b, off, none⟩) n cap) xs) : ∀ (j : Nat) u, (xs.map (Value.int .i64))[j]? = some u → w.cell? ((⟨b, off, none⟩ : Addr).add j) = some u := by
  intro j u hu
  obtain ⟨ad', len', cap', he, hl, _, _, _⟩ := rdS_open h
  injection he with e1 e2 e3
  subst e2
  rw [List.getElem?_map] at hu
  cases hx : xs[j]? with
  | none => rw [hx] at hu; simp at hu
  | some x =>
    rw [hx] at hu
    simp only [Option.map_some, Option.some.injEq] at hu
    have hj : j < n := by rw [← hl]; exact (List.getElem?_eq_some_iff.1 hx).1
    obtain ⟨b', off', x', hb, hx', hc, _, _⟩ := rdI_get h hj
    simp only [Option.some.injEq, Addr.mk.injEq] at hb
    obtain ⟨rfl, rfl, _⟩ := hb
    rw [hx] at hx'
    obtain rfl := Option.some.inj hx'
    have hadd : (⟨b, off, none⟩ : Addr).add j = ⟨b, off + j, none⟩ := by unfold Addr.add; split <;> simp_all
    rw [hadd, hc, hu]

theorem one_row {e size : Nat} {w w1 : World} (hown : w1.ownsRow 0 e 1 (.slice (some ⟨w.heap.size, 0, none⟩) size size) size (madeCells (Value.int .i64 0).cells (size * 1)).toList) (hg : w.grownBy w1 none) (hs : 1 ≤ size) :
    w1.cell? ⟨w.heap.size, 0, none⟩ = some (.int .i64 0) ∧ OwnI e (w1.setCell ⟨w.heap.size, 0, none⟩ (.int .i64 1)) (.slice (some ⟨w.heap.size, 0, none⟩) size size) (oneAt 1 size) [w.heap.size] ∧ Below w.heap.size w (w1.setCell ⟨w.heap.size, 0, none⟩ (.int .i64 1)) := by
  have hm0 : (madeCells (Value.int .i64 0).cells (size * 1)).toList = (List.replicate size (0 : Int)).map (Value.int .i64) := by
    rw [Nat.mul_one, List.map_replicate]; exact toList_madeCells_one _ _
  rw [hm0] at hown
  have hb : Below w.heap.size w w1 := (Below.refl _ _).grown hg (Nat.le_refl _) (fun k hk => by cases hk)
  have hsr := (hown.stored 0 (.int .i64 1)).1
  refine ⟨?_, ⟨?_, rfl, fun x hx => i64_of_bd (oneAt_nums (by omega) size x hx)⟩, hb.setCell (Nat.le_refl _) _⟩
  · rw [hown.cellAt 0 (by omega), List.getElem?_map, List.getElem?_replicate, if_pos (by omega)]
    rfl
  · rw [oneAt_len, oneAt, List.map_set]
    exact hsr

set_option maxRecDepth 100000 in
set_option maxHeartbeats 3200000 in
theorem l8One_nil (vp vy vv : Value) (ps : List Int) (ys : List (List Int)) (n size : Nat) (w : World) (hp : RdI w vp ps) (hy : RdII w vy ys) (ha : RdIII w vv []) (hpl : ps.length = n) (hp5 : ∀ x ∈ ps, 0 ≤ x ∧ x ≤ 5)
    (hn1 : 1 ≤ n) (hn6 : n ≤ 6) (hs1 : 1 ≤ size) (hs7 : size ≤ 7) (hyl : ys.length = n) (hyj : AllJ size ys) :
    Calls Try.prog 82 #[vp, vy, vv] w (Gives (fun w' v fp => OwnI 3 w' v (oneL ys [] ps) fp) w) := by
  obtain ⟨ad1, len1, cap1, rfl, hl1, hlc1, hcm1, h1'⟩ := rdS_open hp
  obtain ⟨ad2, len2, cap2, rfl, hl2, hlc2, hcm2, h2'⟩ := rdS_open hy
  obtain ⟨ad3, len3, cap3, rfl, hl3, hlc3, hcm3, h3'⟩ := rdS_open ha
  obtain rfl : len1 = n := by omega
  obtain rfl : len2 = len1 := by omega
  obtain rfl : len3 = 0 := by simpa using hl3.symm
  obtain ⟨b0, o0, ady, ly, capy, y0, rfl, hy0, hcy, hly, hlcy, hcmy, hry, hbs⟩ := rdII_get h2' (k := 0) (by omega)
  obtain rfl : ly = size := by have := (allJ_at hyj hy0).1; omega
  have hhd : hdL ys = ly := by
    cases ys with
    | nil => simp at hy0
    | cons y ys => exact (hyj y (by simp)).1
  simp only [Nat.add_zero] at hcy
  have HL1 := Lib.hid hl1
  have HL2 := Lib.hid hl2
  have HP5 := Lib.hid hp5
  have HYJ := Lib.hid hyj
  have HHD := Lib.hid hhd
  clear hp hy ha hl1 hl2 hl3 hpl hp5 hyl hyj hy0 hly hry hhd
  obtain ⟨i0, hi, hz0, hz1, hz2⟩ := info_parts Try.info_int
  have hib : i0.bytes * ly ≤ 281474976710656 := by rw [hz2]; omega
  have hly0 : (0 : Int) < ly := by omega
  have hly1 : 0 < ly := hs1
  go_enter Try.func82, Try.ntmps82
  go_wp2_with (first
    | (at_make; refine wpList_make_full _ rfl _ _ 24 rfl 0 3 i0 (.int .i64 0) 1 Try.underlying24 hi hz0 hz1 .i64 .i64 _ _ ly rfl rfl rfl rfl hib (by unfold maxLen; omega) (Nat.zero_le _) ?_; intro w1 hown1 hgrow1; have hcell := hown1.cellAt 0 (by omega); have hfz := hown1.frozenAt 0; have hst := one_row hown1 hgrow1 hs1; obtain ⟨hcell', hOW⟩ := hst; have HOW := Lib.hid hOW; clear hOW hcell hown1 hgrow1))
  go_loopw [12, 13] (fun u i wr => ∃ (k : Nat) (f : List Nat), k ≤ len2 ∧ i = .int .i64 k ∧ OwnI 3 wr u (powV ys ps (oneAt 1 ly) k) f ∧ (∀ b ∈ f, w.heap.size ≤ b) ∧ Below w.heap.size w wr) (fun _ i _ => len2 - (intOf i).toNat)
  case atStart => exact ⟨0, _, Nat.zero_le _, rfl, HOW.out.1, by simp, HOW.out.2⟩
  case round =>
    obtain ⟨wk, rfl⟩ : ∃ W, W = wr := ⟨_, rfl⟩
    obtain ⟨k, f, hk, rfl, ho, hf, hb⟩ := hrel
    clear HOW hcell' hfz
    by_cases hlt : k < len2
    case neg =>
      obtain rfl : k = len2 := by omega
      go_wp2
      go_ret
      exact ⟨_, f, rfl, by rw [oneL, HL1.out, HHD.out]; exact ho, hf, hb⟩
    obtain ⟨b1, o1, x, rfl, hx, hcx0, hIx, _⟩ := rdI_get h1' hlt
    obtain ⟨hx0, hx5⟩ := HP5.out x (List.mem_of_getElem? hx)
    have hxa : atZ ps k = x := atZ_get hx
    have HXA := Lib.hid hxa
    have hpl : (powV ys ps (oneAt 1 ly) k).length = ly := by rw [powV_len, oneAt_len]
    have hnu : Nums (powV ys ps (oneAt 1 ly) k) := powV_nums (oneAt_nums (by omega) _) _
    obtain ⟨PV, hPV⟩ : ∃ PV, PV = powV ys ps (oneAt 1 ly) k := ⟨_, rfl⟩
    rw [← hPV] at ho hpl hnu
    have HPL := Lib.hid (And.intro hpl hnu)
    have HPV := Lib.hid hPV
    have HO := Lib.hid ho
    have HF := Lib.hid hf
    have HB := Lib.hid hb
    obtain ⟨adu, lenu, capu, rfl, hlu, hluc, hcum, _, _, _⟩ := ownI_open ho
    clear hx hxa hpl hnu hPV ho hf hb hlu
    go_wp2
    go_loopw [12, 14] (fun u j wr => ∃ (r : Nat) (f : List Nat), (r : Int) ≤ x ∧ j = .int .i64 r ∧ OwnI 3 wr u (powN (atL ys k) PV r) f ∧ (∀ b ∈ f, w.heap.size ≤ b) ∧ Below w.heap.size w wr) (fun _ j _ => x.toNat - (intOf j).toNat)
    case atStart => exact ⟨0, f, by omega, rfl, HO.out, HF.out, HB.out⟩
    case round =>
      obtain ⟨wq, rfl⟩ : ∃ W, W = wr := ⟨_, rfl⟩
      obtain ⟨r, f2, hr, rfl, ho2, hf2, hb2⟩ := hrel
      clear HO HF HB
      have hcx := cell_below hb2 hcx0
      by_cases hrx : (r : Int) < x
      case neg =>
        have hE : powV ys ps (oneAt 1 ly) (k + 1) = powN (atL ys k) PV r := by rw [powV, HXA.out, ← HPV.out, show x.toNat = r by omega]
        have HO2 := Lib.hid (hE ▸ ho2)
        clear hE ho2
        go_wp2
        go_roundw
        case rel => exact ⟨k + 1, f2, by omega, by go_num, HO2.out, hf2, hb2⟩
        case measure => simp [intOf]; omega
      obtain ⟨b5, o5, ad5, l5, c5, yv, hbo, hyv, hcyv, h51, h52, h53, h54, _⟩ := rdII_get (rdII_mono hb2 h2') (k := k) hlt
      obtain ⟨rfl, rfl⟩ : b0 = b5 ∧ o0 = o5 := by simpa using hbo
      have M1 := Lib.hid (l8Mul_any _ _ (powN (atL ys k) PV r) yv wq (ownI_rd ho2) h54 (by rw [powN_len, HPL.out.1, (allJ_at HYJ.out hyv).1]; exact Nat.le_refl _) (by rw [powN_len, HPL.out.1]; exact hs7))
      have hE : powN (atL ys k) PV (r + 1) = mulZ (powN (atL ys k) PV r) yv := by rw [powN, atL_get hyv]
      have HE := Lib.hid hE
      obtain ⟨adu2, lenu2, capu2, rfl, _, _, _, _, _, _⟩ := ownI_open ho2
      have HB2 := Lib.hid hb2
      clear hE ho2 h54 hyv h51 hbo hb2
      go_wp2_with (go_at_call 62; ((with_reducible refine (M1.out).mono ?_); rintro e wp ⟨p1, fp1, rfl, hop1, hfp1, hbp⟩))
      have HOP := Lib.hid hop1
      have HFP := Lib.hid hfp1
      have HBP := Lib.hid hbp
      clear hop1 hfp1 hbp
      go_roundw
      case rel => exact ⟨r + 1, fp1, by omega, by go_num, by rw [HE.out]; exact HOP.out, fun b hb => by { have h1 := HFP.out b hb; have h2 := HB2.out.size; omega }, HB2.out.trans (HBP.out.mono HB2.out.size)⟩
      case measure => simp [intOf]; omega

theorem rdIII_tail {w : World} {b off n cap : Nat} {x : List (List Int)} {xs : List (List (List Int))} (h : RdIII w (.slice (some ⟨b, off, none⟩) (n + 1) cap) (x :: xs)) {ad : Option Addr} (had : (if cap = 1 then some (⟨b, off, none⟩ : Addr) else some ⟨b, off + 1, none⟩) = ad) : RdIII w (.slice ad n (cap - 1)) xs := by
  obtain ⟨ad', cap', he, h1, h2, h3⟩ := h
  injection he with e1 e2 e3
  subst e3
  simp only [List.length_cons] at e2 h1 h3
  obtain rfl : n = xs.length := by omega
  refine ⟨_, _, rfl, by omega, by omega, fun hpos => ⟨b, off + 1, by rw [← had, if_neg (by omega)], fun i y hy => ?_⟩⟩
  obtain ⟨b', off', hb, hc⟩ := h3 (by omega)
  rw [← e1] at hb
  simp only [Option.some.injEq, Addr.mk.injEq] at hb
  obtain ⟨rfl, rfl, _⟩ := hb
  obtain ⟨us, hs, hu, hE⟩ := hc (i + 1) y (by simpa using hy)
  exact ⟨us, hs, fun j u hj => by have := hu j u hj; rwa [show off + 1 + i * 1 + j = off + (i + 1) * 1 + j by omega], hE⟩
theorem less_set {e W1h : Nat} {W w1 w2 : World} {ps : List Int} {gg n capn k : Nat} {x : Int} (hown : w2.ownsRow 0 e 1 (.slice (some ⟨gg, 0, none⟩) (0 + n) capn) (0 + n) ([] ++ ps.map (Value.int .i64))) (hb1 : Below W.heap.size W w1)
    (hg : w1.grownBy w2 (some W1h)) (h1 : W1h = W.heap.size) (hat : some W1h = some gg ∨ W.heap.size ≤ gg) (hx : ps[k]? = some x) (hx0 : 0 < x) (hx5 : x ≤ 5) (hp5 : ∀ x ∈ ps, 0 ≤ x ∧ x ≤ 5) (hn : ps.length = n) :
    w2.cell? ⟨gg, k, none⟩ = some (.int .i64 x) ∧ w2.frozen? ⟨gg, k, none⟩ = false ∧ OwnI e (w2.setCell ⟨gg, k, none⟩ (.int .i64 (x - 1))) (.slice (some ⟨gg, 0, none⟩) n capn) (ps.set k (x - 1)) [gg] ∧ Below W.heap.size W (w2.setCell ⟨gg, k, none⟩ (.int .i64 (x - 1))) := by
  rw [Nat.zero_add, List.nil_append] at hown
  have hgg : W.heap.size ≤ gg := by
    rcases hat with h | h
    · simp at h; omega
    · exact h
  have hB : Below W.heap.size W w2 := hb1.grown hg (Nat.le_trans (Nat.le_refl _) hb1.size) (fun k hk => by simp at hk; omega)
  have hk : k < ps.length := (List.getElem?_eq_some_iff.1 hx).1
  have hs := (hown.stored k (.int .i64 (x - 1))).1
  refine ⟨?_, hown.frozenAt k, ⟨by rw [List.length_set, hn, List.map_set]; exact hs, rfl, fun z hz => ?_⟩, hB.setCell hgg _⟩
  · rw [hown.cellAt k (by omega)]
    simp [hx]
  · rcases List.mem_or_eq_of_mem_set hz with hz | rfl
    · have := hp5 z hz; exact ⟨by omega, by omega⟩
    · exact ⟨by omega, by omega⟩

set_option maxRecDepth 100000 in
set_option maxHeartbeats 3200000 in
theorem l8One_cons (v0 : List (List Int)) (vs : List (List (List Int))) (vp vy vv : Value) (ps : List Int) (ys : List (List Int)) (n size : Nat) (w : World) (hp : RdI w vp ps) (hy : RdII w vy ys) (ha : RdIII w vv (v0 :: vs)) (hpl : ps.length = n) (hp5 : ∀ x ∈ ps, 0 ≤ x ∧ x ≤ 5)
    (hn1 : 1 ≤ n) (hn6 : n ≤ 6) (hs1 : 1 ≤ size) (hs7 : size ≤ 7) (hyl : ys.length = n) (hyj : AllJ size ys) (hv0 : v0.length = n ∧ AllJ size v0)
    (ih : ∀ (vp vy vv : Value) (ps : List Int) (w : World), RdI w vp ps → RdII w vy ys → RdIII w vv vs → ps.length = n → (∀ x ∈ ps, 0 ≤ x ∧ x ≤ 5) →
      Calls Try.prog 82 #[vp, vy, vv] w (Gives (fun w' v fp => OwnI 3 w' v (oneL ys vs ps) fp) w)) :
    Calls Try.prog 82 #[vp, vy, vv] w (Gives (fun w' v fp => OwnI 3 w' v (oneL ys (v0 :: vs) ps) fp) w) := by
  obtain ⟨ad1, len1, cap1, rfl, hl1, hlc1, hcm1, h1'⟩ := rdS_open hp
  obtain ⟨ad2, len2, cap2, rfl, hl2, hlc2, hcm2, h2'⟩ := rdS_open hy
  obtain ⟨ad3, len3, cap3, rfl, hl3, hlc3, hcm3, h3'⟩ := rdS_open ha
  obtain rfl : len1 = n := by omega
  obtain rfl : len2 = len1 := by omega
  obtain ⟨b0, o0, ady, ly, capy, y0, rfl, hy0, hcy, hly, hlcy, hcmy, hry, hbs⟩ := rdII_get h2' (k := 0) (by omega)
  obtain rfl : ly = size := by have := (allJ_at hyj hy0).1; omega
  have hhd : hdL ys = ly := by
    cases ys with
    | nil => simp at hy0
    | cons y ys => exact (hyj y (by simp)).1
  obtain ⟨nt, rfl⟩ : ∃ nt, len3 = nt + 1 := ⟨vs.length, by rw [← hl3]; rfl⟩
  obtain ⟨b3, o3, adv, lv, capv, v0', rfl, hv0', hcv, hlv, hlcv, hcmv, hrv, _⟩ := rdIII_get h3' (k := 0) (by omega)
  obtain rfl : v0 = v0' := by simpa using hv0'
  obtain rfl : len2 = lv := by omega
  obtain ⟨tad, htad⟩ : ∃ tad, (if cap3 = 1 then some (⟨b3, o3, none⟩ : Addr) else some ⟨b3, o3 + 1, none⟩) = tad := ⟨_, rfl⟩
  have htl := rdIII_tail h3' htad
  obtain ⟨bw, ow, hwv⟩ : ∃ bw ow, adv = some ⟨bw, ow, none⟩ := by obtain ⟨b, o, _, _, _, _, h, _⟩ := rdII_get hrv (k := 0) (by omega); exact ⟨b, o, h⟩
  subst hwv
  obtain ⟨bp, op, hpv⟩ : ∃ bp op, ad1 = some ⟨bp, op, none⟩ := by obtain ⟨b, o, _, h, _⟩ := rdI_get h1' (k := 0) (by omega); exact ⟨b, o, h⟩
  subst hpv
  simp only [Nat.add_zero] at hcy hcv
  have HL1 := Lib.hid hl1
  have HP5 := Lib.hid hp5
  have HYJ := Lib.hid hyj
  have HHD := Lib.hid hhd
  have HV0 := Lib.hid hv0
  have IH := Lib.hid ih
  clear hp hy ha hl1 hl2 hl3 hpl hp5 hyl hyj hy0 hly hry hhd hv0 hv0' hlv ih
  obtain ⟨i0, hi, hz0, hz1, hz2⟩ := info_parts Try.info_int
  have hib : i0.bytes * ly ≤ 281474976710656 := by rw [hz2]; omega
  have hpos : (0 : Int) < (nt : Int) + 1 := by omega
  have hpos1 : (1 : Int) ≤ (nt : Int) + 1 := by omega
  go_enter Try.func82, Try.ntmps82
  go_wp2_with (first
    | (at_make; refine wpList_make_full _ rfl _ _ 24 rfl 0 3 i0 (.int .i64 0) 1 Try.underlying24 hi hz0 hz1 .i64 .i64 _ _ ly rfl rfl rfl rfl hib (by unfold maxLen; omega) (Nat.zero_le _) ?_; intro w1 hown1 hgrow1))
  have hm0 : (madeCells (Value.int .i64 0).cells (ly * 1)).toList = (List.replicate ly (0 : Int)).map (Value.int .i64) := by
    rw [Nat.mul_one, List.map_replicate]; exact toList_madeCells_one _ _
  rw [hm0] at hown1
  have hbl : Below w.heap.size w w1 := (Below.refl _ _).grown hgrow1 (Nat.le_refl _) (fun k hk => by cases hk)
  have HO1 := Lib.hid (show OwnI 3 w1 (.slice (some ⟨w.heap.size, 0, none⟩) ly ly) (oneS ys ps v0 (oneL ys vs) 0) [w.heap.size] from ⟨by rw [oneS, HHD.out, List.length_replicate]; exact hown1, rfl, fun x hx => i64_of_bd (oneS_nums ys ps v0 _ 0 x hx)⟩)
  have HBL := Lib.hid hbl
  clear hm0 hgrow1 hown1 hbl hib
  go_loopw [8, 9] (fun u i wr => ∃ (k : Nat) (f : List Nat), k ≤ len2 ∧ i = .int .i64 k ∧ OwnI 3 wr u (oneS ys ps v0 (oneL ys vs) k) f ∧ (∀ b ∈ f, w.heap.size ≤ b) ∧ Below w.heap.size w wr) (fun _ i _ => len2 - (intOf i).toNat)
  case atStart => exact ⟨0, _, Nat.zero_le _, rfl, HO1.out, by simp, HBL.out⟩
  case round =>
    obtain ⟨wk, rfl⟩ : ∃ W, W = wr := ⟨_, rfl⟩
    obtain ⟨k, f, hk, rfl, ho, hf, hb⟩ := hrel
    clear HO1 HBL
    by_cases hlt : k < len2
    case neg =>
      obtain rfl : k = len2 := by omega
      go_wp2
      go_ret
      exact ⟨_, f, rfl, by rw [oneL, HL1.out]; exact ho, hf, hb⟩
    obtain ⟨b1, o1, x, hbo, hx, hcx0, hIx, _⟩ := rdI_get (rdI_mono hb h1') hlt
    obtain ⟨rfl, rfl⟩ : bp = b1 ∧ op = o1 := by simpa using hbo
    obtain ⟨hx0, hx5⟩ := HP5.out x (List.mem_of_getElem? hx)
    have hxa : atZ ps k = x := atZ_get hx
    obtain ⟨adu, lenu, capu, rfl, hlu, hluc, hcum, _, _, _⟩ := ownI_open ho
    have HO := Lib.hid ho
    have HF := Lib.hid hf
    have HB := Lib.hid hb
    clear hlu ho hf hbo
    by_cases hxp : 0 < x
    case neg =>
      have hE : oneS ys ps v0 (oneL ys vs) (k + 1) = oneS ys ps v0 (oneL ys vs) k := by rw [oneS, if_neg (by rw [hxa]; exact hxp)]
      have HE := Lib.hid hE
      clear hE hx hxa hb
      go_wp2
      go_roundw
      case rel => exact ⟨k + 1, f, by omega, by go_num, by rw [HE.out]; exact HO.out, HF.out, HB.out⟩
      case measure => simp [intOf]; omega
    have hE : oneS ys ps v0 (oneL ys vs) (k + 1) = addJ (oneS ys ps v0 (oneL ys vs) k) (mulZ (atL v0 k) (oneL ys vs (ps.set k (x - 1)))) x := by rw [oneS, if_pos (by rw [hxa]; exact hxp), hxa]
    have HE := Lib.hid hE
    have hr1 := rdI_mono hb h1'
    have halr : Below wk.heap.size wk (wk.alloc (.cells #[] 3)) := (Below.refl _ _).alloc (Nat.le_refl _) _
    have HNW := Lib.hid (rdI_news (rdI_mono halr hr1))
    have HX := Lib.hid hx
    have HLS := Lib.hid (fun (w2 : World) (gg capn : Nat) (hown : w2.ownsRow 0 3 1 (.slice (some ⟨gg, 0, none⟩) (0 + len2) capn) (0 + len2) ([] ++ ps.map (Value.int .i64))) (hg : (wk.alloc (.cells #[] 3)).grownBy w2 (some wk.heap.size)) (hat : some wk.heap.size = some gg ∨ wk.heap.size ≤ gg) =>
      less_set (W := wk) hown halr hg rfl hat HX.out hxp hx5 HP5.out HL1.out)
    have HHR := Lib.hid hr1
    have HROW := Lib.hid (show (wk.alloc (.cells #[] 3)).ownsRow 0 3 1 (.slice (some ⟨wk.heap.size, 0, none⟩) 0 0) 0 [] from by simpa using World.ownsRow_lit (base := 0) (e := 3) (size := 1) wk #[] 0 (Nat.zero_le _) (Nat.zero_le _) rfl)
    clear hE hx hxa hr1 halr hb
    go_wp2_with (first | (at_builtin; refine wpList_append_lies _ rfl _ _ _ rfl 0 3 i0 _ 1 8 Try.underlying24 hi hz0 hz1 hz2 rfl (by omega) (.slice (some ⟨wk.heap.size, 0, none⟩) 0 0) 0 [] (by rfl) HROW.out ⟨bp, op, none⟩ len2 cap1 (ps.map (Value.int .i64)) (by rfl) (by rw [List.length_map, HL1.out, Nat.mul_one]) HNW.out (by intro u hu; simp only [List.mem_map] at hu; obtain ⟨z, _, rfl⟩ := hu; rfl) (by omega) (by unfold maxLen; omega) (by omega) (by simp) (wk.heap.size + 1) (by simp) ?_; intro gg capn w1 hown1 hgrow hat hlt1; obtain ⟨hco, hfz, hset, hbs⟩ := HLS.out w1 gg capn hown1 (by simpa [Value.ownBlock] using hgrow) (by rcases hat with hat | hat; exact .inl (by simpa [Value.ownBlock] using hat); exact .inr (by omega))))
    obtain ⟨W2, hW2⟩ : ∃ W, W = w1.setCell ⟨gg, k, none⟩ (.int .i64 (x - 1)) := ⟨_, rfl⟩
    rw [← hW2] at hset hbs ⊢
    have hbW2 := HB.out.trans (hbs.mono HB.out.size)
    have hcv2 := cell_below hbW2 hcv
    obtain ⟨b8, o8, ad8, l8, c8, av, hbo8, hav, hc8, hl8, _, _, hr8, _⟩ := rdII_get (rdII_mono hbW2 hrv) hlt
    obtain ⟨rfl, rfl⟩ : bw = b8 ∧ ow = o8 := by simpa using hbo8
    obtain ⟨q7, q8⟩ := allJ_at HV0.out.2 hav
    have hdr : Below W2.heap.size W2 W2.drew := (Below.refl _ _).drew
    have I1 := Lib.hid (IH.out _ _ _ (ps.set k (x - 1)) W2.drew (rdI_mono hdr (ownI_rd hset)) (rdII_mono (hbW2.trans (hdr.mono hbW2.size)) h2') (rdIII_mono (hbW2.trans (hdr.mono hbW2.size)) htl) (by rw [List.length_set, HL1.out]) (fun z hz => by
      rcases List.mem_or_eq_of_mem_set hz with hz | rfl
      · exact HP5.out z hz
      · omega))
    have hr8d := Lib.hid hr8
    have hE2 : atL v0 k = av := atL_get hav
    have HE2 := Lib.hid hE2
    have HQ7 := Lib.hid q7
    have HBS := Lib.hid hbs
    have hgl : gg < W2.heap.size := ownI_lt hset _ (by simp)
    have hcx2 := cell_below hbs hcx0
    have hol := oneL_len ys vs (ps.set k (x - 1))
    rw [HHD.out] at hol
    have HOL := Lib.hid hol
    clear hset hbs hW2 hco hfz hown1 hgrow hat hlt1 hav hbo8 hr8 hl8 q7 q8 hE2 hol hbW2
    go_region_law (go_simp; first | (go_at_call 82; (with_reducible refine (I1.out).mono ?_); rintro e wa ⟨p1, fp1, rfl, hop1, hfp1, hba⟩; have hra := hdr.trans (hba.mono hdr.size); have hcva := cell_below hra hcv2; have hc8a := cell_below hra hc8) | (go_at_call 62; have A1 := l8Mul_any _ _ av (oneL ys vs (ps.set k (x - 1))) _ (rdI_mono (hdr.trans (hba.mono hdr.size)) hr8d.out) (ownI_rd hop1) (by rw [HQ7.out, HOL.out]; exact Nat.le_refl _) (by rw [HQ7.out]; exact hs7); (with_reducible refine A1.mono ?_); rintro e wb ⟨p2, fp2, rfl, hop2, hfp2, hbb⟩))
    all_goals (
      have hrb := hdr.trans ((hba.trans (hbb.mono hba.size)).mono hdr.size)
      have hwb := HBS.out.trans (hrb.mono HBS.out.size)
      have hcxb := cell_below hwb hcx0
      have A2 := Lib.hid (l8Add_any _ _ (oneS ys ps v0 (oneL ys vs) k) (mulZ av (oneL ys vs (ps.set k (x - 1)))) x wb (ownI_rd (ownI_only HO.out (Only.of_below (fp := []) hwb) (by simp))) (ownI_rd hop2) (by rw [oneS_len, HHD.out, mulZ_len, HQ7.out]; exact Nat.le_refl _) (by rw [oneS_len, HHD.out]; omega))
      obtain ⟨adz, lz, cz, rfl, _, _, _, _, _, _⟩ := ownI_open hop2
      have HWB := Lib.hid hwb
      clear hop1 hop2 hba hbb hrb hwb A1 hfp1 hfp2 hcva hc8a I1 hra
      go_wp2_with (go_at_call 61; ((with_reducible refine (A2.out).mono ?_); rintro e wp ⟨p3, fp3, rfl, hop3, hfp3, hbp⟩))
      have HOP := Lib.hid hop3
      have HFP := Lib.hid hfp3
      have HBP := Lib.hid hbp
      clear hop3 hfp3 hbp
      go_roundw
      case rel => exact ⟨k + 1, fp3, by omega, by go_num, by rw [HE.out, HE2.out]; exact HOP.out, fun b hb => by { have h1 := HFP.out b hb; have h2 := HWB.out.size; have h3 := HB.out.size; omega }, HB.out.trans ((HWB.out.trans (HBP.out.mono HWB.out.size)).mono HB.out.size)⟩
      case measure => simp [intOf]; omega)

theorem l8One_any (vs : List (List (List Int))) : ∀ (vp vy vv : Value) (ps : List Int) (ys : List (List Int)) (n size : Nat) (w : World), RdI w vp ps → RdII w vy ys → RdIII w vv vs → ps.length = n → (∀ x ∈ ps, 0 ≤ x ∧ x ≤ 5) →
    1 ≤ n → n ≤ 6 → 1 ≤ size → size ≤ 7 → ys.length = n → AllJ size ys → (∀ v ∈ vs, v.length = n ∧ AllJ size v) →
    Calls Try.prog 82 #[vp, vy, vv] w (Gives (fun w' v fp => OwnI 3 w' v (oneL ys vs ps) fp) w) := by
  induction vs with
  | nil => intro vp vy vv ps ys n size w hp hy ha hpl hp5 hn1 hn6 hs1 hs7 hyl hyj _; exact l8One_nil vp vy vv ps ys n size w hp hy ha hpl hp5 hn1 hn6 hs1 hs7 hyl hyj
  | cons v0 vs ih =>
    intro vp vy vv ps ys n size w hp hy ha hpl hp5 hn1 hn6 hs1 hs7 hyl hyj hv
    exact l8One_cons v0 vs vp vy vv ps ys n size w hp hy ha hpl hp5 hn1 hn6 hs1 hs7 hyl hyj (hv v0 (by simp)) (fun vp' vy' vv' ps' w' h1 h2 h3 h4 h5 => ih vp' vy' vv' ps' ys n size w' h1 h2 h3 h4 h5 hn1 hn6 hs1 hs7 hyl hyj (fun v hv' => hv v (by simp [hv'])))
end Go.Proofs.Ytdaaamdighojdaa
