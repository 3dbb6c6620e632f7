/- The texts KnoP, KnoW, KnoD in one: each says at its head what it proves. Conditions: as said there. -/
import Derived.Test.YtbcjhpgkodeoeaaGreatDoorG17
import Derived.Test.YtbcjhpgkodeoeaaGreatDoorG03
import Derived.Test.YtbcjhpgkodeoeaaGreatDoorG20
import Derived.Test.YtbcjhpgkodeoeaaGreatDoorG15
set_option linter.unusedSimpArgs false
set_option linter.unusedVariables false
/- Rows of powers. Conditions: short rows. -/
namespace Go.Proofs.YtbcjhpgkodeoeaaGreatDoor
open Go.RowKit

def powK (cs : List Int) (k : Int) : List Int := cs.map fun c => powZ c k
theorem powK_next {cs : List Int} {k : Int} {q : Nat} {c : Int} (h : cs[q]? = some c) : powK (cs.take (q + 1)) k = powK (cs.take q) k ++ [powZ c k] := by simp [powK, take_snoc h]
set_option maxRecDepth 100000 in
set_option maxHeartbeats 1600000 in
theorem l6Powers_any (v : Value) (cs : List Int) (k : Int) (w : World) (h : RdI w v cs) (h1000 : cs.length ≤ 1000) (hk : k ≤ 9223372036854775807) :
    Calls Tryz.prog 196 #[v, .int .i64 k] w (Gives (fun w' v fp => OwnI 3 w' v (powK cs k) fp) w) := by
  obtain ⟨ji, hji, hji0, hji1, hji2⟩ := info_parts Tryz.info_int
  obtain ⟨ad, len, cap, rfl, hl, hlc, hcm, h'⟩ := rdS_open h
  rw [hl] at h1000
  have HL := Lib.hid hl
  have HI0 := Lib.hid (own_lit (e := 3) w)
  have HB0 := Lib.hid (below_lit w 3)
  clear h hl
  go_enter Tryz.func196, Tryz.ntmps196
  go_wp2
  go_loopw [5, 6] (fun p j wq => ∃ (q : Nat) (f : List Nat), q ≤ len ∧ j = .int .i64 q ∧ OwnI 3 wq p (powK (cs.take q) k) f ∧ (∀ b ∈ f, w.heap.size ≤ b) ∧ Below w.heap.size w wq) (fun _ j _ => len - (intOf j).toNat)
  case atStart => exact ⟨0, [w.heap.size], Nat.zero_le _, rfl, by simpa [powK] using HI0.out, by simp, HB0.out⟩
  case round =>
    obtain ⟨q, f, hq, rfl, hp, hf, hb⟩ := hrel
    clear HI0 HB0
    by_cases hlt : q < len
    case neg =>
      obtain rfl : q = len := by omega
      rw [List.take_of_length_le (by rw [HL.out]; exact Nat.le_refl _)] at hp
      go_wp2
      go_ret
      exact ⟨_, f, rfl, hp, hf, hb⟩
    obtain ⟨b, off, c, rfl, hc, hcell, hI, _⟩ := rdI_get (rdI_mono hb h') hlt
    obtain ⟨x, hx⟩ : ∃ x, powZ c k = x := ⟨_, rfl⟩
    have hxn : NumZ x := hx ▸ powZ_bd _ _
    obtain ⟨adp, lenp, capp, rfl, hlp, hlpc, hcpm, hownp, _, hfe⟩ := ownI_open hp
    obtain rfl : lenp = q := by rw [← hlp]; simp [powK, HL.out]; omega
    have HP := Lib.hid (fun (w2 : World) (gg capn : Nat) hown1 hgrow hat => ownI_push3 (w2 := w2) (gg := gg) (capn := capn) hp hlp (numZ_i64 hxn) hown1 hgrow hat)
    have HS := Lib.hid (powK_next (k := k) hc)
    rw [hx] at HS
    have HX := Lib.hid hx
    have HNP := Lib.hid hownp
    have HF := Lib.hid hf
    have HB := Lib.hid hb
    clear hp hlp hownp hfe hc hx hf hb hxn
    go_wp2_with (first | (go_at_call 34; ((with_reducible refine (sPower_eq HX.out (by omega) _).mono ?_); rintro e w' ⟨rfl, rfl⟩)) | (at_builtin; refine wpList_append_lies _ rfl _ _ _ rfl 0 3 ji _ 1 8 Tryz.underlying35 hji hji0 hji1 hji2 rfl (by omega) (.slice adp lenp capp) lenp _ (by rfl) (HNP.out.alloc _) ⟨wr.heap.size, 0, none⟩ 1 1 [.int .i64 x] (by rfl) (by rfl) (World.news_of_block (cs := #[.int .i64 x]) (t := 3) (fr := (0, 0)) (heap_alloc_new wr _)) (by simp [Value.oneCell']) (by omega) (by unfold maxLen; omega) (by omega) (by simp) (wr.heap.size + 1) (by simp) ?_; intro gg capn wn hown1 hgrow hat hlt1; obtain ⟨f', hP1, hP2, hP3⟩ := HP.out wn gg capn hown1 hgrow hat; have HPP := Lib.hid hP1; clear hown1 hgrow hat hP1))
    all_goals (
      go_roundw
      case rel => exact ⟨lenp + 1, f', by omega, by go_num, by rw [HS.out]; exact HPP.out, fun b hb => by
        rcases hP2 b hb with h | h
        · exact HF.out b h
        · have := HB.out.size; omega, below_newer HB.out hP3 HF.out⟩
      case measure => simp [intOf]; omega)
end Go.Proofs.YtbcjhpgkodeoeaaGreatDoor

/- The reference's weights of nodes. Conditions: short rows. -/
namespace Go.Proofs.YtbcjhpgkodeoeaaGreatDoor
open Go.RowKit

def wRight (t : Int) (n : Nat) : List Int := (List.range n).map fun (k : Nat) => fracZ (powZ t ((k : Int) + 1)) ((k : Int) + 1)
def weightsL (nodes : List Int) (t : Int) : List Int := solL (powRows nodes) (wRight t nodes.length)
theorem powK_nat (cs : List Int) (k : Nat) : powK cs (k : Int) = powR cs k := rfl
theorem powRows_next {cs : List Int} {q : Nat} (h : q < cs.length) : (powRows cs).take (q + 1) = (powRows cs).take q ++ [powR cs q] := take_snoc (by simp [powRows, h])
theorem wRight_next {t : Int} {n q : Nat} (h : q < n) : (wRight t n).take (q + 1) = (wRight t n).take q ++ [fracZ (powZ t ((q : Int) + 1)) ((q : Int) + 1)] := take_snoc (by simp [wRight, h])
theorem wRight_nums (t : Int) (n : Nat) : Nums (wRight t n) := fun x hx => by
  obtain ⟨k, _, rfl⟩ := List.mem_map.1 hx
  exact fracZ_bd _ _
/-- Different nodes have weights. -/
theorem weights_len {nodes : List Int} {t : Int} (hn : Nums nodes) (hd : nodes.Nodup) (h1 : 1 ≤ nodes.length) (h40 : nodes.length ≤ 40) : (weightsL nodes t).length = nodes.length := by
  have hl : (powRows nodes).length = nodes.length := by simp [powRows]
  exact (sol_found (fun i hi => powRows_ok nodes i hi) (by rw [hl]; exact h1) (by rw [hl]; exact h40) h1 h40 (wRight_nums _ _) (by simp [wRight, hl]) (powRows_solv hn hd)).2
theorem weights_le (nodes : List Int) (t : Int) : (weightsL nodes t).length ≤ nodes.length := by
  unfold weightsL solL
  split
  · rw [outS_len]
    cases nodes with
    | nil => simp [powRows, atL]
    | cons c cs => simp [powRows, atL, powR, List.range_succ_eq_map]
  · simp

set_option maxRecDepth 100000 in
set_option maxHeartbeats 6400000 in
theorem l7Weights_any (v : Value) (xs : List Int) (t : Int) (w : World) (h : RdI w v xs) (h40 : xs.length ≤ 40) :
    Calls Tryz.prog 166 #[v, .int .i64 t] w (Gives (fun w' v fp => OwnI 3 w' v (weightsL xs t) fp) w) := by
  obtain ⟨ji, hji, hji0, hji1, hji2⟩ := info_parts Tryz.info_int
  obtain ⟨jl, hjl, hjl0, hjl1, hjl2⟩ := info_parts Tryz.info_ints
  obtain ⟨ad, len, cap, rfl, hl, hlc, hcm, h'⟩ := rdS_open h
  rw [hl] at h40
  have HL := Lib.hid hl
  have hb1 := below_lit w 35
  have hb2 := below_lit (w.alloc (.cells #[] 35)) 3
  have hsz : (w.alloc (.cells #[] 35)).heap.size = w.heap.size + 1 := by simp
  have HI1 := Lib.hid (ownII_only (ownII_lit (e1 := 35) (e := 3) w) (Only.of_below (fp := []) hb2) (by simp))
  have hi2 := own_lit (e := 3) (w.alloc (.cells #[] 35))
  rw [hsz] at hi2
  have HI2 := Lib.hid hi2
  have HB0 := Lib.hid (hb1.trans (hb2.mono hb1.size))
  clear h hl hb1 hb2 hsz hi2
  go_enter Tryz.func166, Tryz.ntmps166
  go_wp2
  go_loopw [5, 6, 7] (fun sr sx sk wq => ∃ (q : Nat) (f1 f2 : List Nat), q ≤ len ∧ sk = .int .i64 ((q : Int) + 1) ∧ OwnII 35 3 wq sr ((powRows xs).take q) f1 ∧ OwnI 3 wq sx ((wRight t len).take q) f2 ∧ (∀ b ∈ f1, w.heap.size ≤ b) ∧ (∀ b ∈ f2, w.heap.size ≤ b) ∧ (∀ b ∈ f2, b ∉ f1) ∧ Below w.heap.size w wq) (fun _ _ sk _ => len + 1 - (intOf sk).toNat)
  case atStart => exact ⟨0, [w.heap.size], [w.heap.size + 1], Nat.zero_le _, rfl, by simpa using HI1.out, by simpa using HI2.out, by simp, by simp, by simp, HB0.out⟩
  case round =>
    obtain ⟨wk, rfl⟩ : ∃ W, W = wr := ⟨_, rfl⟩
    obtain ⟨q, f1, f2, hq, rfl, hr, hx, hf1, hf2, hdis, hb⟩ := hrel
    clear HI1 HI2 HB0
    have hprl : (powRows xs).length = len := by simp [powRows, HL.out]
    have hwrl : (wRight t len).length = len := by simp [wRight]
    by_cases hql : q < len
    case neg =>
      obtain rfl : len = q := by omega
      rw [List.take_of_length_le (by omega)] at hr hx
      have HE := Lib.hid (show weightsL xs t = solL (powRows xs) (wRight t len) from by rw [weightsL, HL.out])
      have hqI : ¬ ((len : Int) + 1 ≤ len) := by omega
      have hrr := ownII_rd hr
      have hxx := ownI_rd hx
      clear hr hx hf1 hf2 hdis
      go_wp2_with fail
      refine (solve_any _ _ _ _ wk hrr hxx).mono ?_
      rintro e w1 ⟨v', fp, rfl, ho, hfp, hb1⟩
      go_wp2
      go_ret
      refine ⟨_, fp, rfl, by rw [HE.out]; exact ho, fun b hbb => ?_, hb.trans (hb1.mono hb.size)⟩
      have := hfp b hbb
      have := hb.size
      omega
    have hqI : (q : Int) + 1 ≤ len := by omega
    have hu1 : IntKind.i64.wrap ((q : Int) + 1 - 1) = (q : Int) := by
      rw [show (q : Int) + 1 - 1 = q by omega]
      exact IntWalk.i64_in _ (by omega)
    have hu2 : (q : Int) + 1 - 1 = q := by omega
    have C6 := Lib.hid (l6Powers_any _ xs (q : Int) wk (rdI_mono hb h') (by rw [HL.out]; omega) (by omega))
    obtain ⟨adr, capr, us, rfl, hqr, hcr, hpush⟩ := ownII_push4 hr (n := q) (by rw [List.length_take, hprl]; omega)
    obtain ⟨adx, lx, cx, rfl, hlx, hlxc, hcx, _, _, _⟩ := ownI_open hx
    obtain rfl : lx = q := by rw [← hlx, List.length_take, hwrl]; omega
    obtain ⟨y1, hy1⟩ : ∃ y, powZ t ((lx : Int) + 1) = y := ⟨_, rfl⟩
    obtain ⟨y2, hy2⟩ : ∃ y, fracZ y1 ((lx : Int) + 1) = y := ⟨_, rfl⟩
    have hy2b : NumZ y2 := hy2 ▸ fracZ_bd _ _
    have HY1 := Lib.hid hy1
    have HY2 := Lib.hid hy2
    have HN1 := Lib.hid (powRows_next (cs := xs) (q := lx) (by rw [HL.out]; exact hql))
    have HN2 := Lib.hid (show (wRight t len).take (lx + 1) = (wRight t len).take lx ++ [y2] from by rw [wRight_next hql, hy1, hy2])
    have HX := Lib.hid hx
    have HLX := Lib.hid hlx
    have HPU := Lib.hid hpush
    have HLT := Lib.hid (ownII_lt hr)
    have HLT2 := Lib.hid (ownI_lt hx)
    have HF1 := Lib.hid hf1
    have HF2 := Lib.hid hf2
    have HD := Lib.hid hdis
    have HB := Lib.hid hb
    clear hr hx hlx hpush hf1 hf2 hdis hb hprl hwrl hy1 hy2
    go_wp2_with fail
    refine C6.out.mono ?_
    rintro e wa ⟨p, fp, rfl, hop, hfp, hba⟩
    obtain ⟨hrow, hcl⟩ := HPU.out wa [] (Only.of_below hba) (by simp)
    obtain ⟨adp, lp, cp, rfl, _, _, _, _, _, _⟩ := ownI_open hop
    have HNP := Lib.hid hrow
    have HPA := Lib.hid (fun (w2 : World) (gg capn : Nat) hown hgrow hat => hcl _ _ fp w2 gg capn hop (fun b hb hm => by have := hfp b hb; have := HLT.out b hm; omega) hown hgrow hat)
    have hxa := ownI_only HX.out (Only.of_below (fp := []) hba) (by simp)
    have HXA := Lib.hid hxa
    have HBA := Lib.hid (HB.out.trans (hba.mono HB.out.size))
    have HBA2 := Lib.hid hba.size
    have HFP := Lib.hid hfp
    clear hop hfp hba hrow hcl hxa
    go_wp2_with (first
      | ((at_builtin; refine wpList_append_lies _ rfl _ _ _ rfl 0 35 jl _ 1 24 Tryz.underlying25 hjl hjl0 hjl1 hjl2 rfl (by omega) (.slice adr lx capr) lx _ (by rfl) (HNP.out.alloc _) ⟨wa.heap.size, 0, none⟩ 1 1 [.slice adp lp cp] (by rfl) (by rfl) (World.news_of_block (cs := #[.slice adp lp cp]) (t := 35) (fr := (0, 0)) (heap_alloc_new wa _)) (by simp [Value.oneCell']) (by omega) (by unfold maxLen; omega) (by omega) (by simp) (wa.heap.size + 1) (by simp) ?_; intro gg capn wn hown1 hgrow hat hlt1; obtain ⟨f', hP1, hP2, hP3⟩ := HPA.out wn gg capn hown1 hgrow hat; have HPP := Lib.hid hP1; clear hown1 hgrow hat hP1); have hxn := ownI_only HXA.out hP3 (fun b hb hm => HD.out b hb hm); obtain ⟨_, _, _, he9, _, _, _, hownp, _, _⟩ := ownI_open hxn; injection he9 with e91 e92 e93; subst e91 e92 e93; have HNX := Lib.hid hownp; have HPX := Lib.hid (fun (w2 : World) (gg2 capn2 : Nat) hown2 hgrow2 hat2 => ownI_push3 (w2 := w2) (gg := gg2) (capn := capn2) hxn HLX.out (numZ_i64 hy2b) hown2 hgrow2 hat2); have HP1 := HPP; have HPF := Lib.hid hP2; have HPO := Lib.hid hP3; have HFL := Lib.hid (ownII_lt HP1.out); obtain ⟨wx, hwx⟩ : ∃ W, W = wn := ⟨_, rfl⟩; subst hwx; obtain ⟨f1', hf1'⟩ : ∃ F, F = f' := ⟨_, rfl⟩; subst hf1'; clear HPP hP2 hP3 hxn hownp)
      | (go_at_call 34; ((with_reducible refine (sPower_eq HY1.out (by omega) _).mono ?_); rintro e w' ⟨rfl, rfl⟩))
      | (go_at_call 75; ((with_reducible refine (sFraction_eq HY2.out _).mono ?_); rintro e w' ⟨rfl, rfl⟩))
      | (at_builtin; refine wpList_append_lies _ rfl _ _ _ rfl 0 3 ji _ 1 8 Tryz.underlying35 hji hji0 hji1 hji2 rfl (by omega) (.slice adx lx cx) lx _ (by rfl) (HNX.out.alloc _) ⟨wx.heap.size, 0, none⟩ 1 1 [.int .i64 y2] (by rfl) (by rfl) (World.news_of_block (cs := #[.int .i64 y2]) (t := 3) (fr := (0, 0)) (heap_alloc_new wx _)) (by simp [Value.oneCell']) (by omega) (by unfold maxLen; omega) (by omega) (by simp) (wx.heap.size + 1) (by simp) ?_; intro gg capn wn hown1 hgrow hat hlt1; obtain ⟨f', hP1, hP2, hP3⟩ := HPX.out wn gg capn hown1 hgrow hat; have HPP := Lib.hid hP1; clear hown1 hgrow hat hP1))
    all_goals (
      go_roundw
      case rel =>
        have hsx := HPO.out.size
        have hsn := hP3.size
        have hsa := HBA2.out
        have hsw := HB.out.size
        have hd1 : ∀ b ∈ f2, b ∉ f1' := fun b hb hm => by
          have h2 := HLT2.out b hb
          rcases HPF.out b hm with h | h | h
          · exact HD.out b hb h
          · have := HFP.out b h; omega
          · omega
        refine ⟨lx + 1, f1', f', by omega, by go_num, ?_, ?_, ?_, ?_, ?_, ?_⟩
        · rw [HN1.out]
          exact ownII_only HP1.out hP3 (fun b hb hm => hd1 b hm hb)
        · rw [HN2.out]
          exact HPP.out
        · intro b hb
          rcases HPF.out b hb with h | h | h
          · exact HF1.out b h
          · have := HFP.out b h; omega
          · omega
        · intro b hb
          rcases hP2 b hb with h | h
          · exact HF2.out b h
          · omega
        · intro b hb hm
          rcases hP2 b hb with h | h
          · exact hd1 b h hm
          · have := HFL.out b hm; omega
        · exact below_newer (below_newer HBA.out HPO.out HF1.out) hP3 HF2.out
      case measure => simp [intOf]; omega)
end Go.Proofs.YtbcjhpgkodeoeaaGreatDoor

/- Whether numbers are all different; rows of powers. Conditions: none. -/
namespace Go.Proofs.YtbcjhpgkodeoeaaGreatDoor
open Go.RowKit

def diffB (xs : List Int) : Bool := decide xs.Nodup && xs.all isNumB
theorem diff_no {xs : List Int} {i k : Nat} {x : Int} (hi : xs[i]? = some x) (hk : xs[k]? = some x) (h : i < k) : diffB xs = false := by
  have : ¬ xs.Nodup := fun hn => by
    obtain ⟨h1, e1⟩ := List.getElem?_eq_some_iff.1 hi
    obtain ⟨h2, e2⟩ := List.getElem?_eq_some_iff.1 hk
    have := (List.pairwise_iff_getElem.1 hn) i k h1 h2 h
    exact this (e1.trans e2.symm)
  simp [diffB, this]
theorem nodup_snoc {xs : List Int} {k : Nat} {x : Int} (hx : xs[k]? = some x) (h : (xs.take k).Nodup) (hd : ∀ t y, t < k → xs[t]? = some y → y ≠ x) : (xs.take (k + 1)).Nodup := by
  rw [take_snoc hx, List.nodup_append]
  refine ⟨h, by simp, fun a ha b hb => ?_⟩
  rw [List.mem_singleton.1 hb]
  obtain ⟨t, ht, rfl⟩ := List.getElem_of_mem ha
  have h1 : t < k := by simp at ht; omega
  exact hd t _ h1 (by rw [List.getElem_take]; exact List.getElem?_eq_getElem _)
set_option maxHeartbeats 800000 in
theorem l7Diff_any (v : Value) (xs : List Int) (w : World) (h : RdI w v xs) : Calls Tryz.prog 165 #[v] w (Qt (.bool (diffB xs)) w) := by
  obtain ⟨ad, len, cap, rfl, hl, hlc, hcm, h'⟩ := rdS_open h
  have HL := Lib.hid hl
  clear h hl
  go_enter Tryz.func165, Tryz.ntmps165
  go_wp2
  go_loopw [3] (fun i wr => ∃ k m : Nat, k ≤ len ∧ i = .int .i64 k ∧ (xs.take k).Nodup ∧ wr = w.drewN m) (fun i _ => len - (intOf i).toNat)
  case atStart => exact ⟨0, 0, Nat.zero_le _, rfl, by simp, rfl⟩
  case round =>
    obtain ⟨wk, rfl⟩ : ∃ W, W = wr := ⟨_, rfl⟩
    obtain ⟨k, m, hk, rfl, hnd, hwk⟩ := hrel
    have hk' := rdI_drewN m h'
    rw [← hwk] at hk'
    have HW := Lib.hid hwk
    have HND := Lib.hid hnd
    clear hwk hnd
    by_cases hlt : k < len
    case neg =>
      obtain rfl : k = len := by omega
      have hD : xs.Nodup := by have := HND.out; rwa [List.take_of_length_le (by rw [HL.out]; exact Nat.le_refl _)] at this
      obtain ⟨bb, hbb⟩ : ∃ b, xs.all isNumB = b := ⟨_, rfl⟩
      have HE := Lib.hid (show diffB xs = bb from by rw [diffB, hbb]; simp [hD])
      have HBB := Lib.hid hbb
      clear hbb hD
      go_wp2_with fail
      refine (l1All_eq _ xs wk hk' HBB.out).mono ?_
      rintro e w' ⟨rfl, rfl⟩
      go_wp2
      go_ret
      exact ⟨ret_bool HE.out.symm, m, HW.out⟩
    go_wp2
    go_loopw [4] (fun j wr => ∃ q m : Nat, q ≤ k ∧ j = .int .i64 q ∧ (∀ t y, t < q → xs[t]? = some y → xs[k]? ≠ some y) ∧ wr = w.drewN m) (fun j _ => k - (intOf j).toNat)
    case atStart => exact ⟨0, m, Nat.zero_le _, rfl, by simp, HW.out⟩
    case round =>
      obtain ⟨q, m2, hq, rfl, hdf, hwq⟩ := hrel
      have hq' := rdI_drewN m2 h'
      rw [← hwq] at hq'
      have HWQ := Lib.hid hwq
      have HDF := Lib.hid hdf
      clear hwq hdf
      obtain ⟨b, off, x, rfl, hx, hc, hI, _⟩ := rdI_get hq' hlt
      have HX := Lib.hid hx
      clear hx
      by_cases hqk : q < k
      case neg =>
        obtain rfl : q = k := by omega
        go_wp2
        go_roundw
        case rel => exact ⟨q + 1, m2, by omega, by go_num, nodup_snoc HX.out HND.out (fun t y ht hy e => HDF.out t y ht hy (by rw [HX.out, e])), HWQ.out⟩
        case measure => simp [intOf]; omega
      obtain ⟨b2, off2, y, hb2, hy, hc2, hI2, _⟩ := rdI_get hq' (k := q) (by omega)
      simp only [Option.some.injEq, Addr.mk.injEq, and_true] at hb2
      obtain ⟨rfl, rfl⟩ := hb2
      have HY := Lib.hid hy
      clear hy
      by_cases hxy : x = y
      · subst hxy
        have HE := Lib.hid (diff_no HY.out HX.out hqk)
        go_wp2
        go_quiet (fail)
        go_wp2
        go_ret
        exact ⟨ret_bool HE.out.symm, _, by rw [HWQ.out, World.drewN_drewN]⟩
      · have hxy' : (y == x) = false := by simp; omega
        have hxy2 : (x == y) = false := by simp; omega
        go_wp2
        go_quiet (fail)
        go_wp2
        go_roundw
        case rel => exact ⟨q + 1, _, by omega, by go_num, fun t z ht hz e => by
          rcases (by omega : t < q ∨ t = q) with h1 | rfl
          · exact HDF.out t z h1 hz e
          · rw [HY.out] at hz; rw [HX.out] at e; exact hxy (by simp_all), by rw [HWQ.out, World.drewN_drewN]⟩
        case measure => simp [intOf]; omega
end Go.Proofs.YtbcjhpgkodeoeaaGreatDoor
