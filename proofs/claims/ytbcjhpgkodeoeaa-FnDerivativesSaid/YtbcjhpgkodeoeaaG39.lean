/- The texts TParT, KnoT in one: each says at its head what it proves. Conditions: as said there. -/
import Derived.Deep.Cut
import Derived.Deep.CutRange
import Derived.Test.YtbcjhpgkodeoeaaG38
import Derived.Test.YtbcjhpgkodeoeaaG25
set_option linter.unusedSimpArgs false
set_option linter.unusedVariables false
/- The reference reads tableaus from texts: some tableau. Conditions: short texts. -/
namespace Go.Proofs.Ytbcjhpgkodeoeaa
open Go.RowKit Go.Sort

theorem TBox.setSt {e N : Nat} {w : World} {Bt : Nat} {st st' : Int} {vA vB : Value} {A B : List Int} {fA fB : List Nat} (h : TBox e N w Bt st vA vB A B fA fB) : TBox e N (w.setCell ⟨Bt, 0, none⟩ (.int .i64 st')) Bt st' vA vB A B fA fB := by
  have hS : Only [Bt] w (w.setCell ⟨Bt, 0, none⟩ (.int .i64 st')) := (Only.refl _ _).setCell (by simp) _
  refine ⟨ownI_only h.ownA hS (fun b hb hm => (h.newA b hb).2 (List.mem_singleton.1 hm)), ownI_only h.ownB hS (fun b hb hm => (h.newB b hb).2 (List.mem_singleton.1 hm)), h.newA, h.newB, h.dis, h.hB, World.cell?_setCell_same _ _ _ h.c0, ?_, ?_, ?_, ?_, ?_⟩
  · exact (World.cell?_setCell_other _ _ _ _ (by simp)).trans h.c1
  · exact (World.cell?_setCell_other _ _ _ _ (by simp)).trans h.c2
  · rw [World.frozen?_setCell]; exact h.f1
  · rw [World.frozen?_setCell]; exact h.f2
  · rw [World.frozen?_setCell]; exact h.f0
/-- The second row is another one. -/
theorem TBox.setB {e N : Nat} {w : World} {Bt : Nat} {st : Int} {vA vB v' : Value} {A B B' : List Int} {fA fB f' : List Nat} (h : TBox e N w Bt st vA vB A B fA fB) (hv : OwnI e w v' B' f') (hf : ∀ b ∈ f', N ≤ b ∧ b ≠ Bt ∧ b ∉ fA) : TBox e N (w.setCell ⟨Bt, 2, none⟩ v') Bt st vA v' A B' fA f' := by
  have hS : Only [Bt] w (w.setCell ⟨Bt, 2, none⟩ v') := (Only.refl _ _).setCell (by simp) _
  refine ⟨ownI_only h.ownA hS (fun b hb hm => (h.newA b hb).2 (List.mem_singleton.1 hm)), ownI_only hv hS (fun b hb hm => (hf b hb).2.1 (List.mem_singleton.1 hm)), h.newA, fun b hb => ⟨(hf b hb).1, (hf b hb).2.1⟩, fun b hb hm => (hf b hm).2.2 hb, h.hB, ?_, ?_, World.cell?_setCell_same _ _ _ h.c2, ?_, ?_, ?_⟩
  · exact (World.cell?_setCell_other _ _ _ _ (by simp)).trans h.c0
  · exact (World.cell?_setCell_other _ _ _ _ (by simp)).trans h.c1
  · rw [World.frozen?_setCell]; exact h.f1
  · rw [World.frozen?_setCell]; exact h.f2
  · rw [World.frozen?_setCell]; exact h.f0
theorem cut_txt {s : ByteArray} {l : List UInt8} (hs : s = ByteArray.mk l.toArray) (a b : Nat) : s.extract a b = ByteArray.mk ((l.drop a).take (b - a)).toArray := by
  have := str_cut hs a b
  unfold txt at this
  injection this
/-- What the loop keeps: the box, the words, the result's box. -/
structure PTab (W0 wq : World) (g n cap Bt : Nat) (ws : List (List UInt8)) (vA vB : Value) (A B : List Int) (fA fB : List Nat) (i : Nat) : Prop where
  box : TBox 3 W0.heap.size wq Bt ((n : Int) - 1) vA vB A B fA fB
  ga : g ∉ fA
  gb : g ∉ fB
  gt : g ≠ Bt
  row : wq.ownsRow 0 9 1 (.slice (some ⟨g, 0, none⟩) n cap) n (ws.map txt)
  len : A.length ≤ 110 * i
  below : Below W0.heap.size W0 wq
theorem PTab.bel {W0 wq wr : World} {g n cap Bt : Nat} {ws : List (List UInt8)} {vA vB : Value} {A B : List Int} {fA fB : List Nat} {i : Nat} (h : PTab W0 wq g n cap Bt ws vA vB A B fA fB i) (hb : Below wq.heap.size wq wr) : PTab W0 wr g n cap Bt ws vA vB A B fA fB i :=
  ⟨h.box.bel hb, h.ga, h.gb, h.gt, ownsRow_only h.row (Only.of_below (fp := []) hb) (by simp), h.len, h.below.trans (hb.mono h.below.size)⟩
theorem PTab.lt {W0 wq : World} {g n cap Bt : Nat} {ws : List (List UInt8)} {vA vB : Value} {A B : List Int} {fA fB : List Nat} {i : Nat} (h : PTab W0 wq g n cap Bt ws vA vB A B fA fB i) : g < wq.heap.size := (h.row.lt g (by simp [Value.ownBlock])).2

set_option maxRecDepth 100000 in
set_option maxHeartbeats 12800000 in
theorem sParTab_any (l : List UInt8) (s : ByteArray) (hs : s = ByteArray.mk l.toArray) (hl : l.length ≤ 100) (w : World) : Calls Try.prog 43 #[.string s] w (GivesTab 3 w) := by
  obtain ⟨ji, hji, hji0, hji1, hji2⟩ := info_parts Try.info_int
  obtain ⟨W0, hW0⟩ : ∃ W, W = w.alloc (.cells #[.int .i64 0, .slice none 0 0, .slice none 0 0] 26) := ⟨_, rfl⟩
  have hb0 : Below w.heap.size w W0 := hW0 ▸ (Below.refl _ _).alloc (Nat.le_refl _) _
  have hsz : W0.heap.size = w.heap.size + 1 := by rw [hW0]; simp
  obtain ⟨W1, hW1⟩ : ∃ W, W = W0.alloc (.cells #[.int .i64 0, .slice none 0 0, .slice none 0 0] 26) := ⟨_, rfl⟩
  have hb1 : Below W0.heap.size W0 W1 := hW1 ▸ (Below.refl _ _).alloc (Nat.le_refl _) _
  have hsz1 : W1.heap.size = W0.heap.size + 1 := by rw [hW1]; simp
  have hT0 : TBox 3 W0.heap.size W1 W0.heap.size 0 (.slice none 0 0) (.slice none 0 0) [] [] [] [] := hW1 ▸ TBox.new (Nat.le_refl _)
  have HR := Lib.hid (fun (W : World) (hW : Below W0.heap.size W0 W) => rbox (w := w) (e := 26) (W := W) (a := .int .i64 0) (b := .slice none 0 0) (c := .slice none 0 0) (hW0 ▸ hW))
  have HNO := Lib.hid (fun (W : World) (hW : Below w.heap.size w W) => show GivesTab 3 w (.returned (.tuple #[.agg #[.int .i64 0, .slice none 0 0, .slice none 0 0], .bool false])) W from ⟨_, ⟨0, [], []⟩, [], false, rfl, tab_nil _, by simp, hW⟩)
  have CU := Lib.hid (sCut_any l 124 124 (by rfl) s hs (by omega) W1)
  have HW : Hid (W1 = (w.alloc (.cells #[.int .i64 0, .slice none 0 0, .slice none 0 0] 26)).alloc (.cells #[.int .i64 0, .slice none 0 0, .slice none 0 0] 26)) := Lib.hid (by rw [hW1, hW0])
  have HSZ := Lib.hid hsz
  have HB0 := Lib.hid hb0
  have HS := Lib.hid hs
  clear hW0 hs
  go_enter Try.func43, Try.ntmps43
  go_wp2_with fail
  rw [← HW.out]
  refine CU.out.mono ?_
  rintro e w1 ⟨g, cap, n, rfl, hR⟩
  have hnl : n ≤ 102 := by have := hR.len; have := split_len l [124]; omega
  have hn1 : 1 ≤ n := by have := hR.len; have := List.length_pos_iff.2 (split_ne l [124]); omega
  have hws : ∀ x ∈ Lib.split l [124], x.length ≤ 100 := fun x hx => Nat.le_trans (split_small (by simp) l.length l (Nat.le_refl _) x hx) hl
  obtain ⟨g', cap', hv, hgW⟩ := hR.shape
  simp only [Value.slice.injEq, Option.some.injEq, Addr.mk.injEq, and_true, true_and] at hv
  obtain ⟨rfl, rfl⟩ := hv
  have hT1 := hT0.bel hR.below
  have hd0 := hT1.c0
  have hg0 := hT1.f0
  have hgt : g ≠ W0.heap.size := by omega
  have hw1 : IntKind.i64.wrap ((n : Int) - 1) = (n : Int) - 1 := IntWalk.i64_in _ (by omega)
  have hS : Only [W0.heap.size] w1 (w1.setCell ⟨W0.heap.size, 0, none⟩ (.int .i64 ((n : Int) - 1))) := (Only.refl _ _).setCell (by simp) _
  have HPT := Lib.hid (show PTab W0 (w1.setCell ⟨W0.heap.size, 0, none⟩ (.int .i64 ((n : Int) - 1))) g n cap W0.heap.size (Lib.split l [124]) (.slice none 0 0) (.slice none 0 0) [] [] [] [] 0 from
    ⟨hT1.setSt, by simp, by simp, hgt, ownsRow_only hR.row hS (by simp [Value.ownBlock]; exact hgt), by simp, (hb1.trans (hR.below.mono hb1.size)).setCell (Nat.le_refl _) _⟩)
  have HLEN := Lib.hid hR.len
  have HWS := Lib.hid hws
  rw [hsz] at hd0 hg0
  clear hR hws hT0 hT1 hb1 hgt hgW hS CU hsz1 hW1 hsz hb0
  obtain ⟨Bt, hBt⟩ : ∃ B, B = w.heap.size + 1 := ⟨_, rfl⟩
  rw [← hBt] at hd0 hg0
  have HBt := Lib.hid (show W0.heap.size = Bt from HSZ.out.trans hBt.symm)
  rw [← hBt]
  clear hBt
  go_upto_region 4 with fail
  have HPT' := HPT.out
  rw [HBt.out] at HPT'
  have HPT := Lib.hid HPT'
  have hBw : w.heap.size ≠ Bt := by have := HBt.out; have := HSZ.out; omega
  clear HPT' hd0 hg0 hw1
  obtain ⟨bn, hbn⟩ : ∃ b, (s.toList == [110, 111, 110, 101]) = b := ⟨_, rfl⟩
  go_wp2
  go_loopw [6] (fun si wq => ∃ (i : Nat) (vA vB : Value) (A B : List Int) (fA fB : List Nat), i ≤ n ∧ si = .int .i64 i ∧ PTab W0 wq g n cap Bt (Lib.split l [124]) vA vB A B fA fB i) (fun si _ => n - (intOf si).toNat)
  case atStart => exact ⟨0, _, _, [], [], [], [], Nat.zero_le _, rfl, HPT.out⟩
  case round =>
    obtain ⟨wk, rfl⟩ : ∃ W, W = wr := ⟨_, rfl⟩
    obtain ⟨i, vA, vB, A, B, fA, fB, hi, rfl, hP⟩ := hrel
    clear HPT
    obtain ⟨ad1, l1, c1', rfl, _, _, _, _, _, _⟩ := ownI_open hP.box.ownA
    obtain ⟨ad2, l2, c2', rfl, _, _, _, _, _, _⟩ := ownI_open hP.box.ownB
    have k0 := hP.box.c0
    have k1 := hP.box.c1
    have k2 := hP.box.c2
    have HP := Lib.hid hP
    clear hP
    by_cases hil : i < n
    case neg =>
      have hiI : ¬ ((i : Int) < n) := by omega
      cases he : l.isEmpty with
      | true =>
        have hse : s.toList.isEmpty = true := (str_empty HS.out).trans he
        obtain ⟨⟨x0, hr0⟩, ⟨x1, hr1⟩, ⟨x2, hr2⟩, hf0, hf1, hf2⟩ := HR.out wk HP.out.below
        have HB := Lib.hid (HB0.out.trans (HP.out.below.mono HB0.out.size))
        clear he
        go_wp2
        exact bodyPost_ret (v := .tuple #[.agg #[.int .i64 0, .slice none 0 0, .slice none 0 0], .bool false]) (by simp [results, Try.results43, go_sem, hr0, hr1, hr2]) rfl (HNO.out _ (((HB.out.setCell (by simp) _).setCell (by simp) _).setCell (by simp) _))
      | false =>
        have hse : s.toList.isEmpty = false := (str_empty HS.out).trans he
        have hTab := (HP.out.box.tab (w' := wk) (fp := []) ⟨by omega, by omega⟩ (Only.refl _ _) (by simp)).1
        have FT := Lib.hid (sFmtTab_any _ _ wk (ownTab_rd hTab))
        clear he hTab
        go_wp2_with fail
        refine FT.out.mono ?_
        rintro e w2 ⟨L2, rfl, _, hb2⟩
        obtain ⟨u, hu⟩ : ∃ u, txt L2 = .string u := ⟨_, rfl⟩
        rw [hu]
        have HP2 := Lib.hid (HP.out.bel hb2)
        obtain ⟨⟨x0, hr0⟩, ⟨x1, hr1⟩, ⟨x2, hr2⟩, hf0, hf1, hf2⟩ := HR.out w2 HP2.out.below
        have HB := Lib.hid (HB0.out.trans (HP2.out.below.mono HB0.out.size))
        have k0' := HP2.out.box.c0
        have k1' := HP2.out.box.c1
        have k2' := HP2.out.box.c2
        clear hu hb2 k0 k1 k2
        obtain ⟨bq, hbq⟩ : ∃ b, (u.toList == s.toList) = b := ⟨_, rfl⟩
        cases bq with
        | false =>
          go_wp2
          exact bodyPost_ret (v := .tuple #[.agg #[.int .i64 0, .slice none 0 0, .slice none 0 0], .bool false]) (by simp [results, Try.results43, go_sem, hr0, hr1, hr2]) rfl (HNO.out _ (((HB.out.setCell (by simp) _).setCell (by simp) _).setCell (by simp) _))
        | true =>
          go_wp2
          refine bodyPost_ret (v := .tuple #[.agg #[.int .i64 ((n : Int) - 1), .slice ad1 l1 c1', .slice ad2 l2 c2'], .bool true]) (by simp [results, Try.results43, go_sem, hr0, hr1, hr2]) rfl ?_
          have ho : Only [w.heap.size] w2 (((w2.setCell ⟨w.heap.size, 0, none⟩ (.int .i64 ((n : Int) - 1))).setCell ⟨w.heap.size, 1, none⟩ (.slice ad1 l1 c1')).setCell ⟨w.heap.size, 2, none⟩ (.slice ad2 l2 c2')) := (((Only.refl _ _).setCell (by simp) _).setCell (by simp) _).setCell (by simp) _
          have hsz := HSZ.out
          obtain ⟨t1, t2⟩ := HP2.out.box.tab ⟨by omega, by omega⟩ ho (by simp; omega)
          exact ⟨_, _, _, true, rfl, t1, fun b hb => by have := t2 b hb; omega, ((HB.out.setCell (Nat.le_refl _) _).setCell (Nat.le_refl _) _).setCell (Nat.le_refl _) _⟩
    have hiI : (i : Int) < n := by omega
    cases bn with
    | true =>
      cases he : l.isEmpty with
      | true =>
        have hse : s.toList.isEmpty = true := (str_empty HS.out).trans he
        obtain ⟨⟨x0, hr0⟩, ⟨x1, hr1⟩, ⟨x2, hr2⟩, hf0, hf1, hf2⟩ := HR.out wk HP.out.below
        have HB := Lib.hid (HB0.out.trans (HP.out.below.mono HB0.out.size))
        clear he
        go_wp2
        exact bodyPost_ret (v := .tuple #[.agg #[.int .i64 0, .slice none 0 0, .slice none 0 0], .bool false]) (by simp [results, Try.results43, go_sem, hr0, hr1, hr2]) rfl (HNO.out _ (((HB.out.setCell (by simp) _).setCell (by simp) _).setCell (by simp) _))
      | false =>
        have hse : s.toList.isEmpty = false := (str_empty HS.out).trans he
        have hTab := (HP.out.box.tab (w' := wk) (fp := []) ⟨by omega, by omega⟩ (Only.refl _ _) (by simp)).1
        have FT := Lib.hid (sFmtTab_any _ _ wk (ownTab_rd hTab))
        clear he hTab
        go_wp2_with fail
        refine FT.out.mono ?_
        rintro e w2 ⟨L2, rfl, _, hb2⟩
        obtain ⟨u, hu⟩ : ∃ u, txt L2 = .string u := ⟨_, rfl⟩
        rw [hu]
        have HP2 := Lib.hid (HP.out.bel hb2)
        obtain ⟨⟨x0, hr0⟩, ⟨x1, hr1⟩, ⟨x2, hr2⟩, hf0, hf1, hf2⟩ := HR.out w2 HP2.out.below
        have HB := Lib.hid (HB0.out.trans (HP2.out.below.mono HB0.out.size))
        have k0' := HP2.out.box.c0
        have k1' := HP2.out.box.c1
        have k2' := HP2.out.box.c2
        clear hu hb2 k0 k1 k2
        obtain ⟨bq, hbq⟩ : ∃ b, (u.toList == s.toList) = b := ⟨_, rfl⟩
        cases bq with
        | false =>
          go_wp2
          exact bodyPost_ret (v := .tuple #[.agg #[.int .i64 0, .slice none 0 0, .slice none 0 0], .bool false]) (by simp [results, Try.results43, go_sem, hr0, hr1, hr2]) rfl (HNO.out _ (((HB.out.setCell (by simp) _).setCell (by simp) _).setCell (by simp) _))
        | true =>
          go_wp2
          refine bodyPost_ret (v := .tuple #[.agg #[.int .i64 ((n : Int) - 1), .slice ad1 l1 c1', .slice ad2 l2 c2'], .bool true]) (by simp [results, Try.results43, go_sem, hr0, hr1, hr2]) rfl ?_
          have ho : Only [w.heap.size] w2 (((w2.setCell ⟨w.heap.size, 0, none⟩ (.int .i64 ((n : Int) - 1))).setCell ⟨w.heap.size, 1, none⟩ (.slice ad1 l1 c1')).setCell ⟨w.heap.size, 2, none⟩ (.slice ad2 l2 c2')) := (((Only.refl _ _).setCell (by simp) _).setCell (by simp) _).setCell (by simp) _
          have hsz := HSZ.out
          obtain ⟨t1, t2⟩ := HP2.out.box.tab ⟨by omega, by omega⟩ ho (by simp; omega)
          exact ⟨_, _, _, true, rfl, t1, fun b hb => by have := t2 b hb; omega, ((HB.out.setCell (Nat.le_refl _) _).setCell (Nat.le_refl _) _).setCell (Nat.le_refl _) _⟩
    | false =>
      obtain ⟨x, hx⟩ : ∃ x, (Lib.split l [124])[i]? = some x := ⟨_, List.getElem?_eq_getElem (by have := HLEN.out; omega)⟩
      obtain ⟨y, hy⟩ : ∃ y, y = ByteArray.mk x.toArray := ⟨_, rfl⟩
      have hcx : wk.cell? ⟨g, i, none⟩ = some (.string y) := by
        rw [HP.out.row.cellAt i (by simp; have := HLEN.out; omega), List.getElem?_map, hx, hy]
        rfl
      have hxl := HWS.out x (List.mem_of_getElem? hx)
      obtain ⟨k, hk⟩ : ∃ k, k = x.length := ⟨_, rfl⟩
      have hys : y.size = k := by rw [str_size hy, hk]
      have hk100 : k ≤ 100 := by omega
      have HY := Lib.hid (show ∃ L : List UInt8, y = ByteArray.mk L.toArray ∧ L.length = k from ⟨x, hy, hk.symm⟩)
      clear hx hy hxl hk
      go_upto_region 8 with fail
      go_cut [37] from 17 to 71 (fun s37 wx => ∃ b : Bool, s37 = .bool b ∧ (b = true → 0 < k) ∧ wx = wk)
      case first =>
        by_cases hi0 : (0 : Int) < i
        · by_cases hk0 : (0 : Int) < k
          · go_wp2
            go_meet
            exact ⟨_, rfl, fun _ => by omega, rfl⟩
          · go_wp2
            go_meet
            exact ⟨_, rfl, fun h => by simp at h; omega, rfl⟩
        · go_wp2
          go_meet
          exact ⟨_, rfl, fun h => by simp at h, rfl⟩
      case rest =>
        obtain ⟨b, rfl, hbk, rfl⟩ := hcut
        go_upto_if 37 with fail
        go_cut [7] from 17 to 71 (fun s7 wx => ∃ (q : ByteArray) (L : List UInt8), s7 = .string q ∧ q = ByteArray.mk L.toArray ∧ L.length ≤ 100 ∧ wx = wc)
        case first =>
          cases b with
          | true =>
            have hk0 : 1 ≤ k := by have := hbk rfl; omega
            have hk0I : (1 : Int) ≤ k := by omega
            go_wp2
            go_meet
            obtain ⟨L, h1, h2⟩ := HY.out
            exact ⟨_, (L.drop 1).take (k - 1), rfl, cut_txt h1 1 k, by rw [List.length_take, List.length_drop]; omega, rfl⟩
          | false =>
            go_wp2
            go_meet
            obtain ⟨L, h1, h2⟩ := HY.out
            exact ⟨_, L, rfl, h1, by omega, rfl⟩
        case rest =>
          rename_i wc1
          obtain ⟨q, L, rfl, hq, hL, hwc⟩ := hcut
          subst hwc
          clear hbk hys hcx HY
          obtain ⟨kk, hkk⟩ : ∃ kk, kk = L.length := ⟨_, rfl⟩
          have hqs : q.size = kk := by rw [str_size hq, hkk]
          have hk2l : kk ≤ 100 := by omega
          have HQ := Lib.hid (show ∃ L : List UInt8, q = ByteArray.mk L.toArray ∧ L.length = kk from ⟨L, hq, hkk.symm⟩)
          clear hq hL hkk
          go_upto_region 10 with fail
          go_cut [49] from 17 to 71 (fun s49 wx => ∃ b : Bool, s49 = .bool b ∧ (b = true → 0 < kk) ∧ wx = wc)
          case first =>
            by_cases hi0 : (i : Int) + 1 < n
            · by_cases hk0 : (0 : Int) < kk
              · go_wp2
                go_meet
                exact ⟨_, rfl, fun _ => by omega, rfl⟩
              · go_wp2
                go_meet
                exact ⟨_, rfl, fun h => by simp at h; omega, rfl⟩
            · go_wp2
              go_meet
              exact ⟨_, rfl, fun h => by simp at h, rfl⟩
          case rest =>
            obtain ⟨b2, rfl, hbk2, hwc⟩ := hcut
            subst hwc
            go_upto_if 49 with fail
            go_cut [7] from 17 to 71 (fun s7 wx => ∃ (q : ByteArray) (L : List UInt8), s7 = .string q ∧ q = ByteArray.mk L.toArray ∧ L.length ≤ 100 ∧ wx = wc)
            case first =>
              cases b2 with
              | true =>
                have hk0 : 1 ≤ kk := by have := hbk2 rfl; omega
                have hk0I : (1 : Int) ≤ kk := by omega
                go_wp2
                go_meet
                obtain ⟨L, h1, h2⟩ := HQ.out
                exact ⟨_, (L.drop 0).take (kk - 1 - 0), rfl, cut_txt h1 0 (kk - 1), by rw [List.length_take, List.length_drop]; omega, rfl⟩
              | false =>
                go_wp2
                go_meet
                obtain ⟨L, h1, h2⟩ := HQ.out
                exact ⟨_, L, rfl, h1, by omega, rfl⟩
            case rest =>
              obtain ⟨q3, L3, rfl, hq3, hL3, hwc⟩ := hcut
              subst hwc
              obtain ⟨wv, hwv⟩ : ∃ W, W = wc := ⟨_, rfl⟩
              rw [← hwv] at HP k0 k1 k2 ⊢
              have PN := Lib.hid (sParNums_any L3 q3 hq3 (by omega) wv)
              clear hq3 hbk2 hqs HQ hwv
              go_wp2_with fail
              refine PN.out.mono ?_
              rintro e w2 ⟨vx, zs, fz, bz, rfl, hoz, hzl, hfz, hb2⟩
              obtain ⟨adz, lz, cz, rfl, _, _, _, _, _, _⟩ := ownI_open hoz
              have HP2 := Lib.hid (HP.out.bel hb2)
              have k0' := HP2.out.box.c0
              have k1' := HP2.out.box.c1
              have k2' := HP2.out.box.c2
              have hf1 := HP2.out.box.f1
              have hf2 := HP2.out.box.f2
              have hgl := HP.out.lt
              have hltA := ownI_lt HP.out.box.ownA
              have hNs := HP.out.below.size
              have hBl := tbox_lt HP.out.box
              have hs2 := hb2.size
              have HOZ := Lib.hid hoz
              have HFZ := Lib.hid (show ∀ b ∈ fz, W0.heap.size ≤ b ∧ b ≠ Bt ∧ b ∉ fA ∧ b ≠ g from fun b hb => by
                have := hfz b hb
                exact ⟨by omega, by omega, fun hm => by have := hltA b hm; omega, by omega⟩)
              have HAL := Lib.hid (show A.length + zs.length ≤ 1000000 from by have := HP.out.len; omega)
              have HAN := Lib.hid (show (A ++ zs).length ≤ 110 * (i + 1) from by have := HP.out.len; simp; omega)
              clear hoz hzl hfz hb2 k0 k1 k2 hltA
              by_cases hi1 : (i : Int) + 1 < n
              · go_wp2_with (first | (at_builtin; refine wpList_append_I _ (by rfl) _ _ 24 3 (by rfl) ji Try.underlying24 hji hji0 hji1 hji2 (v := .slice ad1 l1 c1') (vx := .slice adz lz cz) (by rfl) (by rfl) HP2.out.box.ownA (srcI_own HOZ.out) HAL.out ?_; intro v' w' f' hv1 hv2 hv3; obtain ⟨adv, lv, cv, rfl, _⟩ := ownI_open hv1; obtain ⟨⟨hk1, hk2⟩, hTB, hon⟩ := HP2.out.box.putA hv3 hv1 hv2 HP2.out.below.size; have HTB := Lib.hid hTB; have HON := Lib.hid hon; have HV2 := Lib.hid hv2; clear hv1 hv2 hv3 hTB hon))
                all_goals (
                  go_roundw
                  case rel =>
                    refine ⟨i + 1, _, _, A ++ zs, B, f', fB, by omega, by go_num, HTB.out, fun hm => ?_, HP2.out.gb, HP2.out.gt, ownsRow_only HP2.out.row HON.out (fun b hb hm => ?_), HAN.out, HP2.out.below.trans (HON.out.below HP2.out.below.size (fun b hb => ?_))⟩
                    · rcases HV2.out g hm with h | h
                      · exact HP2.out.ga h
                      · omega
                    · simp [Value.ownBlock] at hb
                      subst hb
                      rcases List.mem_cons.1 hm with h | h
                      · exact HP2.out.gt h
                      · exact HP2.out.ga h
                    · rcases List.mem_cons.1 hb with rfl | hb
                      · exact HP2.out.box.hB
                      · exact (HP2.out.box.newA b hb).1
                  case measure => simp [intOf]; omega)
              · go_wp2
                go_roundw
                case rel =>
                  have hS : Only [Bt] w2 (w2.setCell ⟨Bt, 2, none⟩ (.slice adz lz cz)) := (Only.refl _ _).setCell (by simp) _
                  refine ⟨i + 1, _, _, A, zs, fA, fz, by omega, by go_num, HP2.out.box.setB HOZ.out (fun b hb => ⟨(HFZ.out b hb).1, (HFZ.out b hb).2.1, (HFZ.out b hb).2.2.1⟩), HP2.out.ga, fun hm => (HFZ.out g hm).2.2.2 rfl, HP2.out.gt, ownsRow_only HP2.out.row hS (fun b hb hm => ?_), by have := HP2.out.len; omega, HP2.out.below.setCell (by have := HP2.out.box.hB; exact this) _⟩
                  simp [Value.ownBlock] at hb
                  subst hb
                  exact HP2.out.gt (List.mem_singleton.1 hm)
                case measure => simp [intOf]; omega
end Go.Proofs.Ytbcjhpgkodeoeaa

/- The reference's texts of tableaus with a name. Conditions: none. -/
namespace Go.Proofs.Ytbcjhpgkodeoeaa
open Go.RowKit

def GivesText (m : Nat) (w : World) : Ending → World → Prop := fun e w' => ∃ l : List UInt8, e = .returned (txt l) ∧ l.length ≤ m ∧ Below w.heap.size w w'
theorem gives_text {m : Nat} (w : World) (l : List UInt8) (v : Value) (h : v = txt l) (hm : l.length ≤ m) : GivesText m w (.returned v) w := ⟨l, by rw [h], hm, Below.refl _ _⟩
set_option maxHeartbeats 1600000 in
theorem l7Text_any (s : ByteArray) (w : World) : Calls Try.prog 42 #[.string s] w (GivesText 100 w) := by
  go_enter Try.func42, Try.ntmps42
  go_wp2
  all_goals go_ret
  all_goals exact gives_text _ _ _ (by with_unfolding_all rfl) (by decide)
end Go.Proofs.Ytbcjhpgkodeoeaa
