/- The reference's field of tangents. Conditions: none. -/
import Derived.Test.YtdaaamdighojdaaSWid
import Derived.Test.YtdaaamdighojdaaSTim
import Derived.Test.YtdaaamdighojdaaTanF
set_option linter.unusedSimpArgs false
set_option linter.unusedVariables false
namespace Go.Proofs.Ytdaaamdighojdaa
open Go.RowKit Go.Sort

theorem putAll_app (p a b : List MonZ) : putAll p (a ++ b) = putAll (putAll p a) b := by simp [putAll, List.foldl_append]

/-- A polynomial of the call's own that is put together: its row and its elements. -/
structure SumO (W wr : World) (v : Value) (xs : List MonZ) (zl : Nat) (Z : List ElS) : Prop where
  map : Z.map monS = xs
  shape : ∃ gg cap, v = .slice (some ⟨gg, 0, none⟩) zl cap ∧ W.heap.size ≤ gg ∧ gg ∉ Z.flatMap ElS.f
  row : wr.ownsRow 0 91 2 v zl (rowS Z)
  els : ∀ z ∈ Z, I64 z.c ∧ OwnI 3 wr z.v z.ps z.f
  nodup : (Z.flatMap ElS.f).Nodup
  new : ∀ b ∈ Z.flatMap ElS.f, W.heap.size ≤ b
  below : Below W.heap.size W wr
theorem els_lt {wr : World} {Z : List ElS} (h : ∀ z ∈ Z, I64 z.c ∧ OwnI 3 wr z.v z.ps z.f) : ∀ b ∈ Z.flatMap ElS.f, b < wr.heap.size := fun b hb => by
  obtain ⟨z, hz, hb⟩ := List.mem_flatMap.1 hb
  exact ownI_lt (h z hz).2 b hb
theorem SumO.step {W wr w2 : World} {v : Value} {xs : List MonZ} {zl : Nat} {Z : List ElS} (h : SumO W wr v xs zl Z) (hb : Below wr.heap.size wr w2) : SumO W w2 v xs zl Z :=
  ⟨h.map, h.shape, ownsRow_only h.row (Only.of_below (fp := []) hb) (by simp), fun z hz => ⟨(h.els z hz).1, ownI_only (h.els z hz).2 (Only.of_below (fp := []) hb) (by simp)⟩, h.nodup, h.new, h.below.trans (hb.mono h.below.size)⟩
theorem SumO.len {W wr : World} {v : Value} {xs : List MonZ} {zl : Nat} {Z : List ElS} (h : SumO W wr v xs zl Z) : xs.length = zl := by
  have := h.row.1
  rw [rowS_length] at this
  rw [← h.map, List.length_map]
  omega
theorem SumO.own {W wr : World} {v : Value} {xs : List MonZ} {zl : Nat} {Z : List ElS} (h : SumO W wr v xs zl Z) : ∃ fp, OwnMs 91 3 wr v xs fp ∧ ∀ b ∈ fp, W.heap.size ≤ b := by
  obtain ⟨gg, cap, rfl, hg, hgn⟩ := h.shape
  have hl : zl = Z.length := by rw [← h.len, ← h.map, List.length_map]
  have hr := h.row
  rw [hl] at hr
  have := s_ownMs (v := .slice (some ⟨gg, 0, none⟩) Z.length cap) hr h.els (by simpa [Value.ownBlock] using ⟨by simpa using hgn, h.nodup⟩)
  rw [h.map] at this
  refine ⟨_, by rw [hl]; exact this, fun b hb => ?_⟩
  simp only [Value.ownBlock, Option.toList, List.singleton_append, List.mem_cons] at hb
  rcases hb with rfl | hb
  · exact hg
  · exact h.new b hb
/-- Putting one monomial more. -/
theorem sumO_put {W wr : World} {gp zl capp : Nat} {xs : List MonZ} {Z : List ElS} (h : SumO W wr (.slice (some ⟨gp, 0, none⟩) zl capp) xs zl Z) (hl : zl ≤ 100000) (x : ElS) (hI : I64 x.c) (ho : OwnI 3 wr x.v x.ps x.f) (hxn : ∀ b ∈ x.f, W.heap.size ≤ b) (hnd : (Z.flatMap ElS.f ++ x.f).Nodup) :
    Calls Try.prog 104 #[.slice (some ⟨gp, 0, none⟩) zl capp, .agg #[.int .i64 x.c, .slice x.ad x.l x.k]] wr fun e w' => ∃ gg cap, e = .returned (.slice (some ⟨gg, 0, none⟩) (putL xs (monS x)).length cap) ∧ SumO W w' (.slice (some ⟨gg, 0, none⟩) (putL xs (monS x)).length cap) (putL xs (monS x)) (putL xs (monS x)).length (putE Z x) ∧ Below wr.heap.size wr w' := by
  have hlt := els_lt h.els
  have hxl := ownI_lt ho
  refine (put_any gp zl capp Z x wr h.row (fun z hz => ⟨ownI_rd (h.els z hz).2, (h.els z hz).1⟩) (ownI_rd ho) hl).mono ?_
  rintro e w' ⟨gg, cap, rfl, hgg, hrow, hb⟩
  have hmap : (putE Z x).map monS = putL xs (monS x) := by rw [putE_map, h.map]
  have hlen : (putE Z x).length = (putL xs (monS x)).length := by rw [← hmap, List.length_map]
  obtain ⟨hn1, hn2⟩ := putE_nodup hnd
  rw [hlen] at hrow ⊢
  refine ⟨gg, cap, rfl, ⟨hmap, ⟨gg, cap, rfl, Nat.le_trans h.below.size hgg, fun hm => ?_⟩, hrow, fun z hz => ?_, hn1, fun b hb' => ?_, h.below.trans (hb.mono h.below.size)⟩, hb⟩
  · rcases hn2 gg hm with hm | hm
    · have := hlt gg hm; omega
    · have := hxl gg hm; omega
  · rcases putAE_mem _ _ _ _ z hI (List.mem_filter.1 hz).1 with hz | ⟨d, hd, rfl⟩
    · exact ⟨(h.els z hz).1, ownI_only (h.els z hz).2 (Only.of_below (fp := []) hb) (by simp)⟩
    · exact ⟨hd, ownI_only ho (Only.of_below (fp := []) hb) (by simp)⟩
  · rcases hn2 b hb' with hm | hm
    · exact h.new b hm
    · exact hxn b hm
theorem flat_take {X : List ElS} {n : Nat} {x : ElS} (hx : X[n]? = some x) (hn : (X.flatMap ElS.f).Nodup) : ((X.take n).flatMap ElS.f ++ x.f).Nodup ∧ (X.take (n + 1)).flatMap ElS.f = (X.take n).flatMap ElS.f ++ x.f := by
  have h2 : (X.take (n + 1)).flatMap ElS.f = (X.take n).flatMap ElS.f ++ x.f := by rw [take_snoc hx, List.flatMap_append, List.flatMap_singleton]
  refine ⟨?_, h2⟩
  rw [← h2]
  refine hn.sublist ?_
  exact sub_flat (List.take_sublist _ _)
/-- Putting the elements of a row of the call's own, one by one. -/
theorem sumO_next {W wr : World} {S gp zl capp n : Nat} {xs : List MonZ} {Z X : List ElS} {x : ElS} (h : SumO W wr (.slice (some ⟨gp, 0, none⟩) zl capp) xs zl Z) (hl : zl ≤ 100000) (hx : X[n]? = some x) (hX : ∀ z ∈ X, I64 z.c ∧ OwnI 3 wr z.v z.ps z.f) (hn : (X.flatMap ElS.f).Nodup)
    (hS : ∀ b ∈ X.flatMap ElS.f, S ≤ b) (hWS : W.heap.size ≤ S) (hZ : ∀ b ∈ Z.flatMap ElS.f, b < S ∨ b ∈ (X.take n).flatMap ElS.f) :
    Calls Try.prog 104 #[.slice (some ⟨gp, 0, none⟩) zl capp, .agg #[.int .i64 x.c, .slice x.ad x.l x.k]] wr fun e w' => ∃ gg cap Z', e = .returned (.slice (some ⟨gg, 0, none⟩) (putL xs (monS x)).length cap) ∧ SumO W w' (.slice (some ⟨gg, 0, none⟩) (putL xs (monS x)).length cap) (putL xs (monS x)) (putL xs (monS x)).length Z' ∧ (∀ b ∈ Z'.flatMap ElS.f, b < S ∨ b ∈ (X.take (n + 1)).flatMap ElS.f) ∧ Below wr.heap.size wr w' := by
  have hxm := List.mem_of_getElem? hx
  obtain ⟨h1, h2⟩ := flat_take hx hn
  have hxS : ∀ b ∈ x.f, S ≤ b := fun b hb => hS b (List.mem_flatMap.2 ⟨x, hxm, hb⟩)
  have hnd : (Z.flatMap ElS.f ++ x.f).Nodup := by
    rw [List.nodup_append] at h1 ⊢
    refine ⟨h.nodup, h1.2.1, fun a ha b hb e => ?_⟩
    subst e
    rcases hZ a ha with hh | hh
    · have := hxS a hb; omega
    · exact h1.2.2 a hh a hb rfl
  refine (sumO_put h hl x (hX x hxm).1 (hX x hxm).2 (fun b hb => Nat.le_trans hWS (hxS b hb)) hnd).mono ?_
  rintro e w' ⟨gg, cap, rfl, hs, hb⟩
  refine ⟨gg, cap, _, rfl, hs, fun b hb' => ?_, hb⟩
  rw [h2]
  rcases (putE_nodup hnd).2 b hb' with hm | hm
  · rcases hZ b hm with hh | hh
    · exact Or.inl hh
    · exact Or.inr (List.mem_append.2 (Or.inl hh))
  · exact Or.inr (List.mem_append.2 (Or.inr hm))

set_option maxRecDepth 100000 in
set_option maxHeartbeats 6400000 in
theorem sTangent_any (vf : Value) (f : FldZ) (w : World) (hf : RdFld w vf f) :
    Calls Try.prog 50 #[vf] w (Gives2 (fun w' v fp => OwnFld 45 91 3 w' v (tanF f) fp) (tanB f) w) := by
  have hff' := hf
  obtain ⟨vP, rfl, hIf, hP⟩ := hf
  obtain ⟨adp, lp, cp, rfl⟩ := rdMss_slice hP
  obtain ⟨W0, hW0⟩ : ∃ W, W = (w.alloc (.cells #[.int .i64 f.dim, .slice adp lp cp] 37)).alloc (.cells #[.int .i64 0, .slice none 0 0] 37) := ⟨_, rfl⟩
  have hb0 : Below w.heap.size w W0 := hW0 ▸ ((Below.refl _ _).alloc (Nat.le_refl _) _).alloc (by simp) _
  have hr := box_at (w := w.alloc (.cells #[.int .i64 f.dim, .slice adp lp cp] 37)) (e := 37) (a := .int .i64 0) (b := .slice none 0 0) (W := W0) (hW0 ▸ Below.refl _ _)
  rw [show (w.alloc (.cells #[.int .i64 f.dim, .slice adp lp cp] 37)).heap.size = w.heap.size + 1 by simp] at hr
  have F0 : W0.cell? ⟨w.heap.size, 0, none⟩ = some (.int .i64 f.dim) ∧ W0.cell? ⟨w.heap.size, 1, none⟩ = some (.slice adp lp cp) := by rw [hW0]; constructor <;> simp
  have hsz : w.heap.size + 1 < W0.heap.size := by rw [hW0]; simp
  have HW0 := Lib.hid hW0
  have HR := Lib.hid hr
  have HF0 := Lib.hid F0
  have HB0 := Lib.hid hb0
  have hnone : ∀ W, Below w.heap.size w W → tanB f = false → Gives2 (fun w' v fp => OwnFld 45 91 3 w' v (tanF f) fp) (tanB f) w (.returned (.tuple #[.agg #[.int .i64 0, .slice none 0 0], .bool false])) W := by
    intro W hW hd
    rw [hd]
    refine ⟨_, [], rfl, ?_, by simp, hW⟩
    rw [tanF_no hd]
    exact ⟨_, rfl, ⟨(by decide : (-9223372036854775808 : Int) ≤ 0), (by decide : (0 : Int) ≤ 9223372036854775807)⟩, [], [], World.ownsRow_nil _ _ _ _, by simp, rfl, rfl, by simp⟩
  have FOK := Lib.hid (fun (c : Bool) (hc : fldOkB f = c) => sFldOk_eq (.agg #[.int .i64 f.dim, .slice adp lp cp]) f _ (rdFld_mono hb0 hff') hc)
  clear hr F0 hb0 hff' hW0
  cases hok : fldOkB f with
  | false =>
    have HN := Lib.hid (fun W hW => hnone W hW (tanB_no hok))
    have F1 := Lib.hid (FOK.out false hok)
    clear hnone hok FOK hP
    go_enter Try.func50, Try.ntmps50
    go_wp2_with fail
    rw [← HW0.out]
    refine F1.out.mono ?_
    rintro e w1 ⟨rfl, hb1⟩
    have hc0 := cell_below hb1 HR.out.1
    have hc1 := cell_below hb1 HR.out.2.1
    have hf0 := (hb1.frozen (p := ⟨w.heap.size + 1, 0, none⟩) hsz).trans HR.out.2.2.1
    have hf1 := (hb1.frozen (p := ⟨w.heap.size + 1, 1, none⟩) hsz).trans HR.out.2.2.2
    have HB := Lib.hid (HB0.out.trans (hb1.mono HB0.out.size))
    clear hb1
    go_wp2
    exact bodyPost_ret (v := .tuple #[.agg #[.int .i64 0, .slice none 0 0], .bool false]) (by simp [results, Try.results50, go_sem, hc0, hc1]) rfl (HN.out _ ((HB.out.setCell (by simp) _).setCell (by simp) _))
  | true =>
    have F1 := Lib.hid (FOK.out true hok)
    obtain ⟨n, hdn, hpn, hn1, hn6, hparts⟩ := fldOk_parts hok
    have hlp : lp = n := by
      obtain ⟨ad', len', cap', he, hl', _⟩ := rdS_open hP
      injection he with e1 e2 e3
      omega
    subst hlp
    rw [hdn] at HF0 HW0 F1
    have HNO := Lib.hid hnone
    have HOK := Lib.hid hok
    have HDN := Lib.hid hdn
    have HPN := Lib.hid hpn
    have HPARTS := Lib.hid hparts
    have HPR := Lib.hid hP
    obtain ⟨j1, hj1, hw0, hw1, hw2⟩ := info_parts Try.info_mons
    obtain ⟨i0, hi, hz0, hz1, hz2⟩ := info_parts Try.info_mon
    rw [hdn]
    clear hnone hok FOK hP hparts hpn hIf
    go_enter Try.func50, Try.ntmps50
    clear hdn
    go_wp2_with fail
    rw [← HW0.out]
    refine F1.out.mono ?_
    rintro e w1 ⟨rfl, hb1⟩
    have hc0 := cell_below hb1 HR.out.1
    have hc1 := cell_below hb1 HR.out.2.1
    have hf0 := (hb1.frozen (p := ⟨w.heap.size + 1, 0, none⟩) hsz).trans HR.out.2.2.1
    have hf1 := (hb1.frozen (p := ⟨w.heap.size + 1, 1, none⟩) hsz).trans HR.out.2.2.2
    have hp0 := cell_below hb1 HF0.out.1
    have hp1 := cell_below hb1 HF0.out.2
    have hbw1 := HB0.out.trans (hb1.mono HB0.out.size)
    have hsz1 : w.heap.size + 1 < w1.heap.size := by have := hb1.size; omega
    have um2 : IntKind.i64.wrap (2 * (lp : Int)) = 2 * (lp : Int) := IntWalk.i64_in _ (by omega)
    obtain ⟨W3, hW3⟩ : ∃ W, W = w1.alloc (.cells #[.int .i64 (2 * (lp : Int)), .slice none 0 0] 37) := ⟨_, rfl⟩
    have I0 := Lib.hid (fldInv_start (e1 := 45) (e2 := 91) (e := 3) hW3)
    have hb3 : Below w1.heap.size w1 W3 := hW3 ▸ (Below.refl _ _).alloc (Nat.le_refl _) _
    have HB3 := Lib.hid (hbw1.trans (hb3.mono hbw1.size))
    have HW3 := Lib.hid hW3
    have HRR := Lib.hid (show _ ∧ _ ∧ _ ∧ _ from ⟨hc0, hc1, hf0, hf1⟩)
    have HB13 := Lib.hid hb3
    have SP := Lib.hid (fun (X : World) (hX : Only [w1.heap.size] W3 X) => show X.cell? ⟨w.heap.size, 0, none⟩ = some (.int .i64 (lp : Int)) ∧ X.cell? ⟨w.heap.size, 1, none⟩ = some (.slice adp lp cp) from ⟨cell_only hX (by simp; omega) (cell_below hb3 hp0), cell_only hX (by simp; omega) (cell_below hb3 hp1)⟩)
    clear hb1 hbw1 hb3 hW3 hc0 hc1 hf0 hf1
    go_wp2
    rw [← HW3.out]
    clear hp0 hp1
    go_loopw [5] (fun i wr => ∃ (k : Nat) (u : Value) (fs : List Nat), k ≤ lp ∧ i = .int .i64 k ∧ FldInv 45 91 3 W3 wr w1.heap.size (2 * (lp : Int)) u (tanW lp (f.parts.take k)) fs) (fun i _ => lp - (intOf i).toNat)
    case atStart => exact ⟨0, _, _, Nat.zero_le _, rfl, by simpa [tanW] using I0.out⟩
    case round =>
      obtain ⟨wk, rfl⟩ : ∃ W, W = wr := ⟨_, rfl⟩
      obtain ⟨k, u, fs0, hk, rfl, hI⟩ := hrel
      clear I0
      have hbk := hI.below HB3.out (by omega)
      have hpp := SP.out wk hI.only
      have hp0 := hpp.1
      have hp1 := hpp.2
      by_cases hlt : k < lp
      case pos =>
        obtain ⟨bp, op, ad5, l5, c5, p, hady, hp, hc5, h51, h52, h53, h54, _⟩ := rdMss_get (rdMss_mono hbk HPR.out) hlt
        obtain ⟨hp12, hpm⟩ := HPARTS.out p (List.mem_of_getElem? hp)
        have hi1 := hI.c1
        have hfi1 := hI.f1
        have HI := Lib.hid hI
        have hkl : (tanW lp (f.parts.take k)).length = k := by rw [tanW_len, List.length_take]; have := HPN.out; omega
        obtain ⟨us, fs, hown, hone, hels, rfl, hnd⟩ := hI.own
        have HOWN := Lib.hid hown
        rw [hkl] at hown
        obtain ⟨adu, capu, rfl, hluc, hcum, _⟩ := row_open hown
        have HNU := Lib.hid hown
        have HONE := Lib.hid hone
        have HELS := Lib.hid hels
        have HND := Lib.hid hnd
        have HKL := Lib.hid hkl
        have hdr : Below wk.heap.size wk wk.drew := (Below.refl _ _).drew
        have hlw := World.block_lt_of_cell? _ _ hi1
        simp only at hlw
        have HSN := Lib.hid (tanW_next (n := lp) hp)
        have CL := Lib.hid (sWide_neg (.slice ad5 l5 c5) p lp wk.drew (rdMs_mono hdr h54) hp12 (low_fine hpm) hn1 hn6)
        have HPS := Lib.hid (fun (wa w2 : World) (q : Value) (x : List MonZ) (f : List Nat) (gg capn : Nat) (hp : OwnMs 91 3 wa q x f) (hf : ∀ b ∈ f, wk.heap.size ≤ b) (hq : Below wk.heap.size wk wa)
            (hown1 : w2.ownsRow 0 45 1 (.slice (some ⟨gg, 0, none⟩) (k + 1) capn) (k + 1) (us.flatten ++ [q])) (hgrow : (wa.alloc (.cells #[q] 45)).grownBy w2 (Value.slice adu k capu).ownBlock) (hat : (Value.slice adu k capu).ownBlock = some gg ∨ gg = wa.heap.size + 1) =>
          FldInv.push HI.out HONE.out HELS.out HND.out HOWN.out HKL.out hp hf hq ((Below.refl _ _).alloc (Nat.le_refl _) _) hown1 hgrow (fun b hb => by
            simp [Value.ownBlock] at hb
            subst hb
            rcases hat with hat | hat
            · left; exact hat
            · right; rw [hat]; simp))
        have hkI : (k : Int) < lp := by omega
        subst hady
        have SQ := Lib.hid (fun (X : World) (hX : Below wk.heap.size wk X) => show X.cell? ⟨w.heap.size, 0, none⟩ = some (.int .i64 (lp : Int)) ∧ X.cell? ⟨w.heap.size, 1, none⟩ = some (.slice (some ⟨bp, op, none⟩) lp cp) ∧ X.cell? ⟨bp, op + k, none⟩ = some (.slice ad5 l5 c5) from ⟨cell_below hX hp0, cell_below hX hp1, cell_below hX hc5⟩)
        clear hown hone hels hnd hkl hbk hI hp h51 h54 hp12 hpm hpp
        go_wp2
        go_region_law (first | (refine step_append_lies _ (by rfl) _ _ _ (by rfl) 0 45 j1 _ 1 24 Try.underlying35 hj1 hw0 hw1 hw2 rfl (by omega) (.slice adu k capu) k _ (by rfl) (HNQ.out.alloc _) ⟨wa.heap.size, 0, none⟩ 1 1 [.slice adq lq capq] (by rfl) (by rfl) (World.news_of_block (cs := #[.slice adq lq capq]) (t := 45) (fr := (0, 0)) (heap_alloc_new wa _)) (by simp [Value.oneCell']) (by omega) (by unfold maxLen; omega) (by omega) (by simp) (wa.heap.size + 1) (by simp) ?_; intro gg capn w2 hown1 hgrow hat hlt1; obtain ⟨hcB, hfB, fp', hP⟩ := HPS.out wa w2 _ _ fp1 gg capn HOP.out HFP.out HRA.out hown1 hgrow hat; have HPP := Lib.hid hP; clear hP hown1 hgrow) | (go_simp; first | (go_at_call 103; (with_reducible refine (CL.out).mono ?_); rintro e wa ⟨p1, fp1, rfl, ⟨hop1, hsq⟩, hfp1, hba⟩; have hra := hdr.trans (hba.mono hdr.size); have hSq := SQ.out _ hra; have hi1a := cell_below hra hi1; have hfi1a := (hra.frozen (p := ⟨w1.heap.size, 1, none⟩) hlw).trans hfi1; obtain ⟨adq, lq, capq, rfl⟩ := ownMs_open hop1; have hi1b := cell_below (w := wa) ((Below.refl _ _).alloc (Nat.le_refl _) (.cells #[.slice adq lq capq] 45)) hi1a; have HOP := Lib.hid hop1; have HFP := Lib.hid (show ∀ b ∈ fp1, wk.heap.size ≤ b from fun b hb => (by have h1 := hfp1 b hb; have h2 := hdr.size; omega)); have HRA := Lib.hid hra; have HNQ := Lib.hid (ownsRow_only HNU.out (Only.of_below (fp := []) hra) (by simp)); clear hop1 hfp1 hba hra hsq)))
        all_goals (
          go_wp2
          go_roundw
          case rel => exact ⟨k + 1, _, fp', by omega, by go_num, by rw [HSN.out]; exact HPP.out⟩
          case measure => simp [intOf]; omega)
      case neg =>
        obtain rfl : k = lp := by omega
        have htk : f.parts.take k = f.parts := List.take_of_length_le (by rw [HPN.out]; exact Nat.le_refl _)
        rw [htk] at hI
        have HI0 := Lib.hid (show FldInv 45 91 3 W3 wk w1.heap.size (2 * (k : Int)) u (tanW k f.parts ++ tanC k (f.parts.take 0)) fs0 from by simpa [tanC] using hI)
        clear hI hbk hpp htk
        go_wp2
        clear hp0 hp1
        go_loopw [6] (fun i wr => ∃ (q : Nat) (u : Value) (fs : List Nat), q ≤ k ∧ i = .int .i64 q ∧ FldInv 45 91 3 W3 wr w1.heap.size (2 * (k : Int)) u (tanW k f.parts ++ tanC k (f.parts.take q)) fs) (fun i _ => k - (intOf i).toNat)
        case atStart => exact ⟨0, _, _, Nat.zero_le _, rfl, HI0.out⟩
        case round =>
          obtain ⟨wz, rfl⟩ : ∃ W, W = wr := ⟨_, rfl⟩
          obtain ⟨q, u, fs0, hq, rfl, hI⟩ := hrel
          clear HI0
          have hbz := hI.below HB3.out (by omega)
          have hpp := SP.out wz hI.only
          have hp0 := hpp.1
          have hp1 := hpp.2
          by_cases hlt : q < k
          case neg =>
            obtain rfl : q = k := by omega
            have htk : f.parts.take q = f.parts := List.take_of_length_le (by rw [HPN.out]; exact Nat.le_refl _)
            rw [htk] at hI
            obtain ⟨adu, lu, cu, rfl⟩ := ownMss_slice hI.own
            have hE : tanR f = ⟨2 * (q : Int), tanW q f.parts ++ tanC q f.parts⟩ := by rw [tanR, HDN.out, HPN.out, tanP]
            have hrd : RdFld wz (.agg #[.int .i64 (2 * (q : Int)), .slice adu lu cu]) (tanR f) := by
              rw [hE]
              exact ⟨_, rfl, ⟨by show (-9223372036854775808 : Int) ≤ 2 * (q : Int); omega, by show 2 * (q : Int) ≤ 9223372036854775807; omega⟩, ownMss_rd hI.own⟩
            have hi0 := hI.c0
            have hi1 := hI.c1
            have hszz : w1.heap.size < wz.heap.size := World.block_lt_of_cell? _ _ hi0
            have hbz3 : Only [w1.heap.size] w1 wz := (Only.of_below HB13.out).trans hI.only
            have hc0 := cell_only hbz3 (by simp; omega) HRR.out.1
            have hc1 := cell_only hbz3 (by simp; omega) HRR.out.2.1
            have hf0 : wz.frozen? ⟨w.heap.size + 1, 0, none⟩ = false := (World.frozen?_of_block (hbz3.block _ hsz1 (by simp; omega))).trans HRR.out.2.2.1
            have hf1 : wz.frozen? ⟨w.heap.size + 1, 1, none⟩ = false := (World.frozen?_of_block (hbz3.block _ hsz1 (by simp; omega))).trans HRR.out.2.2.2
            have FO2 := Lib.hid (fun (c : Bool) (hc : fldOkB (tanR f) = c) => sFldOk_eq (.agg #[.int .i64 (2 * (q : Int)), .slice adu lu cu]) (tanR f) wz hrd hc)
            have HI := Lib.hid hI
            have HBZ := Lib.hid hbz
            have HE := Lib.hid hE
            have HCC := Lib.hid (show _ ∧ _ ∧ _ ∧ _ from ⟨hc0, hc1, hf0, hf1⟩)
            have hszw : w.heap.size + 1 < wz.heap.size := by omega
            clear hI hrd hE htk hbz hpp hbz3 hc0 hc1 hf0 hf1
            cases hto : fldOkB (tanR f) with
            | false =>
              have F2 := Lib.hid (FO2.out false hto)
              have HB' := Lib.hid ((tanB_yes HOK.out).trans hto)
              clear hto FO2
              go_wp2_with fail
              refine F2.out.mono ?_
              rintro e w4 ⟨rfl, hb4⟩
              have hc0 := cell_below hb4 HCC.out.1
              have hc1 := cell_below hb4 HCC.out.2.1
              have hf0 := (hb4.frozen (p := ⟨w.heap.size + 1, 0, none⟩) hszw).trans HCC.out.2.2.1
              have hf1 := (hb4.frozen (p := ⟨w.heap.size + 1, 1, none⟩) hszw).trans HCC.out.2.2.2
              have HB4 := Lib.hid (HBZ.out.trans (hb4.mono HBZ.out.size))
              clear hb4 hi0 hi1
              go_wp2
              exact bodyPost_ret (v := .tuple #[.agg #[.int .i64 0, .slice none 0 0], .bool false]) (by simp [results, Try.results50, go_sem, hc0, hc1]) rfl (HNO.out _ ((HB4.out.setCell (by simp) _).setCell (by simp) _) HB'.out)
            | true =>
              have F2 := Lib.hid (FO2.out true hto)
              have HB' := Lib.hid ((tanB_yes HOK.out).trans hto)
              clear hto FO2
              go_wp2_with fail
              refine F2.out.mono ?_
              rintro e w4 ⟨rfl, hb4⟩
              have hc0 := cell_below hb4 HCC.out.1
              have hc1 := cell_below hb4 HCC.out.2.1
              have hf0 := (hb4.frozen (p := ⟨w.heap.size + 1, 0, none⟩) hszw).trans HCC.out.2.2.1
              have hf1 := (hb4.frozen (p := ⟨w.heap.size + 1, 1, none⟩) hszw).trans HCC.out.2.2.2
              have hi0 := cell_below hb4 hi0
              have hi1 := cell_below hb4 hi1
              have HB4 := Lib.hid (HBZ.out.trans (hb4.mono HBZ.out.size))
              have HBB4 := Lib.hid hb4
              clear hb4
              go_wp2
              refine bodyPost_ret (v := .tuple #[.agg #[.int .i64 (2 * (q : Int)), .slice adu lu cu], .bool true]) (by simp [results, Try.results50, go_sem, hc0, hc1]) rfl ?_
              rw [HB'.out]
              have hO2 : Only [w.heap.size + 1] w4 ((w4.setCell ⟨w.heap.size + 1, 0, none⟩ (.int .i64 (2 * (q : Int)))).setCell ⟨w.heap.size + 1, 1, none⟩ (.slice adu lu cu)) := ((Only.refl _ _).setCell (by simp) _).setCell (by simp) _
              have hs3 := HB3.out.size
              have hs13 := HB13.out.size
              refine ⟨_, fs0, rfl, ?_, fun b hb => ?_, (HB4.out.setCell (by simp) _).setCell (by simp) _⟩
              · rw [tanF_yes HB'.out, HE.out]
                refine ⟨_, rfl, ⟨by show (-9223372036854775808 : Int) ≤ 2 * (q : Int); omega, by show 2 * (q : Int) ≤ 9223372036854775807; omega⟩, ownMss_only (ownMss_only HI.out.own (Only.of_below (fp := []) HBB4.out) (by simp)) hO2 (fun b hb hm => ?_)⟩
                have := HI.out.new b hb
                simp at hm
                omega
              · have := HI.out.new b hb
                omega
          case pos =>
            obtain ⟨bp, op, ad5, l5, c5, p, hady, hp, hc5, h51, h52, h53, h54, _⟩ := rdMss_get (rdMss_mono hbz HPR.out) hlt
            obtain ⟨hp12, hpm⟩ := HPARTS.out p (List.mem_of_getElem? hp)
            have hi1 := hI.c1
            have hfi1 := hI.f1
            have HI := Lib.hid hI
            have hkl : (tanW k f.parts ++ tanC k (f.parts.take q)).length = k + q := by rw [List.length_append, tanW_len, tanC_len, List.length_take]; have := HPN.out; omega
            obtain ⟨us, fs, hown, hone, hels, rfl, hnd⟩ := hI.own
            have HOWN := Lib.hid hown
            obtain ⟨kq, hkq⟩ : ∃ x, k + q = x := ⟨_, rfl⟩
            rw [hkq] at hkl
            have hkq6 : kq ≤ 12 := by omega
            rw [hkl] at hown
            obtain ⟨adu, capu, rfl, hluc, hcum, _⟩ := row_open hown
            have HNU := Lib.hid hown
            have HONE := Lib.hid hone
            have HELS := Lib.hid hels
            have HND := Lib.hid hnd
            have HKL := Lib.hid hkl
            have HBZ := Lib.hid hbz
            have hlw := World.block_lt_of_cell? _ _ hi1
            simp only at hlw
            have HSN := Lib.hid (tanC_next (n := k) hp)
            have HPS := Lib.hid (fun (wa w2 : World) (q' : Value) (x : List MonZ) (f' : List Nat) (gg capn : Nat) (hp : OwnMs 91 3 wa q' x f') (hf : ∀ b ∈ f', wz.heap.size ≤ b) (hq : Below wz.heap.size wz wa)
                (hown1 : w2.ownsRow 0 45 1 (.slice (some ⟨gg, 0, none⟩) (kq + 1) capn) (kq + 1) (us.flatten ++ [q'])) (hgrow : (wa.alloc (.cells #[q'] 45)).grownBy w2 (Value.slice adu kq capu).ownBlock) (hat : (Value.slice adu kq capu).ownBlock = some gg ∨ gg = wa.heap.size + 1) =>
              FldInv.push HI.out HONE.out HELS.out HND.out HOWN.out HKL.out hp hf hq ((Below.refl _ _).alloc (Nat.le_refl _) _) hown1 hgrow (fun b hb => by
                simp [Value.ownBlock] at hb
                subst hb
                rcases hat with hat | hat
                · left; exact hat
                · right; rw [hat]; simp))
            obtain ⟨W5, hW5⟩ : ∃ W, W = wz.alloc (.cells #[] 91) := ⟨_, rfl⟩
            have hb5 : Below wz.heap.size wz W5 := hW5 ▸ (Below.refl _ _).alloc (Nat.le_refl _) _
            have HQ0 := Lib.hid (show SumO wz W5 (.slice (some ⟨wz.heap.size, 0, none⟩) 0 0) (putAll [] (tanQ k p 0)) 0 [] from
              ⟨rfl, ⟨_, _, rfl, Nat.le_refl _, by simp⟩, by rw [hW5]; simpa [rowS] using World.ownsRow_lit (base := 0) (e := 91) (size := 2) wz #[] 0 (Nat.zero_le _) (Nat.zero_le _) rfl, by simp, by simp, by simp, hb5⟩)
            have HW5 := Lib.hid hW5
            have HP12 := Lib.hid hp12
            have HPM := Lib.hid hpm
            have HRP := Lib.hid h54
            have HI1 := Lib.hid hi1
            have HFI1 := Lib.hid hfi1
            have hqI : (q : Int) < k := by omega
            subst hady
            have SQ := Lib.hid (fun (X : World) (hX : Below wz.heap.size wz X) => show X.cell? ⟨w.heap.size, 0, none⟩ = some (.int .i64 (k : Int)) ∧ X.cell? ⟨w.heap.size, 1, none⟩ = some (.slice (some ⟨bp, op, none⟩) k cp) ∧ X.cell? ⟨bp, op + q, none⟩ = some (.slice ad5 l5 c5) from ⟨cell_below hX hp0, cell_below hX hp1, cell_below hX hc5⟩)
            clear hown hone hels hnd hkl hbz hI hp h51 h54 hp12 hpm hpp hb5 hW5 hi1 hfi1
            go_wp2
            rw [← HW5.out]
            clear hp0 hp1 hc5
            go_loopw [7, 8] (fun u si wr => ∃ (j zl : Nat) (Z : List ElS), si = .int .i64 j ∧ j ≤ k ∧ SumO wz wr u (putAll [] (tanQ k p j)) zl Z) (fun _ si _ => k - (intOf si).toNat)
            case atStart => exact ⟨0, 0, [], rfl, Nat.zero_le _, HQ0.out⟩
            case round =>
              obtain ⟨wk, rfl⟩ : ∃ W, W = wr := ⟨_, rfl⟩
              obtain ⟨j, zl, Z, rfl, hj, ho⟩ := hrel
              clear HQ0 HW5
              have hb := ho.below
              have hzl : zl ≤ 144 := by
                have h1 := putAll_len (tanQ k p j) []
                have h2 := tanQ_len (n := k) HP12.out j
                rw [ho.len] at h1
                simp at h1
                omega
              obtain ⟨gu, cu, rfl, _, _⟩ := ho.shape
              have hdr : Below wk.heap.size wk wk.drew := (Below.refl _ _).drew
              have hsq := SQ.out wk hb
              have hp0 := hsq.1
              by_cases hltj : j < k
              case neg =>
                obtain rfl : j = k := by omega
                obtain ⟨fp1, hop1, hfp1⟩ := ho.own
                have hi1 := cell_below hb HI1.out
                have hfi1 := (hb.frozen (p := ⟨w1.heap.size, 1, none⟩) hlw).trans HFI1.out
                have HOP := Lib.hid hop1
                have HFP := Lib.hid hfp1
                have HRA := Lib.hid hb
                have HNQ := Lib.hid (ownsRow_only HNU.out (Only.of_below (fp := []) hb) (by simp))
                clear ho hb hdr hop1 hfp1 hsq
                go_wp2_with (first | (at_builtin; refine wpList_append_lies _ rfl _ _ _ rfl 0 45 j1 _ 1 24 Try.underlying35 hj1 hw0 hw1 hw2 rfl (by omega) (.slice adu kq capu) kq _ (by rfl) (HNQ.out.alloc _) ⟨wk.heap.size, 0, none⟩ 1 1 [.slice (some ⟨gu, 0, none⟩) zl cu] (by rfl) (by rfl) (World.news_of_block (cs := #[.slice (some ⟨gu, 0, none⟩) zl cu]) (t := 45) (fr := (0, 0)) (heap_alloc_new wk _)) (by simp [Value.oneCell']) (by omega) (by unfold maxLen; omega) (by omega) (by simp) (wk.heap.size + 1) (by simp) ?_; intro gg capn w2 hown1 hgrow hat hlt1; obtain ⟨hcB, hfB, fp', hP⟩ := HPS.out wk w2 _ _ fp1 gg capn HOP.out HFP.out HRA.out hown1 hgrow hat; have HPP := Lib.hid hP; clear hP hown1 hgrow))
                go_roundw
                case rel => exact ⟨q + 1, _, fp', by omega, by go_num, by rw [HSN.out, ← List.append_assoc]; exact HPP.out⟩
                case measure => simp [intOf]; omega
              case pos =>
                have PA := Lib.hid (sPart_any (.slice ad5 l5 c5) p j k 1 wk.drew (rdMs_mono (hb.trans (hdr.mono hb.size)) HRP.out) HP12.out HPM.out hn6 hltj (by omega))
                have CLW := Lib.hid (fun (v1 : Value) (fp1 : List Nat) (w5 : World) (ho1 : OwnMs 91 3 w5 v1 (partL j 1 p) fp1) => sWide_pos v1 (partL j 1 p) k (k + j) ((k : Int) + (j : Int)) w5 (by simp) (ownMs_rd ho1) (Nat.le_trans (partL_len _ _ _) HP12.out) (low_part HPM.out) hn1 hn6 (by omega))
                have HNX := Lib.hid (tanQ_next k p j)
                have HNL := Lib.hid (show (wideL k ((k : Int) + (j : Int)) (partL j 1 p)).length ≤ 12 from by rw [wideL_len]; exact Nat.le_trans (partL_len _ _ _) HP12.out)
                have HO := Lib.hid ho
                have HB := Lib.hid hb
                have HZL := Lib.hid (els_lt ho.els)
                have um2 : IntKind.i64.wrap ((k : Int) + j) = (k : Int) + j := IntWalk.i64_in _ (by omega)
                have SQK := Lib.hid (fun (X : World) (hX : Below wk.heap.size wk X) => SQ.out X (HB.out.trans (hX.mono HB.out.size)))
                clear ho hb
                go_wp2
                go_region_held3 (fun w' => w'.cell? ⟨w.heap.size, 0, none⟩ = some (.int .i64 (k : Int)) ∧ w'.cell? ⟨w.heap.size, 1, none⟩ = some (.slice (some ⟨bp, op, none⟩) k cp) ∧ w'.cell? ⟨bp, op + q, none⟩ = some (.slice ad5 l5 c5)) (first | exact SQK.out _ (Below.refl _ _) | exact SQK.out _ hdr | exact hs5 | exact hs4) (first | (go_at_call 75; (with_reducible refine (PA.out).mono ?_); rintro e w5 ⟨v5, fp5, rfl, ho5, hf5, hb5⟩; have hr5 := hdr.trans (hb5.mono hdr.size); have hs5 := SQK.out _ hr5; have CL5 := Lib.hid (CLW.out v5 fp5 w5 ho5); obtain ⟨ad3, l3, c3, rfl⟩ := ownMs_open ho5; have HB5 := Lib.hid hr5; clear ho5 hf5 hb5 hr5) | (go_at_call 103; (with_reducible refine (CL5.out).mono ?_); rintro e w4 ⟨v4, fp4, rfl, ⟨ho4, g4, l4, c4, rfl⟩, hf4, hb4⟩; obtain ⟨us4, fs4, hown4, hone4, hels4, rfl, hnd4⟩ := ho4; have hul4 : (wideL k ((k : Int) + (j : Int)) (partL j 1 p)).length = l4 := (by obtain ⟨ad', cap', he, _, _, _⟩ := row_open hown4; injection he with e1 e2 e3; exact e2.symm); rw [hul4] at hown4; have hbk4 := HB5.out.trans (hb4.mono HB5.out.size); have hs4 := SQK.out _ hbk4; have hl4 : l4 ≤ 12 := (by have := HNL.out; omega); obtain ⟨X, hX1, hX2, hX3, hX4⟩ := ownEls_S hels4; have HX1 := Lib.hid hX1; have HX4 := Lib.hid hX4; have HXR := Lib.hid (show w4.ownsRow 0 91 2 (.slice (some ⟨g4, 0, none⟩) l4 c4) l4 (rowS X) from (by rw [hX2]; exact hown4)); have HXN := Lib.hid (show (X.flatMap ElS.f).Nodup from (by rw [← hX3]; exact (List.nodup_append.1 hnd4).2.1)); have HXS := Lib.hid (show ∀ b ∈ X.flatMap ElS.f, wk.heap.size ≤ b from fun b hb => (by have h1 := hf4 b (by rw [List.mem_append]; right; rw [hX3]; exact hb); have h2 := HB5.out.size; omega)); have HUL4 := Lib.hid hul4; have HBK4 := Lib.hid hbk4; clear hown4 hone4 hels4 hnd4 hul4 hf4 hb4 hbk4 hX1 hX2 hX3 hX4))
                all_goals (
                  clear PA CLW CL5 hs5
                  have HXL := Lib.hid (show X.length = l4 from by rw [← HUL4.out, ← HX1.out, List.length_map])
                  have HS0 := Lib.hid (show SumO wz w4 (.slice (some ⟨gu, 0, none⟩) zl cu) (putAll (putAll [] (tanQ k p j)) ((X.map monS).take 0)) zl Z from by simpa [putAll] using HO.out.step HBK4.out)
                  go_wp2
                  clear hs4
                  go_loopw [7, 10] (fun u si wr => ∃ (n zn : Nat) (Zn : List ElS), si = .int .i64 n ∧ n ≤ l4 ∧ SumO wz wr u (putAll (putAll [] (tanQ k p j)) ((X.map monS).take n)) zn Zn ∧ (∀ b ∈ Zn.flatMap ElS.f, b < wk.heap.size ∨ b ∈ (X.take n).flatMap ElS.f) ∧ Below w4.heap.size w4 wr) (fun _ si _ => l4 - (intOf si).toNat)
                  case atStart => exact ⟨0, zl, Z, rfl, Nat.zero_le _, HS0.out, fun b hb => Or.inl (HZL.out b hb), Below.refl _ _⟩
                  case round =>
                    obtain ⟨wy, rfl⟩ : ∃ W, W = wr := ⟨_, rfl⟩
                    obtain ⟨n, zn, Zn, rfl, hn, hon, hbn, hby⟩ := hrel
                    clear HS0
                    obtain ⟨gn, cn, rfl, _, _⟩ := hon.shape
                    by_cases hltn : n < l4
                    case neg =>
                      obtain rfl : n = l4 := by omega
                      have HN := Lib.hid (show SumO wz wy (.slice (some ⟨gn, 0, none⟩) zn cn) (putAll [] (tanQ k p (j + 1))) zn Zn from by
                        rw [HNX.out, putAll_app, ← HX1.out]
                        have := hon
                        rwa [List.take_of_length_le (by rw [List.length_map, HXL.out]; exact Nat.le_refl _)] at this)
                      clear hon hbn
                      go_wp2
                      go_roundw
                      case rel => exact ⟨j + 1, zn, Zn, by go_num, by omega, HN.out⟩
                      case measure => (simp [intOf]; try omega)
                    case pos =>
                      obtain ⟨x, hx⟩ : ∃ x, X[n]? = some x := ⟨_, List.getElem?_eq_getElem (by rw [HXL.out]; exact hltn)⟩
                      obtain ⟨hx1, hx2⟩ := rowS_at hx
                      have hrow := ownsRow_only HXR.out (Only.of_below (fp := []) hby) (by simp)
                      have hcx0 : wy.cell? ⟨g4, n * 2, none⟩ = some (.int .i64 x.c) := by rw [hrow.cellAt _ (by omega), hx1]
                      have hcx1 : wy.cell? ⟨g4, n * 2 + 1, none⟩ = some (.slice x.ad x.l x.k) := by rw [hrow.cellAt _ (by omega), hx2]
                      have hzn : zn ≤ 300 := by
                        have h1 := putAll_len ((X.map monS).take n) (putAll [] (tanQ k p j))
                        have h2 := putAll_len (tanQ k p j) []
                        have h3 := tanQ_len (n := k) HP12.out j
                        rw [hon.len, List.length_take] at h1
                        simp at h2
                        omega
                      have hWk := HB.out.size
                      have PU := Lib.hid (sumO_next (S := wk.heap.size) (X := X) hon (by omega) hx (fun z hz => ⟨(HX4.out z hz).1, ownI_only (HX4.out z hz).2 (Only.of_below (fp := []) hby) (by simp)⟩) HXN.out HXS.out hWk hbn)
                      have HBY := Lib.hid hby
                      have HXX := Lib.hid hx
                      have hnI : (n : Int) < l4 := by omega
                      clear hon hbn hby hrow hx hx1 hx2
                      go_wp2_with fail
                      refine PU.out.mono ?_
                      rintro e w9 ⟨gg, capn, Zm, rfl, hsm, hbm, hb9⟩
                      have HSM := Lib.hid (show SumO wz w9 (.slice (some ⟨gg, 0, none⟩) (putL (putAll (putAll [] (tanQ k p j)) ((X.map monS).take n)) (monS x)).length capn) (putAll (putAll [] (tanQ k p j)) ((X.map monS).take (n + 1))) (putL (putAll (putAll [] (tanQ k p j)) ((X.map monS).take n)) (monS x)).length Zm ∧ (∀ b ∈ Zm.flatMap ElS.f, b < wk.heap.size ∨ b ∈ (X.take (n + 1)).flatMap ElS.f) ∧ Below w4.heap.size w4 w9 from
                        ⟨by rw [take_snoc (x := monS x) (by rw [List.getElem?_map, HXX.out]; rfl), putAll_snoc]; exact hsm, hbm, HBY.out.trans (hb9.mono HBY.out.size)⟩)
                      clear hsm hbm hb9 hcx0 hcx1
                      go_wp2
                      go_roundw
                      case rel => exact ⟨n + 1, _, Zm, by go_num, by omega, HSM.out⟩
                      case measure => (simp [intOf]; try omega))
end Go.Proofs.Ytdaaamdighojdaa
