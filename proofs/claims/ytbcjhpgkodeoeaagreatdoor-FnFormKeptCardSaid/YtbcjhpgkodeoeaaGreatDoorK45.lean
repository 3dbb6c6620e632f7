/- The program's field of tangents. Conditions: lengths of slices up to 2^20. -/
import Derived.Test.YtbcjhpgkodeoeaaGreatDoorK44
set_option linter.unusedSimpArgs false
set_option linter.unusedVariables false

namespace Go.Proofs.YtbcjhpgkodeoeaaGreatDoor
open Go.RowKit Go.Sort

theorem step_append_own_at {P : Program} (w : World) {ops : Array Oper} {o : Oper} {a : Act} {K : Act → World → Prop} {Q : Exit → Act → World → Prop} {E : Prop} (hgd : o.guard = none) (s x : Operand) (t : TypeId)
    (ho : o.op = .call { callee := .builtin .append, args := #[s, x], argTypes := #[t, t] })
    (base : Nat) (e : TypeId) (i : TypeInfo) (z : Value) (size bytes : Nat) (ht : P.underlying t = some (.slice e)) (hi : P.info? e = some i) (hz : i.zero = some z)
    (hsize : i.size = size) (hby : i.bytes = bytes) (hzs : z.cells.size = size) (hsz : 0 < size)
    (v : Value) (n : Nat) (xs : List Value) (hs : a.eval s = v) (hown : w.ownsRow base e size v n xs)
    (ad : Addr) (m c : Nat) (news : List Value) (hx : a.eval x = .slice (some ad) m c) (hl : news.length = m * size) (hnews : ∀ j u, news[j]? = some u → w.cell? (ad.add j) = some u) (h1 : ∀ u ∈ news, u.oneCell' = true)
    (h63 : n + m ≤ maxLen) (hbytes : (n + m) * bytes ≤ 140737488355328) (hbase : base ≤ w.heap.size)
    (h : ∀ v' w', w'.ownsRow base e size v' (n + m) (xs ++ news) → w.grownBy w' v.ownBlock → (v'.ownBlock = v.ownBlock ∨ v'.ownBlock = some w.heap.size) → K (a.put o.dst v') w') :
    if Region.wanted o (yielded ops a.tmps) = true then Oper.wp P o a w K Q else E := by
  have hw : Region.wanted o (yielded ops a.tmps) = true := by simp [Region.wanted, hgd]
  rw [if_pos hw]
  obtain ⟨v', w', hr, h2, h3, _, h5⟩ := run_append_own_at (P := P) w base t o.type e i z size bytes ht hi hz hsize hby hzs hsz v n xs hown ad m c news hl hnews h1 h63 hbytes hbase
  exact Lib.wp_append_run w s x t t ho _ _ hs hx _ _ hr (h v' w' h2 h3 h5)

theorem FldInv.step {e1 e2 e : Nat} {W w w2 : World} {Bf : Nat} {dim : Int} {v : Value} {xs : List (List MonZ)} {fs : List Nat} (h : FldInv e1 e2 e W w Bf dim v xs fs) (hb : Below w.heap.size w w2) : FldInv e1 e2 e W w2 Bf dim v xs fs :=
  ⟨ownMss_only h.own (Only.of_below (fp := []) hb) (by simp), h.new, h.only.trans (Only.of_below hb), cell_below hb h.c0, cell_below hb h.c1, (hb.frozen (p := ⟨Bf, 1, none⟩) (World.block_lt_of_cell? _ _ h.c1)).trans h.f1, h.lt⟩

set_option maxRecDepth 100000 in
set_option maxHeartbeats 6400000 in
theorem tangent_any (vf : Value) (f : FldZ) (w : World) (hf : RdFld w vf f) (hff : ∀ p ∈ f.parts, ∀ m ∈ p, Fit_Mon m) :
    Calls Tryz.prog 9 #[vf] w (Gives2 (fun w' v fp => OwnFld 24 56 3 w' v (tanF f) fp) (tanB f) w) := by
  have hff' := hf
  obtain ⟨vP, rfl, hIf, hP⟩ := hf
  obtain ⟨adp, lp, cp, rfl⟩ := rdMss_slice hP
  obtain ⟨W0, hW0⟩ : ∃ W, W = (w.alloc (.cells #[.int .i64 f.dim, .slice adp lp cp] 30)).alloc (.cells #[.int .i64 0, .slice none 0 0] 30) := ⟨_, rfl⟩
  have hb0 : Below w.heap.size w W0 := hW0 ▸ ((Below.refl _ _).alloc (Nat.le_refl _) _).alloc (by simp) _
  have hr := box_at (w := w.alloc (.cells #[.int .i64 f.dim, .slice adp lp cp] 30)) (e := 30) (a := .int .i64 0) (b := .slice none 0 0) (W := W0) (hW0 ▸ Below.refl _ _)
  rw [show (w.alloc (.cells #[.int .i64 f.dim, .slice adp lp cp] 30)).heap.size = w.heap.size + 1 by simp] at hr
  have F0 : W0.cell? ⟨w.heap.size, 0, none⟩ = some (.int .i64 f.dim) ∧ W0.cell? ⟨w.heap.size, 1, none⟩ = some (.slice adp lp cp) := by rw [hW0]; constructor <;> simp
  have hsz : w.heap.size + 1 < W0.heap.size := by rw [hW0]; simp
  have HW0 := Lib.hid hW0
  have HR := Lib.hid hr
  have HF0 := Lib.hid F0
  have HB0 := Lib.hid hb0
  have hnone : ∀ W, Below w.heap.size w W → tanB f = false → Gives2 (fun w' v fp => OwnFld 24 56 3 w' v (tanF f) fp) (tanB f) w (.returned (.tuple #[.agg #[.int .i64 0, .slice none 0 0], .bool false])) W := by
    intro W hW hd
    rw [hd]
    refine ⟨_, [], rfl, ?_, by simp, hW⟩
    rw [tanF_no hd]
    exact ⟨_, rfl, ⟨(by decide : (-9223372036854775808 : Int) ≤ 0), (by decide : (0 : Int) ≤ 9223372036854775807)⟩, [], [], World.ownsRow_nil _ _ _ _, by simp, rfl, rfl, by simp⟩
  have FOK := Lib.hid (fun (c : Bool) (hc : fldOkB f = c) => fldOk_eq (.agg #[.int .i64 f.dim, .slice adp lp cp]) f _ (rdFld_mono hb0 hff') hff hc)
  clear hr F0 hb0 hff' hff hW0
  cases hok : fldOkB f with
  | false =>
    have HN := Lib.hid (fun W hW => hnone W hW (tanB_no hok))
    have F1 := Lib.hid (FOK.out false hok)
    clear hnone hok FOK hP
    go_enter Tryz.func9, Tryz.ntmps9
    go_wp2_with fail
    rw [← HW0.out]
    refine F1.out.mono ?_
    rintro e w1 ⟨rfl, hb1⟩
    have hc0 := cell_below hb1 HR.out.1
    have hc1 := cell_below hb1 HR.out.2.1
    have hf0 := (hb1.frozen (p := ⟨w.heap.size + 1, 0, none⟩) hsz).trans HR.out.2.2.1
    have hf1 := (hb1.frozen (p := ⟨w.heap.size + 1, 1, none⟩) hsz).trans HR.out.2.2.2
    have HB := Lib.hid (HB0.out.trans (hb1.mono HB0.out.size))
    clear hb1
    go_wp2
    exact bodyPost_ret (v := .tuple #[.agg #[.int .i64 0, .slice none 0 0], .bool false]) (by simp [results, Tryz.results9, go_sem, hc0, hc1]) rfl (HN.out _ ((HB.out.setCell (by simp) _).setCell (by simp) _))
  | true =>
    have F1 := Lib.hid (FOK.out true hok)
    obtain ⟨n, hdn, hpn, hn1, hn6, hparts⟩ := fldOk_parts hok
    have hlp : lp = n := by
      obtain ⟨ad', len', cap', he, hl', _⟩ := rdS_open hP
      injection he with e1 e2 e3
      omega
    subst hlp
    rw [hdn] at HF0 HW0 F1
    by_cases h2 : 6 < 2 * (lp : Int)
    · have HN := Lib.hid (fun W hW => hnone W hW (tanB_wide (by rw [hdn]; exact h2)))
      rw [hdn]
      clear hnone hok FOK hP hparts hpn
      go_enter Tryz.func9, Tryz.ntmps9
      clear hdn
      go_wp2_with fail
      rw [← HW0.out]
      refine F1.out.mono ?_
      rintro e w1 ⟨rfl, hb1⟩
      have hc0 := cell_below hb1 HR.out.1
      have hc1 := cell_below hb1 HR.out.2.1
      have hf0 := (hb1.frozen (p := ⟨w.heap.size + 1, 0, none⟩) hsz).trans HR.out.2.2.1
      have hf1 := (hb1.frozen (p := ⟨w.heap.size + 1, 1, none⟩) hsz).trans HR.out.2.2.2
      have hp0 := cell_below hb1 HF0.out.1
      have HB := Lib.hid (HB0.out.trans (hb1.mono HB0.out.size))
      have hw2 : IntKind.i64.wrap (2 * (lp : Int)) = 2 * (lp : Int) := IntWalk.i64_in _ (by omega)
      clear hb1
      go_wp2
      exact bodyPost_ret (v := .tuple #[.agg #[.int .i64 0, .slice none 0 0], .bool false]) (by simp [results, Tryz.results9, go_sem, hc0, hc1]) rfl (HN.out _ ((HB.out.setCell (by simp) _).setCell (by simp) _))
    have hn3 : lp ≤ 3 := by omega
    have HNO := Lib.hid hnone
    have HOK := Lib.hid hok
    have HDN := Lib.hid hdn
    have HPN := Lib.hid hpn
    have HPARTS := Lib.hid hparts
    have HPR := Lib.hid hP
    have HIF := Lib.hid hIf
    obtain ⟨j1, hj1, hw0, hw1, hw2⟩ := info_parts Tryz.info_mons
    obtain ⟨i0, hi, hz0, hz1, hz2⟩ := info_parts Tryz.info_mon
    rw [hdn]
    clear hnone hok FOK hP hparts hpn hIf h2
    go_enter Tryz.func9, Tryz.ntmps9
    clear hdn
    go_wp2_with fail
    rw [← HW0.out]
    refine F1.out.mono ?_
    rintro e w1 ⟨rfl, hb1⟩
    have hc0 := cell_below hb1 HR.out.1
    have hc1 := cell_below hb1 HR.out.2.1
    have hf0 := (hb1.frozen (p := ⟨w.heap.size + 1, 0, none⟩) hsz).trans HR.out.2.2.1
    have hf1 := (hb1.frozen (p := ⟨w.heap.size + 1, 1, none⟩) hsz).trans HR.out.2.2.2
    have hp0 := cell_below hb1 HF0.out.1
    have hp1 := cell_below hb1 HF0.out.2
    have hbw1 := HB0.out.trans (hb1.mono HB0.out.size)
    have hsz1 : w.heap.size + 1 < w1.heap.size := by have := hb1.size; omega
    have um2 : IntKind.i64.wrap (2 * (lp : Int)) = 2 * (lp : Int) := IntWalk.i64_in _ (by omega)
    have um3 : (2 * (lp : Int) ≤ 6) := by omega
    obtain ⟨W3, hW3⟩ : ∃ W, W = w1.alloc (.cells #[.int .i64 (2 * (lp : Int)), .slice none 0 0] 30) := ⟨_, rfl⟩
    have I0 := Lib.hid (fldInv_start (e1 := 24) (e2 := 56) (e := 3) hW3)
    have hb3 : Below w1.heap.size w1 W3 := hW3 ▸ (Below.refl _ _).alloc (Nat.le_refl _) _
    have HB3 := Lib.hid (hbw1.trans (hb3.mono hbw1.size))
    have HW3 := Lib.hid hW3
    have HRR := Lib.hid (show _ ∧ _ ∧ _ ∧ _ from ⟨hc0, hc1, hf0, hf1⟩)
    have HPP := Lib.hid (show _ ∧ _ from ⟨hp0, hp1⟩)
    have HB13 := Lib.hid hb3
    have SP := Lib.hid (fun (X : World) (hX : Only [w1.heap.size] W3 X) => show X.cell? ⟨w.heap.size, 0, none⟩ = some (.int .i64 (lp : Int)) ∧ X.cell? ⟨w.heap.size, 1, none⟩ = some (.slice adp lp cp) from ⟨cell_only hX (by simp; omega) (cell_below hb3 hp0), cell_only hX (by simp; omega) (cell_below hb3 hp1)⟩)
    have hp1a : (w1.alloc (.cells #[.int .i64 (2 * (lp : Int)), .slice none 0 0] 30)).cell? ⟨w.heap.size, 1, none⟩ = some (.slice adp lp cp) := by rw [← hW3]; exact cell_below hb3 hp1
    clear hb1 hbw1 hb3 hW3 hc0 hc1 hf0 hf1
    go_wp2
    rw [← HW3.out]
    clear hp0 hp1 hp1a
    go_loopw [30] (fun i wr => ∃ (k : Nat) (u : Value) (fs : List Nat), k ≤ lp ∧ i = .int .i64 k ∧ FldInv 24 56 3 W3 wr w1.heap.size (2 * (lp : Int)) u (tanW lp (f.parts.take k)) fs) (fun i _ => lp - (intOf i).toNat)
    case atStart => exact ⟨0, _, _, Nat.zero_le _, rfl, by simpa [tanW] using I0.out⟩
    case round =>
      obtain ⟨wk, rfl⟩ : ∃ W, W = wr := ⟨_, rfl⟩
      obtain ⟨k, u, fs0, hk, rfl, hI⟩ := hrel
      clear I0
      have hbk := hI.below HB3.out (by omega)
      by_cases hlt : k < lp
      case pos =>
        obtain ⟨bp, op, ad5, l5, c5, p, hady, hp, hc5, h51, h52, h53, h54, _⟩ := rdMss_get (rdMss_mono hbk HPR.out) hlt
        obtain ⟨hp12, hpm⟩ := HPARTS.out p (List.mem_of_getElem? hp)
        have hpp := SP.out wk hI.only
        have hp0 := hpp.1
        have hi1 := hI.c1
        have hfi1 := hI.f1
        have HI := Lib.hid hI
        have hkl : (tanW lp (f.parts.take k)).length = k := by rw [tanW_len, List.length_take]; have := HPN.out; omega
        obtain ⟨us, fs, hown, hone, hels, rfl, hnd⟩ := hI.own
        have HOWN := Lib.hid hown
        rw [hkl] at hown
        obtain ⟨adu, capu, rfl, hluc, hcum, _⟩ := row_open hown
        have HNU := Lib.hid hown
        have HONE := Lib.hid hone
        have HELS := Lib.hid hels
        have HND := Lib.hid hnd
        have HKL := Lib.hid hkl
        have HBK := Lib.hid hbk
        have hdr : Below wk.heap.size wk wk.drew := (Below.refl _ _).drew
        have hlw := World.block_lt_of_cell? _ _ hi1
        simp only at hlw
        have HSN := Lib.hid (tanW_next (n := lp) hp)
        have CL := Lib.hid (wide_neg (.slice ad5 l5 c5) p lp w.heap.size wk.drew (cell_below hdr hp0) (rdMs_mono hdr h54) hp12 (low_fine hpm) hn1 hn6)
        have HPS := Lib.hid (fun (wa w2 : World) (q : Value) (x : List MonZ) (f : List Nat) (gg capn : Nat) (hp : OwnMs 56 3 wa q x f) (hf : ∀ b ∈ f, wk.heap.size ≤ b) (hq : Below wk.heap.size wk wa)
            (hown1 : w2.ownsRow 0 24 1 (.slice (some ⟨gg, 0, none⟩) (k + 1) capn) (k + 1) (us.flatten ++ [q])) (hgrow : (wa.alloc (.cells #[q] 24)).grownBy w2 (Value.slice adu k capu).ownBlock) (hat : (Value.slice adu k capu).ownBlock = some gg ∨ gg = wa.heap.size + 1) =>
          FldInv.push HI.out HONE.out HELS.out HND.out HOWN.out HKL.out hp hf hq ((Below.refl _ _).alloc (Nat.le_refl _) _) hown1 hgrow (fun b hb => by
            simp [Value.ownBlock] at hb
            subst hb
            rcases hat with hat | hat
            · left; exact hat
            · right; rw [hat]; simp))
        have hp1 := hpp.2
        have hpe := h51
        subst hady
        clear hown hone hels hnd hkl hbk hI hp h51 h54 hp12 hpm hpp hpe
        go_wp2
        go_region_law (first | (refine step_append_lies _ (by rfl) _ _ _ (by rfl) 0 24 j1 _ 1 24 Tryz.underlying28 hj1 hw0 hw1 hw2 rfl (by omega) (.slice adu k capu) k _ (by rfl) (HNQ.out.alloc _) ⟨wa.heap.size, 0, none⟩ 1 1 [.slice adq lq capq] (by rfl) (by rfl) (World.news_of_block (cs := #[.slice adq lq capq]) (t := 24) (fr := (0, 0)) (heap_alloc_new wa _)) (by simp [Value.oneCell']) (by omega) (by unfold maxLen; omega) (by omega) (by simp) (wa.heap.size + 1) (by simp) ?_; intro gg capn w2 hown1 hgrow hat hlt1; obtain ⟨hcB, hfB, fp', hP⟩ := HPS.out wa w2 _ _ fp1 gg capn HOP.out HFP.out HRA.out hown1 hgrow hat; have HPP := Lib.hid hP; clear hP hown1 hgrow) | (go_simp; first | (go_at_call 47; (with_reducible refine (CL.out).mono ?_); rintro e wa ⟨p1, fp1, rfl, ⟨hop1, hsq⟩, hfp1, hba⟩; have hra := hdr.trans (hba.mono hdr.size); have hi1a := cell_below hra hi1; have hfi1a := (hra.frozen (p := ⟨w1.heap.size, 1, none⟩) hlw).trans hfi1; obtain ⟨adq, lq, capq, rfl⟩ := ownMs_open hop1; have hi1b := cell_below (w := wa) ((Below.refl _ _).alloc (Nat.le_refl _) (.cells #[.slice adq lq capq] 24)) hi1a; have HOP := Lib.hid hop1; have HFP := Lib.hid (show ∀ b ∈ fp1, wk.heap.size ≤ b from fun b hb => (by have h1 := hfp1 b hb; have h2 := hdr.size; omega)); have HRA := Lib.hid hra; have HNQ := Lib.hid (ownsRow_only HNU.out (Only.of_below (fp := []) hra) (by simp)); clear hop1 hfp1 hba hra hsq)))
        all_goals (
          go_wp2
          go_roundw
          case rel => exact ⟨k + 1, _, fp', by omega, by go_num, by rw [HSN.out]; exact HPP.out⟩
          case measure => simp [intOf]; omega)
      case neg =>
        obtain rfl : k = lp := by omega
        have htk : f.parts.take k = f.parts := List.take_of_length_le (by rw [HPN.out]; exact Nat.le_refl _)
        rw [htk] at hI
        have hpp := SP.out wk hI.only
        have hp1 := hpp.2
        have HI0 := Lib.hid (show FldInv 24 56 3 W3 wk w1.heap.size (2 * (k : Int)) u (tanW k f.parts ++ tanC k (f.parts.take 0)) fs0 from by simpa [tanC] using hI)
        clear hI hbk hpp htk
        go_wp2
        clear hp1
        go_loopw [46] (fun i wr => ∃ (q : Nat) (u : Value) (fs : List Nat), q ≤ k ∧ i = .int .i64 q ∧ FldInv 24 56 3 W3 wr w1.heap.size (2 * (k : Int)) u (tanW k f.parts ++ tanC k (f.parts.take q)) fs) (fun i _ => k - (intOf i).toNat)
        case atStart => exact ⟨0, _, _, Nat.zero_le _, rfl, HI0.out⟩
        case round =>
          obtain ⟨wz, rfl⟩ : ∃ W, W = wr := ⟨_, rfl⟩
          obtain ⟨q, u, fs0, hq, rfl, hI⟩ := hrel
          clear HI0
          have hbz := hI.below HB3.out (by omega)
          have hpp := SP.out wz hI.only
          by_cases hlt : q < k
          case neg =>
            obtain rfl : q = k := by omega
            have htk : f.parts.take q = f.parts := List.take_of_length_le (by rw [HPN.out]; exact Nat.le_refl _)
            rw [htk] at hI
            obtain ⟨adu, lu, cu, rfl⟩ := ownMss_slice hI.own
            have hE : tanR f = ⟨2 * (q : Int), tanW q f.parts ++ tanC q f.parts⟩ := by rw [tanR, HDN.out, HPN.out, tanP]
            have hrd : RdFld wz (.agg #[.int .i64 (2 * (q : Int)), .slice adu lu cu]) (tanR f) := by
              rw [hE]
              exact ⟨_, rfl, ⟨by show (-9223372036854775808 : Int) ≤ 2 * (q : Int); omega, by show 2 * (q : Int) ≤ 9223372036854775807; omega⟩, ownMss_rd hI.own⟩
            have hfit : ∀ p ∈ (tanR f).parts, ∀ m ∈ p, Fit_Mon m := fun p hp m hm => by
              rw [hE] at hp
              have := tanP_pows (n := q) (fun p hp => (HPARTS.out p hp).2) p hp m hm
              unfold Fit_Mon
              omega
            have hi0 := hI.c0
            have hi1 := hI.c1
            have hszz : w1.heap.size < wz.heap.size := World.block_lt_of_cell? _ _ hi0
            have hbz3 : Only [w1.heap.size] w1 wz := (Only.of_below HB13.out).trans hI.only
            have hc0 := cell_only hbz3 (by simp; omega) HRR.out.1
            have hc1 := cell_only hbz3 (by simp; omega) HRR.out.2.1
            have hf0 : wz.frozen? ⟨w.heap.size + 1, 0, none⟩ = false := (World.frozen?_of_block (hbz3.block _ hsz1 (by simp; omega))).trans HRR.out.2.2.1
            have hf1 : wz.frozen? ⟨w.heap.size + 1, 1, none⟩ = false := (World.frozen?_of_block (hbz3.block _ hsz1 (by simp; omega))).trans HRR.out.2.2.2
            have FO2 := Lib.hid (fun (c : Bool) (hc : fldOkB (tanR f) = c) => fldOk_eq (.agg #[.int .i64 (2 * (q : Int)), .slice adu lu cu]) (tanR f) wz hrd hfit hc)
            have HI := Lib.hid hI
            have HBZ := Lib.hid hbz
            have HE := Lib.hid hE
            have HCC := Lib.hid (show _ ∧ _ ∧ _ ∧ _ from ⟨hc0, hc1, hf0, hf1⟩)
            have hszw : w.heap.size + 1 < wz.heap.size := by omega
            clear hI hrd hfit hE htk hbz hpp hbz3 hc0 hc1 hf0 hf1
            cases hto : fldOkB (tanR f) with
            | false =>
              have F2 := Lib.hid (FO2.out false hto)
              have HB' := Lib.hid ((tanB_yes HOK.out).trans hto)
              clear hto FO2
              go_wp2_with fail
              refine F2.out.mono ?_
              rintro e w4 ⟨rfl, hb4⟩
              have hc0 := cell_below hb4 HCC.out.1
              have hc1 := cell_below hb4 HCC.out.2.1
              have hf0 := (hb4.frozen (p := ⟨w.heap.size + 1, 0, none⟩) hszw).trans HCC.out.2.2.1
              have hf1 := (hb4.frozen (p := ⟨w.heap.size + 1, 1, none⟩) hszw).trans HCC.out.2.2.2
              have HB4 := Lib.hid (HBZ.out.trans (hb4.mono HBZ.out.size))
              clear hb4 hi0 hi1
              go_wp2
              exact bodyPost_ret (v := .tuple #[.agg #[.int .i64 0, .slice none 0 0], .bool false]) (by simp [results, Tryz.results9, go_sem, hc0, hc1]) rfl (HNO.out _ ((HB4.out.setCell (by simp) _).setCell (by simp) _) HB'.out)
            | true =>
              have F2 := Lib.hid (FO2.out true hto)
              have HB' := Lib.hid ((tanB_yes HOK.out).trans hto)
              clear hto FO2
              go_wp2_with fail
              refine F2.out.mono ?_
              rintro e w4 ⟨rfl, hb4⟩
              have hc0 := cell_below hb4 HCC.out.1
              have hc1 := cell_below hb4 HCC.out.2.1
              have hf0 := (hb4.frozen (p := ⟨w.heap.size + 1, 0, none⟩) hszw).trans HCC.out.2.2.1
              have hf1 := (hb4.frozen (p := ⟨w.heap.size + 1, 1, none⟩) hszw).trans HCC.out.2.2.2
              have hi0 := cell_below hb4 hi0
              have hi1 := cell_below hb4 hi1
              have HB4 := Lib.hid (HBZ.out.trans (hb4.mono HBZ.out.size))
              have HBB4 := Lib.hid hb4
              clear hb4
              go_wp2
              refine bodyPost_ret (v := .tuple #[.agg #[.int .i64 (2 * (q : Int)), .slice adu lu cu], .bool true]) (by simp [results, Tryz.results9, go_sem, hc0, hc1]) rfl ?_
              rw [HB'.out]
              have hO2 : Only [w.heap.size + 1] w4 ((w4.setCell ⟨w.heap.size + 1, 0, none⟩ (.int .i64 (2 * (q : Int)))).setCell ⟨w.heap.size + 1, 1, none⟩ (.slice adu lu cu)) := ((Only.refl _ _).setCell (by simp) _).setCell (by simp) _
              have hs3 := HB3.out.size
              have hs13 := HB13.out.size
              refine ⟨_, fs0, rfl, ?_, fun b hb => ?_, (HB4.out.setCell (by simp) _).setCell (by simp) _⟩
              · rw [tanF_yes HB'.out, HE.out]
                refine ⟨_, rfl, ⟨by show (-9223372036854775808 : Int) ≤ 2 * (q : Int); omega, by show 2 * (q : Int) ≤ 9223372036854775807; omega⟩, ownMss_only (ownMss_only HI.out.own (Only.of_below (fp := []) HBB4.out) (by simp)) hO2 (fun b hb hm => ?_)⟩
                have := HI.out.new b hb
                simp at hm
                omega
              · have := HI.out.new b hb
                omega
          case pos =>
            obtain ⟨bp, op, ad5, l5, c5, p, hady, hp, hc5, h51, h52, h53, h54, _⟩ := rdMss_get (rdMss_mono hbz HPR.out) hlt
            obtain ⟨hp12, hpm⟩ := HPARTS.out p (List.mem_of_getElem? hp)
            have hp0 := hpp.1
            have hi1 := hI.c1
            have hfi1 := hI.f1
            have HI := Lib.hid hI
            have hkl : (tanW k f.parts ++ tanC k (f.parts.take q)).length = k + q := by rw [List.length_append, tanW_len, tanC_len, List.length_take]; have := HPN.out; omega
            obtain ⟨us, fs, hown, hone, hels, rfl, hnd⟩ := hI.own
            have HOWN := Lib.hid hown
            obtain ⟨kq, hkq⟩ : ∃ x, k + q = x := ⟨_, rfl⟩
            rw [hkq] at hkl
            have hkq6 : kq ≤ 6 := by omega
            rw [hkl] at hown
            obtain ⟨adu, capu, rfl, hluc, hcum, _⟩ := row_open hown
            have HNU := Lib.hid hown
            have HONE := Lib.hid hone
            have HELS := Lib.hid hels
            have HND := Lib.hid hnd
            have HKL := Lib.hid hkl
            have HBZ := Lib.hid hbz
            have hlw := World.block_lt_of_cell? _ _ hi1
            simp only at hlw
            have HSN := Lib.hid (tanC_next (n := k) hp)
            have HPS := Lib.hid (fun (wa w2 : World) (q' : Value) (x : List MonZ) (f' : List Nat) (gg capn : Nat) (hp : OwnMs 56 3 wa q' x f') (hf : ∀ b ∈ f', wz.heap.size ≤ b) (hq : Below wz.heap.size wz wa)
                (hown1 : w2.ownsRow 0 24 1 (.slice (some ⟨gg, 0, none⟩) (kq + 1) capn) (kq + 1) (us.flatten ++ [q'])) (hgrow : (wa.alloc (.cells #[q'] 24)).grownBy w2 (Value.slice adu kq capu).ownBlock) (hat : (Value.slice adu kq capu).ownBlock = some gg ∨ gg = wa.heap.size + 1) =>
              FldInv.push HI.out HONE.out HELS.out HND.out HOWN.out HKL.out hp hf hq ((Below.refl _ _).alloc (Nat.le_refl _) _) hown1 hgrow (fun b hb => by
                simp [Value.ownBlock] at hb
                subst hb
                rcases hat with hat | hat
                · left; exact hat
                · right; rw [hat]; simp))
            obtain ⟨W5, hW5⟩ : ∃ W, W = wz.alloc (.cells #[] 56) := ⟨_, rfl⟩
            have hb5 : Below wz.heap.size wz W5 := hW5 ▸ (Below.refl _ _).alloc (Nat.le_refl _) _
            have HQ0 := Lib.hid (show OwnMs 56 3 W5 (.slice (some ⟨wz.heap.size, 0, none⟩) 0 0) (tanQ k p 0) [wz.heap.size] from hW5 ▸ ⟨[], [], by simpa [tanQ] using World.ownsRow_lit (base := 0) (e := 56) (size := 2) wz #[] 0 (Nat.zero_le _) (Nat.zero_le _) rfl, by simp, rfl, rfl, by simp⟩)
            have HW5 := Lib.hid hW5
            have HB5 := Lib.hid hb5
            have HP12 := Lib.hid hp12
            have HPM := Lib.hid hpm
            have HRP := Lib.hid h54
            have HP0 := Lib.hid hp0
            have HI1 := Lib.hid hi1
            have HFI1 := Lib.hid hfi1
            have hp1 := hpp.2
            have hp0w : (wz.alloc (.cells #[] 56)).cell? ⟨w.heap.size, 0, none⟩ = some (.int .i64 (k : Int)) := by rw [← hW5]; exact cell_below hb5 hp0
            subst hady
            clear hown hone hels hnd hkl hbz hI hp h51 h54 hp12 hpm hpp hb5 hW5 hi1 hfi1
            go_wp2
            rw [← HW5.out]
            clear hp0w hp0 hp1 hc5
            go_loopw [10, 53] (fun u si wr => ∃ (j : Nat) (fs1 : List Nat), si = .int .i64 j ∧ j ≤ k ∧ SomeS u ∧ OwnMs 56 3 wr u (tanQ k p j) fs1 ∧ (∀ b ∈ fs1, wz.heap.size ≤ b) ∧ Below wz.heap.size wz wr) (fun _ si _ => k - (intOf si).toNat)
            case atStart => exact ⟨0, [wz.heap.size], rfl, Nat.zero_le _, someS _ _ _, HQ0.out, by simp, HB5.out⟩
            case round =>
              obtain ⟨wk, rfl⟩ : ∃ W, W = wr := ⟨_, rfl⟩
              obtain ⟨j, fs1, rfl, hj, hsu, ho, hf, hb⟩ := hrel
              clear HQ0 HB5 HW5
              obtain ⟨gu, lu, cu, rfl⟩ := hsu
              have hul : (tanQ k p j).length = lu := by
                obtain ⟨ad', len', cap', he, hl', _⟩ := rdS_open (ownMs_rd ho)
                injection he with e1 e2 e3
                omega
              have hlu : lu ≤ 36 := by
                have := tanQ_len (n := k) HP12.out j
                omega
              have hdr : Below wk.heap.size wk wk.drew := (Below.refl _ _).drew
              by_cases hltj : j < k
              case neg =>
                obtain rfl : j = k := by omega
                have hod : OwnMs 56 3 wk.drew (.slice (some ⟨gu, 0, none⟩) lu cu) (tanQ j p j) fs1 := ownMs_only ho (Only.of_below (fp := []) hdr) (by simp)
                have CO := Lib.hid (collect_any gu lu cu (tanQ j p j) fs1 wk.drew hod (by omega) (tanQ_nums HPM.out j))
                have hi1 := cell_below hb HI1.out
                have hbd : Below wz.heap.size wz wk.drew := hb.trans (hdr.mono hb.size)
                have HBD := Lib.hid hbd
                have HF := Lib.hid hf
                clear ho hod hul hf hb hbd hdr
                go_wp2
                go_region_law (first | (refine step_append_lies _ (by rfl) _ _ _ (by rfl) 0 24 j1 _ 1 24 Tryz.underlying28 hj1 hw0 hw1 hw2 rfl (by omega) (.slice adu kq capu) kq _ (by rfl) (HNQ.out.alloc _) ⟨wa.heap.size, 0, none⟩ 1 1 [.slice adq lq capq] (by rfl) (by rfl) (World.news_of_block (cs := #[.slice adq lq capq]) (t := 24) (fr := (0, 0)) (heap_alloc_new wa _)) (by simp [Value.oneCell']) (by omega) (by unfold maxLen; omega) (by omega) (by simp) (wa.heap.size + 1) (by simp) ?_; intro gg capn w2 hown1 hgrow hat hlt1; obtain ⟨hcB, hfB, fp', hP⟩ := HPS.out wa w2 _ _ fp1 gg capn HOP.out HFP.out HRA.out hown1 hgrow hat; have HPP := Lib.hid hP; clear hP hown1 hgrow) | (go_simp; first | (go_at_call 49; (with_reducible refine (CO.out).mono ?_); rintro e wa ⟨p1, fp1, rfl, hop1, hfp1, hba⟩; have hra := HBD.out.trans (hba.below HBD.out.size HF.out); have hi1a := cell_below hra HI1.out; have hfi1a := (hra.frozen (p := ⟨w1.heap.size, 1, none⟩) hlw).trans HFI1.out; obtain ⟨adq, lq, capq, rfl⟩ := ownMs_open hop1; have hi1b := cell_below (w := wa) ((Below.refl _ _).alloc (Nat.le_refl _) (.cells #[.slice adq lq capq] 24)) hi1a; have HOP := Lib.hid hop1; have HFP := Lib.hid (show ∀ b ∈ fp1, wz.heap.size ≤ b from fun b hb => (hfp1 b hb).elim (fun h => HF.out b h) (fun h => Nat.le_trans HBD.out.size h)); have HRA := Lib.hid hra; have HNQ := Lib.hid (ownsRow_only HNU.out (Only.of_below (fp := []) hra) (by simp)); clear hop1 hfp1 hba hra)))
                all_goals (
                  go_wp2
                  go_roundw
                  case rel => exact ⟨q + 1, _, fp', by omega, by go_num, by rw [HSN.out, ← List.append_assoc]; exact HPP.out⟩
                  case measure => simp [intOf]; omega)
              case pos =>
                have PA := Lib.hid (partial_any (.slice ad5 l5 c5) p j k wk.drew (rdMs_mono (hb.trans (hdr.mono hb.size)) HRP.out) HP12.out HPM.out hn6 hltj)
                have hp0k := cell_below hb HP0.out
                obtain ⟨us1, fsu, hown, hone, hels, rfl, hnd⟩ := ho
                have CLW := Lib.hid (fun (v1 : Value) (fp1 : List Nat) (w5 : World) (ho1 : OwnMs 56 3 w5 v1 (partL j 1 p) fp1) (hb1 : Below wk.heap.size wk w5) => wide_pos v1 (partL j 1 p) k (k + j) w.heap.size ((k : Int) + (j : Int)) w5 (by simp) (cell_below hb1 hp0k) (ownMs_rd ho1) (Nat.le_trans (partL_len _ _ _) HP12.out) (low_part HPM.out) hn1 hn6 (by omega))
                have HNX := Lib.hid (tanQ_next k p j)
                have HNL := Lib.hid (show (wideL k ((k : Int) + (j : Int)) (partL j 1 p)).length ≤ 12 from by rw [wideL_len]; exact Nat.le_trans (partL_len _ _ _) HP12.out)
                have HOWN1 := Lib.hid hown
                have HONE1 := Lib.hid hone
                have HELS1 := Lib.hid hels
                have HND1 := Lib.hid hnd
                have HF := Lib.hid hf
                have HB := Lib.hid hb
                have HUL := Lib.hid hul
                have um2 : IntKind.i64.wrap ((k : Int) + j) = (k : Int) + j := IntWalk.i64_in _ (by omega)
                clear hown hone hels hnd hf hb hul
                go_wp2
                go_region_law (first | (refine step_append_own_at _ (by rfl) _ _ _ (by rfl) 0 56 i0 _ 2 32 Tryz.underlying24 hi hz0 hz1 hz2 rfl (by omega) (.slice (some ⟨gu, 0, none⟩) lu cu) lu us1.flatten (by rfl) HOWNQ.out ⟨g4, 0, none⟩ l4 c4 us4.flatten (by rfl) HLF.out HNEWS.out HCELL.out (by unfold maxLen; omega) (by omega) (Nat.zero_le _) ?_; intro v' w' hown' hgrow' hat'; obtain ⟨f', hP1, hP2, hP3⟩ := HALLN.out v' w' hown' hgrow' hat'; have HPP := Lib.hid hP1; have hSS : SomeS v' := (hat'.elim (fun h => someS_own hown' (h.trans rfl)) (fun h => someS_own hown' h)); obtain ⟨gn, ln, cn, rfl⟩ := hSS; clear hown' hgrow' hat' hP1) | (go_simp; first | (go_at_call 45; (with_reducible refine (PA.out).mono ?_); rintro e w5 ⟨v5, fp5, rfl, ho5, hf5, hb5⟩; have hr5 := hdr.trans (hb5.mono hdr.size); have hp05 := cell_below hr5 hp0k; have CL5 := Lib.hid (CLW.out v5 fp5 w5 ho5 hr5); obtain ⟨ad3, l3, c3, rfl⟩ := ownMs_open ho5; have HB5 := Lib.hid hr5; clear ho5 hf5 hb5 hr5) | (go_at_call 47; (with_reducible refine (CL5.out).mono ?_); rintro e w4 ⟨v4, fp4, rfl, ⟨ho4, g4, l4, c4, rfl⟩, hf4, hb4⟩; obtain ⟨us4, fs4, hown4, hone4, hels4, rfl, hnd4⟩ := ho4; have hul4 : (wideL k ((k : Int) + (j : Int)) (partL j 1 p)).length = l4 := (by obtain ⟨ad', cap', he, _, _, _⟩ := row_open hown4; injection he with e1 e2 e3; exact e2.symm); rw [hul4] at hown4; have hbk4 := HB5.out.trans (hb4.mono HB5.out.size); have hp06 := cell_below hbk4 hp0k; obtain ⟨hnews, hcell⟩ := ms_news hown4 ⟨_, hels4⟩; have HNEWS := Lib.hid hnews; have HCELL := Lib.hid hcell; have hl4 : l4 ≤ 12 := (by have := HNL.out; omega); have HLF := Lib.hid (show us4.flatten.length = l4 * 2 from hown4.1); have HOWNQ := Lib.hid (show w4.ownsRow 0 56 2 (.slice (some ⟨gu, 0, none⟩) lu cu) lu us1.flatten from (by have h1 := ownsRow_only HOWN1.out (Only.of_below (fp := []) hbk4) (by simp); rwa [HUL.out] at h1)); have HALLN := Lib.hid (fun (v' : Value) (w' : World) (hown' : w'.ownsRow 0 56 2 v' (lu + l4) (us1.flatten ++ us4.flatten)) (hg : w4.grownBy w' (Value.slice (some ⟨gu, 0, none⟩) lu cu).ownBlock) (hv : v'.ownBlock = (Value.slice (some ⟨gu, 0, none⟩) lu cu).ownBlock ∨ v'.ownBlock = some w4.heap.size) => ownMs_all (W := wz) HONE1.out HELS1.out HND1.out HOWN1.out HUL.out hone4 hels4 (List.nodup_append.1 hnd4).2.1 hul4 (fun b hb => (by have h1 := hf4 b (by rw [List.mem_append]; right; exact hb); have h2 := HB5.out.size; omega)) HF.out HB.out hbk4 hown' hg hv); clear hown4 hone4 hels4 hnd4 hul4 hnews hcell hf4 hb4 hbk4)))
                all_goals (
                  go_wp2
                  go_roundw
                  case rel => exact ⟨j + 1, f', by go_num, by omega, someS _ _ _, by rw [HNX.out]; exact HPP.out, hP2, hP3⟩
                  case measure => (simp [intOf]; try omega))
end Go.Proofs.YtbcjhpgkodeoeaaGreatDoor
