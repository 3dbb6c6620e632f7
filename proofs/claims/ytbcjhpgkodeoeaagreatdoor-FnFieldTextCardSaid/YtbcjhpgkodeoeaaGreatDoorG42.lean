/- Fields read from texts: the program. Conditions: texts of at most a million bytes. -/
import Derived.Test.YtbcjhpgkodeoeaaGreatDoorG41
import Derived.Test.YtbcjhpgkodeoeaaGreatDoorG03
import Derived.Test.YtbcjhpgkodeoeaaGreatDoorG37
set_option linter.unusedSimpArgs false
set_option linter.unusedVariables false

namespace Go.Proofs.YtbcjhpgkodeoeaaGreatDoor
open Go.RowKit Go.Sort

theorem ownMs_add {e2 e : Nat} {wr wq w1 w2 : World} {v v' p : Value} {xs : List MonZ} {m : MonZ} {f : List Nat} {us : List (List Value)} {fs : List Nat} {n : Nat}
    (hone : ∀ u ∈ us, u.length = 2) (hels : OwnEls (OElMon e) wr us xs fs) (hnd : (v.ownBlock.toList ++ fs).Nodup) (hown0 : wr.ownsRow 0 e2 2 v xs.length us.flatten) (hn : xs.length = n)
    (hp : OwnI e wq p m.pows f) (hI : I64 m.coef) (hf : ∀ b ∈ f, wr.heap.size ≤ b) (hq : Below wr.heap.size wr wq)
    (h1 : Below wq.heap.size wq w1) (hown : w2.ownsRow 0 e2 2 v' (n + 1) (us.flatten ++ [.int .i64 m.coef, p])) (hg : w1.grownBy w2 v.ownBlock) (hv : ∀ b, v'.ownBlock = some b → v.ownBlock = some b ∨ w1.heap.size ≤ b) :
    ∃ fp', OwnMs e2 e w2 v' (xs ++ [m]) fp' ∧ (∀ b ∈ fp', b ∈ v.ownBlock.toList ++ fs ∨ b ∈ f ∨ w1.heap.size ≤ b) ∧ Only v.ownBlock.toList wq w2 := by
  have hlt : ∀ b ∈ v.ownBlock.toList ++ fs, b < wr.heap.size := fun b hb => by
    simp only [List.mem_append, Option.mem_toList] at hb
    rcases hb with hb | hb
    · exact (hown0.lt b hb).2
    · exact ownEls_lt (fun _ _ _ h => oelMon_lt h) hels b hb
  exact ownS_push2 (El := OElMon e) (w := wq) (w1 := w1) (f := f) (fs := fs) (fun w w' u x f g h ho hd => oelMon_only h ho hd) hone (ownEls_only (fun u x f' h hd => oelMon_only h (Only.of_below (fp := []) hq) hd) hels (by simp)) hnd ⟨p, rfl, hI, hp⟩ rfl
    (fun b hb hm => by have := hf b hb; have := hlt b hm; omega) (ownI_nodup hp) (ownI_lt hp) (fun b hb => by have := hlt b (by simp [hb]); have := hq.size; omega) hn h1 hown hg hv
theorem map_next {α β : Type} (f : α → β) {xs : List α} {k : Nat} {x : α} (h : xs[k]? = some x) : (xs.take (k + 1)).map f = (xs.take k).map f ++ [f x] := by
  rw [take_snoc h, List.map_append]; rfl
theorem iMon_pows (d : Nat) (t : List UInt8) : (iMon d t).pows.length = d := by rw [iMon]; show (powsW _ _ _).length = d; rw [powsW_len, List.length_replicate]
theorem iFld_fit (l : List UInt8) (h6 : (semiS l).length ≤ 6) : ∀ p ∈ (iFld l).parts, ∀ m ∈ p, Fit_Mon m := by
  intro p hp m hm
  obtain ⟨t, _, rfl⟩ := List.mem_map.1 hp
  unfold iPart at hm
  split at hm
  · cases hm
  · obtain ⟨x, _, rfl⟩ := List.mem_map.1 hm
    unfold Fit_Mon
    rw [iMon_pows]
    omega
theorem parF_no {l : List UInt8} (h : parB l = false) : parF l = ⟨0, []⟩ := by rw [parF, h]; rfl
theorem parF_yes {l : List UInt8} (h : parB l = true) : parF l = sFld l := by rw [parF, if_pos h]
theorem FldInv.step {e1 e2 e : Nat} {W w w2 : World} {Bf : Nat} {dim : Int} {v : Value} {xs : List (List MonZ)} {fs : List Nat} (h : FldInv e1 e2 e W w Bf dim v xs fs) (hb : Below w.heap.size w w2) : FldInv e1 e2 e W w2 Bf dim v xs fs :=
  ⟨ownMss_only h.own (Only.of_below (fp := []) hb) (by simp), h.new, h.only.trans (Only.of_below hb), cell_below hb h.c0, cell_below hb h.c1, (hb.frozen (p := ⟨Bf, 1, none⟩) (World.block_lt_of_cell? _ _ h.c1)).trans h.f1, h.lt⟩
abbrev GivesPar (l : List UInt8) (w : World) : Ending → World → Prop := Gives2 (fun w' v fp => OwnFld 24 56 3 w' v (parF l) fp) (parB l) w

set_option maxRecDepth 100000 in
set_option maxHeartbeats 6400000 in
theorem parse_any (l : List UInt8) (s : ByteArray) (hs : s = ByteArray.mk l.toArray) (hl : l.length ≤ 1048576) (w : World) (hm : MaxCell w) :
    Calls Tryz.prog 29 #[.string s] w (GivesPar l w) := by
  obtain ⟨W0, hW0⟩ : ∃ W, W = w.alloc (.cells #[.int .i64 0, .slice none 0 0] 30) := ⟨_, rfl⟩
  have hb0 : Below w.heap.size w W0 := hW0 ▸ (Below.refl _ _).alloc (Nat.le_refl _) _
  have HB0 := Lib.hid hb0
  have HW0 := Lib.hid hW0
  have hsz : w.heap.size < W0.heap.size := by rw [hW0]; simp
  have HR := Lib.hid (show W0.cell? ⟨w.heap.size, 0, none⟩ = some (.int .i64 0) ∧ W0.cell? ⟨w.heap.size, 1, none⟩ = some (.slice none 0 0) ∧ W0.frozen? ⟨w.heap.size, 0, none⟩ = false ∧ W0.frozen? ⟨w.heap.size, 1, none⟩ = false from by rw [hW0]; refine ⟨?_, ?_, ?_, ?_⟩ <;> simp)
  have SP := Lib.hid (show Calls Tryz.prog 87 #[.string s, .string ⟨#[59, 32]⟩] W0 (Words W0 (semiS l)) from split_any l [59, 32] s _ hs rfl hl (by decide) W0 (maxCell_mono hb0 hm))
  have HMX := Lib.hid hm
  have HL := Lib.hid hl
  have HS := Lib.hid hs
  have hnone : ∀ W, Below w.heap.size w W → parB l = false → GivesPar l w (.returned (.tuple #[.agg #[.int .i64 0, .slice none 0 0], .bool false])) W := by
    intro W hW hd
    unfold GivesPar
    rw [hd]
    refine ⟨_, [], rfl, ?_, by simp, hW⟩
    rw [parF_no hd]
    exact ⟨_, rfl, ⟨(by decide : (-9223372036854775808 : Int) ≤ 0), (by decide : (0 : Int) ≤ 9223372036854775807)⟩, [], [], World.ownsRow_nil _ _ _ _, by simp, rfl, rfl, by simp⟩
  have HNO := Lib.hid hnone
  clear hs hW0 hb0 hm hnone
  obtain ⟨i0, hi, hz0, hz1, hz2⟩ := info_parts Tryz.info_mon
  obtain ⟨j1, hj1, hw0, hw1, hw2⟩ := info_parts Tryz.info_mons
  go_enter Tryz.func29, Tryz.ntmps29
  go_wp2_with fail
  rw [← HW0.out]
  refine SP.out.mono ?_
  rintro e w1 ⟨g, cap, m, rfl, hR⟩
  have hpm := hR.len
  have hm1 : 1 ≤ m := by have := semi_pos l; omega
  have hmb : m ≤ 1048580 := by
    have h1 := split_len l [59, 32]
    have h2 := HL.out
    unfold semiS at hpm
    omega
  obtain ⟨W3, hW3⟩ : ∃ W, W = w1.alloc (.cells #[.int .i64 (m : Int), .slice none 0 0] 30) := ⟨_, rfl⟩
  have hb3 : Below w1.heap.size w1 W3 := hW3 ▸ (Below.refl _ _).alloc (Nat.le_refl _) _
  have hbw1 := HB0.out.trans (hR.below.mono HB0.out.size)
  have HBW1 := Lib.hid hbw1
  have I0 := Lib.hid (fldInv_start (e1 := 24) (e2 := 56) (e := 3) hW3)
  have HB3 := Lib.hid (hbw1.trans (hb3.mono hbw1.size))
  have HB13 := Lib.hid hb3
  have HW3 := Lib.hid hW3
  have HRR := Lib.hid hR
  have HPM := Lib.hid hpm
  have hgl : g < w1.heap.size := (hR.row.lt g (by simp [Value.ownBlock])).2
  have hsz1 : w.heap.size < w1.heap.size := by have := hR.below.size; omega
  -- what stays as it was: the result's own cells, the row of parts, the library's variable
  have SX := Lib.hid (fun (X : World) (hX : Only [w1.heap.size] W3 X) => show X.cell? ⟨w.heap.size, 0, none⟩ = some (.int .i64 0) ∧ X.cell? ⟨w.heap.size, 1, none⟩ = some (.slice none 0 0) ∧ X.frozen? ⟨w.heap.size, 0, none⟩ = false ∧ X.frozen? ⟨w.heap.size, 1, none⟩ = false from by
    have hb01 := HRR.out.below
    have hsz3 : w.heap.size < W3.heap.size := by have := hb3.size; omega
    refine ⟨cell_only hX (by simp; omega) (cell_below hb3 (cell_below hb01 HR.out.1)), cell_only hX (by simp; omega) (cell_below hb3 (cell_below hb01 HR.out.2.1)), ?_, ?_⟩
    · exact (World.frozen?_of_block (hX.block _ hsz3 (by simp; omega))).trans ((hb3.frozen (p := ⟨w.heap.size, 0, none⟩) hsz1).trans ((hb01.frozen (p := ⟨w.heap.size, 0, none⟩) hsz).trans HR.out.2.2.1))
    · exact (World.frozen?_of_block (hX.block _ hsz3 (by simp; omega))).trans ((hb3.frozen (p := ⟨w.heap.size, 1, none⟩) hsz1).trans ((hb01.frozen (p := ⟨w.heap.size, 1, none⟩) hsz).trans HR.out.2.2.2)))
  have SG := Lib.hid (fun (X : World) (hX : Only [w1.heap.size] W3 X) (k : Nat) (x : List UInt8) (y : ByteArray) (hx : (semiS l)[k]? = some x) (hy : y = ByteArray.mk x.toArray) => show X.cell? ⟨g, k, none⟩ = some (.string y) from cell_only hX (by simp; omega) (cell_below hb3 (HRR.out.at hx hy)))
  have SM := Lib.hid (fun (X : World) (hX : Only [w1.heap.size] W3 X) => show MaxCell X from by
    obtain ⟨mm, hmm⟩ := HMX.out
    have hgw := World.block_lt_of_cell? _ _ hmm
    have hs1 := HBW1.out.size
    exact ⟨mm, cell_only hX (by simp at hgw ⊢; omega) (cell_below HB3.out hmm)⟩)
  have SD := Lib.hid (fun (X : World) (hX : Only [w1.heap.size] W3 X) => show Below w.heap.size w X from HB3.out.trans (hX.below HB3.out.size (by intro b hb; simp at hb; omega)))
  have hc30 : W3.cell? ⟨w1.heap.size, 0, none⟩ = some (.int .i64 (m : Int)) := by rw [hW3]; simp
  have hO3 := Only.refl [w1.heap.size] W3
  clear hR hpm hb3 hbw1 hW3
  go_wp2_with fail
  rw [← HW3.out]
  by_cases h6 : 6 < m
  · refine (isDim_eq (show dimB (m : Int) = false from by unfold dimB; rw [decide_eq_false_iff_not]; omega) _).mono ?_
    rintro e w' ⟨rfl, rfl⟩
    have HN := Lib.hid (fun W hW => HNO.out W hW (parB_dim (by rw [HPM.out]; exact h6)))
    obtain ⟨hr0, hr1, hf0, hf1⟩ := SX.out _ hO3
    have HD := Lib.hid (SD.out _ hO3)
    clear hc30
    go_wp2
    exact bodyPost_ret (v := .tuple #[.agg #[.int .i64 0, .slice none 0 0], .bool false]) (by simp [results, Tryz.results29, go_sem, hr0, hr1]) rfl (HN.out _ ((HD.out.setCell (Nat.le_refl _) _).setCell (Nat.le_refl _) _))
  refine (isDim_eq (show dimB (m : Int) = true from by unfold dimB; rw [decide_eq_true_eq]; omega) _).mono ?_
  rintro e w' ⟨rfl, rfl⟩
  have hm6 : m ≤ 6 := by omega
  clear hc30 hO3
  go_wp2
  go_loopw [25] (fun si wr => ∃ (k : Nat) (u : Value) (fs : List Nat), si = .int .i64 k ∧ k ≤ m ∧ FldInv 24 56 3 W3 wr w1.heap.size (m : Int) u (((semiS l).take k).map (iPart m)) fs ∧ ∀ p ∈ (semiS l).take k, iPartB m p = true) (fun si _ => m - (intOf si).toNat)
  case atStart => exact ⟨0, _, _, rfl, Nat.zero_le _, by simpa using I0.out, by simp⟩
  case round =>
    obtain ⟨wz, rfl⟩ : ∃ W, W = wr := ⟨_, rfl⟩
    obtain ⟨k, u, fs0, rfl, hk, hI, hall⟩ := hrel
    clear I0
    have hO := hI.only
    have HO := Lib.hid hO
    have HALL := Lib.hid hall
    by_cases hlt : k < m
    case neg =>
      obtain rfl : k = m := by omega
      have htk : (semiS l).take k = semiS l := List.take_of_length_le (by rw [HPM.out]; exact Nat.le_refl _)
      rw [htk] at hI hall
      obtain ⟨adu, lu, cu, rfl⟩ := ownMss_slice hI.own
      have hE : iFld l = ⟨(k : Int), (semiS l).map (iPart k)⟩ := by rw [iFld, HPM.out]
      have hrd : RdFld wz (.agg #[.int .i64 (k : Int), .slice adu lu cu]) (iFld l) := by
        rw [hE]
        exact ⟨_, rfl, ⟨by show (-9223372036854775808 : Int) ≤ (k : Int); omega, by show (k : Int) ≤ 9223372036854775807; omega⟩, ownMss_rd hI.own⟩
      obtain ⟨hq1, hq2⟩ := par_same (l := l) (by rw [HPM.out]; exact hm6) (by rw [HPM.out]; exact hall)
      obtain ⟨x, hx⟩ : ∃ x, txt (fldT (iFld l)) = .string x := ⟨_, rfl⟩
      have F1 := Lib.hid (show Calls Tryz.prog 30 #[.agg #[.int .i64 (k : Int), .slice adu lu cu]] wz fun e w' => e = .returned (.string x) ∧ Below wz.heap.size wz w' from hx ▸ fmtFld_any _ (iFld l) wz hrd (iFld_fit l (by rw [HPM.out]; exact hm6)))
      have hcmp : (x.toList == s.toList) = parB l := by
        rw [← hq1]
        unfold txt at hx
        injection hx with hx
        rw [← hx, HS.out, ByteArray.toList_mk, ByteArray.toList_mk, Bool.eq_iff_iff, beq_iff_eq, decide_eq_true_eq]
      have hi0 := hI.c0
      have hi1 := hI.c1
      have HI := Lib.hid hI
      have HE := Lib.hid hE
      have HQ := Lib.hid hq2
      clear hI hrd hE hx hq1 hq2 htk hall
      cases hpb : parB l with
      | false =>
        rw [hpb] at hcmp
        have HN := Lib.hid (fun W hW => HNO.out W hW hpb)
        clear hpb
        go_wp2_with fail
        refine F1.out.mono ?_
        rintro e w4 ⟨rfl, hb4⟩
        have hO4 := HO.out.trans (Only.of_below hb4)
        obtain ⟨hr0, hr1, hf0, hf1⟩ := SX.out _ hO4
        have HD := Lib.hid (SD.out _ hO4)
        clear hb4 hO4 hi0 hi1 hO
        go_wp2
        exact bodyPost_ret (v := .tuple #[.agg #[.int .i64 0, .slice none 0 0], .bool false]) (by simp [results, Tryz.results29, go_sem, hr0, hr1]) rfl (HN.out _ ((HD.out.setCell (Nat.le_refl _) _).setCell (Nat.le_refl _) _))
      | true =>
        rw [hpb] at hcmp
        have HPB := Lib.hid hpb
        clear hpb
        go_wp2_with fail
        refine F1.out.mono ?_
        rintro e w4 ⟨rfl, hb4⟩
        have hO4 := HO.out.trans (Only.of_below hb4)
        obtain ⟨hr0, hr1, hf0, hf1⟩ := SX.out _ hO4
        have HD := Lib.hid (SD.out _ hO4)
        have HI4 := Lib.hid (HI.out.step hb4)
        have hi0 := cell_below hb4 hi0
        have hi1 := cell_below hb4 hi1
        clear hb4 hO4 hO
        go_wp2
        refine bodyPost_ret (v := .tuple #[.agg #[.int .i64 (k : Int), .slice adu lu cu], .bool true]) (by simp [results, Tryz.results29, go_sem, hr0, hr1]) rfl ?_
        show Gives2 _ (parB l) w _ _
        rw [HPB.out]
        have hO2 : Only [w.heap.size] w4 ((w4.setCell ⟨w.heap.size, 0, none⟩ (.int .i64 (k : Int))).setCell ⟨w.heap.size, 1, none⟩ (.slice adu lu cu)) := ((Only.refl _ _).setCell (by simp) _).setCell (by simp) _
        have hs3 := HB3.out.size
        have hs13 := HB13.out.size
        refine ⟨_, fs0, rfl, ?_, fun b hb => ?_, (HD.out.setCell (Nat.le_refl _) _).setCell (Nat.le_refl _) _⟩
        · rw [parF_yes HPB.out, ← HQ.out HPB.out, HE.out]
          refine ⟨_, rfl, ⟨by show (-9223372036854775808 : Int) ≤ (k : Int); omega, by show (k : Int) ≤ 9223372036854775807; omega⟩, ownMss_only HI4.out.own hO2 (fun b hb hm => ?_)⟩
          have := HI4.out.new b hb
          simp at hm
          omega
        · have := HI4.out.new b hb
          omega
    case pos =>
      obtain ⟨pt, hpt⟩ : ∃ x, (semiS l)[k]? = some x := ⟨_, List.getElem?_eq_getElem (by rw [HPM.out]; exact hlt)⟩
      obtain ⟨y, hy⟩ : ∃ y, y = ByteArray.mk pt.toArray := ⟨_, rfl⟩
      have hcy := SG.out wz hO k pt y hpt hy
      have hptl : pt.length ≤ 1048576 := split_small (by simp) _ l HL.out pt (List.mem_of_getElem? hpt)
      have hi0 := hI.c0
      have hi1 := hI.c1
      have hfi1 := hI.f1
      have HI := Lib.hid hI
      have HI0 := Lib.hid hi0
      have HI1 := Lib.hid hi1
      have HFI1 := Lib.hid hfi1
      have hkl : (((semiS l).take k).map (iPart m)).length = k := by rw [List.length_map, List.length_take, HPM.out]; omega
      obtain ⟨us, fs, hown, hone, hels, rfl, hnd⟩ := hI.own
      have HOWN := Lib.hid hown
      rw [hkl] at hown
      obtain ⟨adu, capu, rfl, hluc, hcum, _⟩ := row_open hown
      have HNU := Lib.hid hown
      have HONE := Lib.hid hone
      have HELS := Lib.hid hels
      have HND := Lib.hid hnd
      have HKL := Lib.hid hkl
      have hlw := World.block_lt_of_cell? _ _ hi1
      simp only at hlw
      have HSN := Lib.hid (map_next (iPart m) hpt)
      have HTK := Lib.hid (take_snoc hpt)
      have HPT := Lib.hid hpt
      have HPS := Lib.hid (fun (wa w2 : World) (q' : Value) (x : List MonZ) (f' : List Nat) (gg capn : Nat) (hp : OwnMs 56 3 wa q' x f') (hf : ∀ b ∈ f', wz.heap.size ≤ b) (hq : Below wz.heap.size wz wa)
          (hown1 : w2.ownsRow 0 24 1 (.slice (some ⟨gg, 0, none⟩) (k + 1) capn) (k + 1) (us.flatten ++ [q'])) (hgrow : (wa.alloc (.cells #[q'] 24)).grownBy w2 (Value.slice adu k capu).ownBlock) (hat : (Value.slice adu k capu).ownBlock = some gg ∨ gg = wa.heap.size + 1) =>
        FldInv.push HI.out HONE.out HELS.out HND.out HOWN.out HKL.out hp hf hq ((Below.refl _ _).alloc (Nat.le_refl _) _) hown1 hgrow (fun b hb => by
          simp [Value.ownBlock] at hb
          subst hb
          rcases hat with hat | hat
          · left; exact hat
          · right; rw [hat]; simp))
      have HQ0 := Lib.hid (show OwnMs 56 3 (wz.alloc (.cells #[] 56)) (.slice (some ⟨wz.heap.size, 0, none⟩) 0 0) [] [wz.heap.size] from ⟨[], [], by simpa using World.ownsRow_lit (base := 0) (e := 56) (size := 2) wz #[] 0 (Nat.zero_le _) (Nat.zero_le _) rfl, by simp, rfl, rfl, by simp⟩)
      have HB5 := Lib.hid (show Below wz.heap.size wz (wz.alloc (.cells #[] 56)) from (Below.refl _ _).alloc (Nat.le_refl _) _)
      have hdec : (y.toList == [48]) = decide (pt = [48]) := by rw [hy, ByteArray.toList_mk, Bool.eq_iff_iff, beq_iff_eq, decide_eq_true_eq]
      have hdec2 : (y.toList == (ByteArray.mk #[48]).toList) = decide (pt = [48]) := by rw [← hdec, show (ByteArray.mk #[48]).toList = [48] from ByteArray.toList_mk [48]]
      have HY := Lib.hid hy
      clear hown hone hels hnd hkl hI hpt hall hy
      by_cases h48 : pt = [48]
      · rw [decide_eq_true h48] at hdec hdec2
        have HALN := Lib.hid (show ∀ p ∈ (semiS l).take (k + 1), iPartB m p = true from fun p hp => by
          rw [HTK.out, List.mem_append, List.mem_singleton] at hp
          rcases hp with hp | rfl
          · exact HALL.out p hp
          · rw [iPartB, decide_eq_true h48]; rfl)
        have HOP := Lib.hid (show OwnMs 56 3 (wz.alloc (.cells #[] 56)) (.slice (some ⟨wz.heap.size, 0, none⟩) 0 0) (iPart m pt) [wz.heap.size] from by rw [iPart, if_pos h48]; exact HQ0.out)
        have HFP := Lib.hid (show ∀ b ∈ [wz.heap.size], wz.heap.size ≤ b from by simp)
        have HRA := HB5
        have HNQ := Lib.hid (ownsRow_only HNU.out (Only.of_below (fp := []) HB5.out) (by simp))
        have hi1a := cell_below HB5.out hi1
        have hfi1a := (HB5.out.frozen (p := ⟨w1.heap.size, 1, none⟩) hlw).trans hfi1
        have hi1b := cell_below ((Below.refl _ _).alloc (Nat.le_refl _) (.cells #[.slice (some ⟨wz.heap.size, 0, none⟩) 0 0] 24)) hi1a
        have hszE : (wz.alloc (.cells #[] 56)).heap.size = wz.heap.size + 1 := by simp
        clear h48 HQ0
        go_wp2_with (first | (at_builtin; refine wpList_append_lies _ rfl _ _ _ rfl 0 24 j1 _ 1 24 Tryz.underlying28 hj1 hw0 hw1 hw2 rfl (by omega) (.slice adu k capu) k _ (by rfl) (HNQ.out.alloc _) ⟨(wz.heap.size + 1), 0, none⟩ 1 1 [(.slice (some ⟨wz.heap.size, 0, none⟩) 0 0)] (by rfl) (by rfl) (World.news_of_block (cs := #[(.slice (some ⟨wz.heap.size, 0, none⟩) 0 0)]) (t := 24) (fr := (0, 0)) (by rw [← hszE]; exact heap_alloc_new _ _)) (by simp [Value.oneCell']) (by omega) (by unfold maxLen; omega) (by omega) (by simp) ((wz.heap.size + 1) + 1) (by simp) ?_; intro gg capn w8 hown1 hgrow hat hlt1; obtain ⟨hcB, hfB, fp', hP⟩ := HPS.out (wz.alloc (.cells #[] 56)) w8 _ _ _ gg capn HOP.out HFP.out HRA.out hown1 hgrow (hat.imp id (fun h => by rw [h, hszE])); have HPP := Lib.hid hP; clear hP hown1 hgrow))
        go_roundw
        case rel => exact ⟨k + 1, _, fp', by go_num, by omega, by rw [HSN.out]; exact HPP.out, HALN.out⟩
        case measure => simp [intOf]; omega
      · rw [decide_eq_false h48] at hdec hdec2
        have hbE := HB5.out
        have SP2 := Lib.hid (split_any pt [32, 43, 32] y ⟨#[32, 43, 32]⟩ HY.out rfl hptl (by decide) (wz.alloc (.cells #[] 56)) (maxCell_mono hbE (SM.out wz hO)))
        have HPTL := Lib.hid hptl
        have H48 := Lib.hid h48
        clear h48 hptl hbE
        go_wp2_with fail
        refine SP2.out.mono ?_
        rintro e w5 ⟨g2, cap2, q, rfl, hR2⟩
        have hqm := hR2.len
        have hqb : q ≤ 1048580 := by
          have h1 := split_len pt [32, 43, 32]
          have h2 := HPTL.out
          omega
        have HRQ := Lib.hid hR2
        have hg2l : g2 < w5.heap.size := (hR2.row.lt g2 (by simp [Value.ownBlock])).2
        have hg2z : wz.heap.size < g2 := by
          obtain ⟨_, _, hv9, hg9⟩ := hR2.shape
          simp only [Value.slice.injEq, Option.some.injEq, Addr.mk.injEq, and_true] at hv9
          have : (wz.alloc (.cells #[] 56)).heap.size = wz.heap.size + 1 := by simp
          omega
        have HQM := Lib.hid (show (plusS pt).length = q from hqm)
        have HB55 := Lib.hid (HB5.out.trans (hR2.below.mono HB5.out.size))
        have HP1 := Lib.hid (show OwnMs 56 3 w5 (.slice (some ⟨wz.heap.size, 0, none⟩) 0 0) (((plusS pt).take 0).map (iMon m)) [wz.heap.size] from ownMs_only HQ0.out (Only.of_below (fp := []) hR2.below) (by simp))
        clear hR2 hqm HQ0 hi0 hi1 hfi1 hcy
        go_wp2
        go_loopw [8, 35] (fun u si wr => ∃ (j gu cu : Nat) (fs1 : List Nat), u = .slice (some ⟨gu, 0, none⟩) j cu ∧ si = .int .i64 j ∧ j ≤ q ∧ OwnMs 56 3 wr u (((plusS pt).take j).map (iMon m)) fs1 ∧ (∀ b ∈ fs1, wz.heap.size ≤ b) ∧ ((plusS pt).take j).all (iMonB m) = true ∧ Below wz.heap.size wz wr ∧ g2 ∉ fs1 ∧ (g2 < wr.heap.size ∧ ∀ (jj : Nat) (x : List UInt8) (y : ByteArray), (plusS pt)[jj]? = some x → y = ByteArray.mk x.toArray → wr.cell? ⟨g2, jj, none⟩ = some (.string y))) (fun _ si _ => q - (intOf si).toNat)
        case atStart => exact ⟨0, _, _, _, rfl, rfl, Nat.zero_le _, HP1.out, by simp, rfl, HB55.out, by simp; omega, hg2l, fun jj x y hx hy => HRQ.out.at hx hy⟩
        case round =>
          obtain ⟨wk, rfl⟩ : ∃ W, W = wr := ⟨_, rfl⟩
          obtain ⟨j, gu, cu, fs1, rfl, rfl, hj, ho, hf, hmall, hbz, hgn, hgl2, hcells⟩ := hrel
          clear HP1
          have hOk := HO.out.trans (Only.of_below hbz)
          by_cases hltj : j < q
          case neg =>
            obtain rfl : j = q := by omega
            have htk : (plusS pt).take j = plusS pt := List.take_of_length_le (by rw [HQM.out]; exact Nat.le_refl _)
            rw [htk] at ho hmall
            have HALN := Lib.hid (show ∀ p ∈ (semiS l).take (k + 1), iPartB m p = true from fun p hp => by
              rw [HTK.out, List.mem_append, List.mem_singleton] at hp
              rcases hp with hp | rfl
              · exact HALL.out p hp
              · rw [iPartB, hmall, Bool.or_true])
            have HOP := Lib.hid (show OwnMs 56 3 wk (.slice (some ⟨gu, 0, none⟩) j cu) (iPart m pt) fs1 from by rw [iPart, if_neg H48.out]; exact ho)
            have HFP := Lib.hid hf
            have HRA := Lib.hid hbz
            have HNQ := Lib.hid (ownsRow_only HNU.out (Only.of_below (fp := []) hbz) (by simp))
            have hi1a := cell_below hbz HI1.out
            have hfi1a := (hbz.frozen (p := ⟨w1.heap.size, 1, none⟩) hlw).trans HFI1.out
            have hi1b := cell_below ((Below.refl _ _).alloc (Nat.le_refl _) (.cells #[.slice (some ⟨gu, 0, none⟩) j cu] 24)) hi1a
            have hszE : wk.heap.size = wk.heap.size := rfl
            clear ho hf hbz hOk htk hmall hcells
            go_wp2_with (first | (at_builtin; refine wpList_append_lies _ rfl _ _ _ rfl 0 24 j1 _ 1 24 Tryz.underlying28 hj1 hw0 hw1 hw2 rfl (by omega) (.slice adu k capu) k _ (by rfl) (HNQ.out.alloc _) ⟨wk.heap.size, 0, none⟩ 1 1 [(.slice (some ⟨gu, 0, none⟩) j cu)] (by rfl) (by rfl) (World.news_of_block (cs := #[(.slice (some ⟨gu, 0, none⟩) j cu)]) (t := 24) (fr := (0, 0)) (by rw [← hszE]; exact heap_alloc_new _ _)) (by simp [Value.oneCell']) (by omega) (by unfold maxLen; omega) (by omega) (by simp) (wk.heap.size + 1) (by simp) ?_; intro gg capn w8 hown1 hgrow hat hlt1; obtain ⟨hcB, hfB, fp', hP⟩ := HPS.out wk w8 _ _ _ gg capn HOP.out HFP.out HRA.out hown1 hgrow (hat.imp id (fun h => by rw [h, hszE])); have HPP := Lib.hid hP; clear hP hown1 hgrow))
            go_roundw
            case rel => exact ⟨k + 1, _, fp', by go_num, by omega, by rw [HSN.out]; exact HPP.out, HALN.out⟩
            case measure => simp [intOf]; omega
          case pos =>
            obtain ⟨tx, htx⟩ : ∃ x, (plusS pt)[j]? = some x := ⟨_, List.getElem?_eq_getElem (by rw [HQM.out]; exact hltj)⟩
            obtain ⟨y2, hy2⟩ : ∃ y, y = ByteArray.mk tx.toArray := ⟨_, rfl⟩
            have hct := hcells j tx y2 htx hy2
            have htl : tx.length ≤ 1048576 := split_small (by simp) _ pt HPTL.out tx (List.mem_of_getElem? htx)
            have hi0k := cell_below hbz HI0.out
            have RM := Lib.hid (readMon_any tx y2 m hy2 htl hm1 hm6 wk (SM.out wk hOk))
            have HTX := Lib.hid htx
            have HTN := Lib.hid (map_next (iMon m) htx)
            have HTA := Lib.hid (take_snoc htx)
            obtain ⟨us1, fsu, hown, hone, hels, rfl, hnd⟩ := ho
            have hjl : (((plusS pt).take j).map (iMon m)).length = j := by rw [List.length_map, List.length_take, HQM.out]; omega
            have HJL := Lib.hid hjl
            have HOWN1 := Lib.hid hown
            have HONE1 := Lib.hid hone
            have HELS1 := Lib.hid hels
            have HND1 := Lib.hid hnd
            have HF1 := Lib.hid hf
            have HBZ := Lib.hid hbz
            have HCL := Lib.hid hcells
            have HGN := Lib.hid hgn
            have HMA := Lib.hid hmall
            clear hy2 htx htl hown hone hels hnd hf hbz hOk hjl hmall hcells hgn
            go_wp2_with fail
            refine RM.out.mono ?_
            rintro e w6 ⟨c, ps, gq, capq, rfl, ho6, hg6, hcI, hok6, hb6⟩
            have HO6 := Lib.hid ho6
            have HB6 := Lib.hid hb6
            have HOK6 := Lib.hid hok6
            have HBZ6 := Lib.hid (HBZ.out.trans (hb6.mono HBZ.out.size))
            have hal : Below w6.heap.size w6 (w6.alloc (.cells #[.int .i64 c, .slice (some ⟨gq, 0, none⟩) m capq] 56)) := (Below.refl _ _).alloc (Nat.le_refl _) _
            have HALC := Lib.hid hal
            cases hmb2 : iMonB m tx with
            | false =>
              have HPB := Lib.hid (parB_mon (l := l) (List.mem_of_getElem? HPT.out) H48.out (List.mem_of_getElem? HTX.out) (by rw [HPM.out]; exact hmb2))
              have hO9 := (HO.out.trans (Only.of_below HBZ6.out)).trans (Only.of_below HALC.out)
              obtain ⟨hr0, hr1, hf0, hf1⟩ := SX.out _ hO9
              have HD := Lib.hid (SD.out _ hO9)
              clear hO9 hal hb6 ho6 hok6 hct hmb2
              go_wp2
              exact bodyPost_ret (v := .tuple #[.agg #[.int .i64 0, .slice none 0 0], .bool false]) (by simp [results, Tryz.results29, go_sem, hr0, hr1]) rfl (HNO.out _ ((HD.out.setCell (Nat.le_refl _) _).setCell (Nat.le_refl _) _) HPB.out)
            | true =>
              have hE := hok6 hmb2
              have HE := Lib.hid hE
              have HMB := Lib.hid hmb2
              have HNQ1 := Lib.hid (show (w6.alloc (.cells #[.int .i64 c, .slice (some ⟨gq, 0, none⟩) m capq] 56)).ownsRow 0 56 2 (.slice (some ⟨gu, 0, none⟩) j cu) j us1.flatten from by
                have := ownsRow_only HOWN1.out (Only.of_below (fp := []) (HB6.out.trans (HALC.out.mono HB6.out.size))) (by simp)
                rwa [HJL.out] at this)
              have HSS := Lib.hid (fun (w9 : World) (gg capn : Nat) (hown1 : w9.ownsRow 0 56 2 (.slice (some ⟨gg, 0, none⟩) (j + 1) capn) (j + 1) (us1.flatten ++ [.int .i64 c, .slice (some ⟨gq, 0, none⟩) m capq]))
                  (hgrow : ((w6.alloc (.cells #[.int .i64 c, .slice (some ⟨gq, 0, none⟩) m capq] 56)).alloc (.cells #[.int .i64 c, .slice (some ⟨gq, 0, none⟩) m capq] 56)).grownBy w9 (some gu)) (hat : some gu = some gg ∨ gg = w6.heap.size + 1 + 1) =>
                ownMs_add (m := ⟨c, ps⟩) HONE1.out HELS1.out HND1.out HOWN1.out HJL.out (ownI_only HO6.out (Only.of_below (fp := []) HALC.out) (by simp)) hcI (fun b hb => by rw [List.mem_singleton.1 hb]; exact hg6) (HB6.out.trans (HALC.out.mono HB6.out.size)) ((Below.refl _ _).alloc (Nat.le_refl _) _) hown1 hgrow (fun b hb => by
                  simp [Value.ownBlock] at hb
                  subst hb
                  rcases hat with hat | hat
                  · left; simpa [Value.ownBlock] using hat
                  · right; rw [hat]; simp))
              have hszE : (w6.alloc (.cells #[.int .i64 c, .slice (some ⟨gq, 0, none⟩) m capq] 56)).heap.size = w6.heap.size + 1 := by simp
              clear hal hb6 ho6 hok6 hct hmb2 hE
              go_wp2_with (first | (at_builtin; refine wpList_append_lies _ rfl _ _ _ rfl 0 56 i0 _ 2 32 Tryz.underlying24 hi hz0 hz1 hz2 rfl (by omega) (.slice (some ⟨gu, 0, none⟩) j cu) j _ (by rfl) (HNQ1.out.alloc _) ⟨w6.heap.size + 1, 0, none⟩ 1 1 [.int .i64 c, .slice (some ⟨gq, 0, none⟩) m capq] (by rfl) (by rfl) (World.news_of_block (cs := #[.int .i64 c, .slice (some ⟨gq, 0, none⟩) m capq]) (t := 56) (fr := (0, 0)) (by rw [← hszE]; exact heap_alloc_new _ _)) (by simp [Value.oneCell']) (by omega) (by unfold maxLen; omega) (by omega) (by simp) (w6.heap.size + 1 + 1) (by simp) ?_; intro gg capn w9 hown1 hgrow hat hlt1; obtain ⟨f', hP1, hP2, hP3⟩ := HSS.out w9 gg capn hown1 hgrow hat; have HPP := Lib.hid hP1; clear hP1 hown1 hgrow))
              have hgu : gu ∈ (Value.slice (some ⟨gu, 0, none⟩) j cu).ownBlock.toList := by simp [Value.ownBlock]
              have hguz := HF1.out gu (List.mem_append.2 (Or.inl hgu))
              have hgug : g2 ≠ gu := fun e => HGN.out (List.mem_append.2 (Or.inl (e ▸ hgu)))
              have hO9 : Only [gu] (w6.alloc (.cells #[.int .i64 c, .slice (some ⟨gq, 0, none⟩) m capq] 56)) w9 := by simpa [Value.ownBlock] using hP3
              have hBA := HBZ6.out.trans (HALC.out.mono HBZ6.out.size)
              have HN9 := Lib.hid (show (∀ b ∈ f', wz.heap.size ≤ b) ∧ Below wz.heap.size wz w9 ∧ g2 ∉ f' ∧ (g2 < w9.heap.size ∧ ∀ (jj : Nat) (x : List UInt8) (y : ByteArray), (plusS pt)[jj]? = some x → y = ByteArray.mk x.toArray → w9.cell? ⟨g2, jj, none⟩ = some (.string y)) from by
                have h6 := HB6.out.size
                have h7 := HALC.out.size
                have h8 := hO9.size
                have hz := HBZ.out.size
                have hszl : ((w6.alloc (.cells #[.int .i64 c, .slice (some ⟨gq, 0, none⟩) m capq] 56)).alloc (.cells #[.int .i64 c, .slice (some ⟨gq, 0, none⟩) m capq] 56)).heap.size = w6.heap.size + 2 := by simp
                refine ⟨fun b hb => ?_, hBA.trans (hO9.below hBA.size (by intro b hb; rw [List.mem_singleton.1 hb]; exact hguz)), fun hm => ?_, by omega, fun jj x y hx hy => cell_only hO9 (by simp; exact hgug) (cell_below HALC.out (cell_below HB6.out (HCL.out jj x y hx hy)))⟩
                · rcases hP2 b hb with h | h | h
                  · exact HF1.out b h
                  · rw [List.mem_singleton.1 h]; omega
                  · omega
                · rcases hP2 g2 hm with h | h | h
                  · exact HGN.out h
                  · have := List.mem_singleton.1 h; omega
                  · omega)
              clear hP2 hP3 hO9 hBA hgu
              go_roundw
              case rel => exact ⟨j + 1, _, _, f', rfl, by go_num, by omega, by rw [HTN.out, ← HE.out]; exact HPP.out, HN9.out.1, by rw [HTA.out, List.all_append, HMA.out]; simp [HMB.out], HN9.out.2⟩
              case measure => (simp [intOf]; try omega)
end Go.Proofs.YtbcjhpgkodeoeaaGreatDoor
