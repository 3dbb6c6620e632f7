/- StepAlong of the reference. Conditions: none. -/
import Derived.Test.YtdaaamdighojdaaStep
set_option linter.unusedSimpArgs false
set_option linter.unusedVariables false
namespace Go.Proofs.Ytdaaamdighojdaa
open Go.RowKit Go.Sort

def stepS (t : TabZ) (f : FldZ) (xs : List (List Int)) (n : Nat) : List (List Int) :=
  turnZ (atAll (turnZ xs n) (roundsZ f.parts (turnZ xs n) (rowZ t.A t.B.length) t.B.length (List.replicate t.B.length (fldJ f.parts (turnZ xs n))) xs.length) t.B t.B.length) xs.length
theorem step_same {t : TabZ} {f : FldZ} {xs : List (List Int)} {n : Nat} (h : fpOkB f xs = true) (hto : tabOkB t = true) (hn : f.dim = n) : stepL t f xs = stepS t f xs n := by
  obtain ⟨n', f1, f2, f3, f4, f5, f6⟩ := fpOk_facts h
  obtain rfl : n' = n := by omega
  obtain ⟨q1, q2, q3, q4⟩ := pathOk_facts f6
  have hy : AllJ xs.length (turnZ xs n') := turn_ok f6
  have hyl : (turnZ xs n').length = n' := turnZ_len _ _
  have hrow : ∀ i, i < n' → (atL (turnZ xs n') i).length = xs.length := fun i hi => (allJ_atL hy (by omega)).1
  have hv : VOk t.B.length n' xs.length (List.replicate t.B.length (fldJ f.parts (turnZ xs n'))) := by
    refine ⟨by simp, fun a ha => ?_⟩
    rw [List.mem_replicate] at ha
    rw [ha.2]
    exact ⟨by rw [fldJ_len, f2], fldJ_ok (hdL_turn (by omega))⟩
  rw [stepL, h, hto, stepS, f1]
  simp only [Bool.and_self, if_true, Int.toNat_natCast]
  rw [rounds_row (n := n') hyl f2 (by omega) hrow (zAll_ok _ _ _).cube hv.cube (fun p hp m hm => by have := ((f5 p hp).2 m hm).2.1; omega)]

set_option maxRecDepth 100000 in
set_option maxHeartbeats 6400000 in
theorem sStep_any (vt vf vx : Value) (t : TabZ) (f : FldZ) (xs : List (List Int)) (w : World) (ht : RdTab w vt t) (hf : RdFld w vf f) (hx : RdII w vx xs) :
    Calls Try.prog 53 #[vt, vf, vx] w (Gives (fun w' v fp => OwnII 24 3 w' v (stepL t f xs) fp) w) := by
  have hnone : ∀ W, Below w.heap.size w W → (fpOkB f xs && tabOkB t) = false → Gives (fun w' v fp => OwnII 24 3 w' v (stepL t f xs) fp) w (.returned (.slice none 0 0)) W := by
    intro W hW hd
    refine ⟨_, [], rfl, ?_, by simp, hW⟩
    rw [stepL, hd]
    exact ⟨[], [], World.ownsRow_nil _ _ _ _, by simp, rfl, rfl, by simp⟩
  obtain ⟨vA, vB, rfl, hIt, hA, hB⟩ := ht
  obtain ⟨vP, rfl, hI, hp⟩ := hf
  obtain ⟨ad1, len, cap, rfl, hl, hlc1, hcm1, h1'⟩ := rdS_open hx
  obtain ⟨adp, lenp, capp, rfl⟩ := rdMss_slice hp
  obtain ⟨aA, lA, cA, rfl⟩ := rdI_slice hA
  obtain ⟨aB, lB, cB, rfl⟩ := rdI_slice hB
  obtain ⟨W1, hW1⟩ : ∃ W, W = w.alloc (.cells #[.int .i64 t.stages, .slice aA lA cA, .slice aB lB cB] 68) := ⟨_, rfl⟩
  obtain ⟨W, hW⟩ : ∃ W, W = W1.alloc (.cells #[.int .i64 f.dim, .slice adp lenp capp] 37) := ⟨_, rfl⟩
  have hb01 : Below w.heap.size w W1 := hW1 ▸ (Below.refl _ _).alloc (Nat.le_refl _) _
  have hb1W : Below W1.heap.size W1 W := hW ▸ (Below.refl _ _).alloc (Nat.le_refl _) _
  have hb0 : Below w.heap.size w W := hb01.trans (hb1W.mono hb01.size)
  have hsz1 : W1.heap.size = w.heap.size + 1 := by rw [hW1]; simp
  have hT := box3_at (w := w) (W := W) (e := 68) (a := .int .i64 t.stages) (b := .slice aA lA cA) (c := .slice aB lB cB) (by rw [← hW1]; exact hb1W)
  have hF := box_at (w := W1) (W := W) (e := 37) (a := .int .i64 f.dim) (b := .slice adp lenp capp) (by rw [← hW]; exact Below.refl _ _)
  rw [hsz1] at hF
  have hfW : RdFld W (.agg #[.int .i64 f.dim, .slice adp lenp capp]) f := ⟨_, rfl, hI, rdMss_mono hb0 hp⟩
  have hxW := rdII_mono hb0 h1'
  have htW : RdTab W (.agg #[.int .i64 t.stages, .slice aA lA cA, .slice aB lB cB]) t := ⟨_, _, rfl, hIt, rdI_mono hb0 hA, rdI_mono hb0 hB⟩
  have HW := Lib.hid hW
  have HW1 := Lib.hid hW1
  have HL := Lib.hid hl
  have HTW := Lib.hid htW
  obtain ⟨hT0, hT1, hT2⟩ := hT
  obtain ⟨hF0, hF1, _, _⟩ := hF
  clear hW hW1 hx hl hsz1 hb01 hb1W
  cases hk : fpOkB f xs with
  | false =>
    have HN := Lib.hid (fun W hW => hnone W hW (by rw [hk]; rfl))
    clear hnone
    go_enter Try.func53, Try.ntmps53
    go_wp2_with fail
    rw [← HW1.out, ← HW.out]
    refine (sFpOk_eq _ _ f xs W hfW hxW hk).mono ?_
    rintro e w1 ⟨rfl, hb2⟩
    go_wp2
    go_ret
    exact HN.out _ (hb0.trans (hb2.mono hb0.size))
  | true =>
  cases hto : tabOkB t with
  | false =>
    have HN := Lib.hid (fun W hW => hnone W hW (by rw [hk, hto]; rfl))
    clear hnone
    go_enter Try.func53, Try.ntmps53
    go_wp2_with fail
    rw [← HW1.out, ← HW.out]
    refine (sFpOk_eq _ _ f xs W hfW hxW hk).mono ?_
    rintro e w1 ⟨rfl, hb2⟩
    have hT0a := cell_below hb2 hT0
    have hT1a := cell_below hb2 hT1
    have hT2a := cell_below hb2 hT2
    have hbw1 := hb0.trans (hb2.mono hb0.size)
    go_wp2_with fail
    refine (sTabOk_eq _ t _ (rdTab_mono hb2 HTW.out) hto).mono ?_
    rintro e w2 ⟨rfl, hb3⟩
    go_wp2
    go_ret
    exact HN.out _ (hbw1.trans (hb3.mono hbw1.size))
  | true =>
    obtain ⟨n, f1, f2, f3, f4, f5, f6⟩ := fpOk_facts hk
    obtain ⟨q1, q2, q3, q4⟩ := pathOk_facts f6
    obtain ⟨hts, hAn, hn8⟩ := tabOk_num hto
    obtain ⟨st, hst⟩ : ∃ st, st = t.B.length := ⟨_, rfl⟩
    rw [← hst] at hts hAn hn8
    have htok := turn_ok f6
    have hE : stepL t f xs = stepS t f xs n := step_same hk hto f1
    have HE := Lib.hid hE
    have HST := Lib.hid hst
    have HAN := Lib.hid hAn
    have F1 := Lib.hid f1
    have F2 := Lib.hid f2
    have F5 := Lib.hid f5
    have Q3 := Lib.hid q3
    rw [HL.out] at q1 q2 htok
    have TOK := Lib.hid htok
    have HK := Lib.hid hk
    have HTO := Lib.hid hto
    rw [f1] at hF0
    rw [hts] at hT0
    have HTS := Lib.hid hts
    clear hts
    clear hE f1 f2 f5 f6 q3 q4 htok hnone hk hto hst hAn
    go_enter Try.func53, Try.ntmps53
    go_wp2_with fail
    rw [← HW1.out, ← HW.out]
    refine (sFpOk_eq _ _ f xs W hfW hxW HK.out).mono ?_
    rintro e w1 ⟨rfl, hb2⟩
    have hT0a := cell_below hb2 hT0
    have hT1a := cell_below hb2 hT1
    have hT2a := cell_below hb2 hT2
    have hF0a := cell_below hb2 hF0
    have hF1a := cell_below hb2 hF1
    have HBW1 := Lib.hid (hb0.trans (hb2.mono hb0.size))
    have htW1 := rdTab_mono hb2 HTW.out
    rw [HTS.out] at htW1
    clear hb2 hT0 hT1 hT2 hF0 hF1 hb0
    go_wp2_with fail
    refine (sTabOk_eq _ t _ htW1 HTO.out).mono ?_
    rintro e w2 ⟨rfl, hb3⟩
    have HBW2 := Lib.hid (HBW1.out.trans (hb3.mono HBW1.out.size))
    have T1 := Lib.hid (l8Turn_any _ xs n w2 (rdII_mono HBW2.out h1') (by rw [HL.out]; omega) (by omega) (by rw [HL.out]; exact q2) Q3.out)
    have hT0b := cell_below hb3 hT0a
    have hT1b := cell_below hb3 hT1a
    have hT2b := cell_below hb3 hT2a
    have hF0b := cell_below hb3 hF0a
    have hF1b := cell_below hb3 hF1a
    clear hT0a hT1a hT2a hF0a hF1a hb3 htW1 hfW hxW
    go_wp2_with fail
    refine (T1.out).mono ?_
    rintro e w4 ⟨py, fpy, rfl, hopy, hfpy, hb4⟩
    have HS := Lib.hid (fun (x : World) (hx : Below w4.heap.size w4 x) => show x.cell? ⟨w.heap.size, 0, none⟩ = some (.int .i64 (st : Int)) ∧ x.cell? ⟨w.heap.size, 1, none⟩ = some (.slice aA lA cA) ∧ x.cell? ⟨w.heap.size, 2, none⟩ = some (.slice aB lB cB) ∧ x.cell? ⟨w.heap.size + 1, 0, none⟩ = some (.int .i64 (n : Int)) ∧ x.cell? ⟨w.heap.size + 1, 1, none⟩ = some (.slice adp lenp capp) from
      ⟨cell_below hx (cell_below hb4 hT0b), cell_below hx (cell_below hb4 hT1b), cell_below hx (cell_below hb4 hT2b), cell_below hx (cell_below hb4 hF0b), cell_below hx (cell_below hb4 hF1b)⟩)
    have HBW4 := Lib.hid (HBW2.out.trans (hb4.mono HBW2.out.size))
    obtain ⟨ady, ly, cy, rfl, _, _, _, hyR⟩ := rdS_open (ownII_rd hopy)
    have HYR := Lib.hid hyR
    obtain ⟨ys, hys⟩ : ∃ y, y = turnZ xs n := ⟨_, rfl⟩
    rw [← hys] at HYR TOK
    have hyl : ys.length = n := by rw [hys]; exact turnZ_len _ _
    have HYL := Lib.hid hyl
    have HYS := Lib.hid hys
    have D1 := Lib.hid (fun (x : World) (u : Value) (zs : List (List Int)) (hx : Below w4.heap.size w4 x) (hu : RdII x u zs) (hzl : zs.length = n) (hzj : AllJ len zs) => l8Der_any (.agg #[.int .i64 (n : Int), .slice adp lenp capp]) u (.slice none 0 0) f zs [] n len x ⟨_, by rw [F1.out], F1.out ▸ hI, rdMss_mono (HBW4.out.trans (hx.mono HBW4.out.size)) hp⟩ hu (rdIII_nil _) F1.out F2.out F5.out f3 f4 q1 q2 hzl hzj (by simp))
    obtain ⟨Z, hZ⟩ : ∃ z, z = fldJ f.parts ys := ⟨_, rfl⟩
    have D0 := Lib.hid (fun (x : World) (hx : Below w4.heap.size w4 x) => show Calls Try.prog 89 #[.agg #[.int .i64 (n : Int), .slice adp lenp capp], .slice ady ly cy, .slice none 0 0] x (Gives (fun w' v fp => OwnII 24 3 w' v Z fp) x) from by rw [hZ]; exact D1.out x _ ys hx (rdII_mono hx HYR.out) HYL.out TOK.out)
    have HZ := Lib.hid hZ
    have hvo : VOk st n len (List.replicate st Z) := by
      refine ⟨by simp, fun a ha => ?_⟩
      rw [List.mem_replicate] at ha
      rw [ha.2, hZ]
      exact ⟨by rw [fldJ_len, F2.out], fldJ_ok (by rw [hdL_at]; exact (allJ_atL TOK.out (by omega)).1)⟩
    have HVOK := Lib.hid (roundsZ_vok (rows := rowZ t.A st) hyl F2.out (by omega) TOK.out hvo)
    obtain ⟨j1, hj1, hw0, hw1, hw2⟩ := info_parts Try.info_intss
    have HN0 := Lib.hid (show OwnIII 22 24 3 (w4.alloc (.cells #[] 22)) (.slice (some ⟨w4.heap.size, 0, none⟩) 0 0) [] [w4.heap.size] from ⟨[], [], by simpa using World.ownsRow_lit (base := 0) (e := 22) (size := 1) w4 #[] 0 (Nat.zero_le _) (Nat.zero_le _) rfl, by simp, rfl, rfl, by simp⟩)
    have HB0 := Lib.hid (show Below w4.heap.size w4 (w4.alloc (.cells #[] 22)) from (Below.refl _ _).alloc (Nat.le_refl _) _)
    clear hT0b hT1b hT2b hF0b hF1b hb4 hopy hfpy hyR hys hyl hZ hvo
    go_wp2
    go_loopw [8, 9] (fun u i wr => ∃ (s : Nat) (fs : List Nat), s ≤ st ∧ i = .int .i64 s ∧ OwnIII 22 24 3 wr u (List.replicate s Z) fs ∧ (∀ b ∈ fs, w4.heap.size ≤ b) ∧ Below w4.heap.size w4 wr) (fun _ i _ => st - (intOf i).toNat)
    case atStart => exact ⟨0, _, Nat.zero_le _, rfl, HN0.out, by simp, HB0.out⟩
    case round =>
      obtain ⟨wk, rfl⟩ : ∃ W, W = wr := ⟨_, rfl⟩
      obtain ⟨s, fs0, hs, rfl, hN, hNf, hb⟩ := hrel
      clear HN0 HB0
      obtain ⟨hT0, hT1, hT2, hF0, hF1⟩ := HS.out _ hb
      by_cases hsl : s < st
      case pos =>
        obtain ⟨us3, fs3, hown3, hone3, hels3, rfl, hnd3⟩ := hN
        have HOWN3 := Lib.hid hown3
        rw [List.length_replicate] at hown3
        obtain ⟨adu3, capu3, rfl, hluc3, hcum3, _⟩ := row_open hown3
        have HNU3 := Lib.hid hown3
        have HONE3 := Lib.hid hone3
        have HELS3 := Lib.hid hels3
        have HND3 := Lib.hid hnd3
        have HB := Lib.hid hb
        have HNF := Lib.hid hNf
        have A1 := Lib.hid (D0.out wk hb)
        clear hown3 hone3 hels3 hnd3 hb hNf
        go_wp2_with fail
        refine (A1.out).mono ?_
        rintro e wa ⟨pf, fpf, rfl, hopf, hfpf, hba⟩
        obtain ⟨adq, lq, capq, rfl, _, _, _, _⟩ := rdS_open (ownII_rd hopf)
        have hal : Below wa.heap.size wa (wa.alloc (.cells #[.slice adq lq capq] 22)) := (Below.refl _ _).alloc (Nat.le_refl _) _
        have HNQ := Lib.hid (ownsRow_only HNU3.out (Only.of_below (fp := []) hba) (by simp))
        have HS3 := Lib.hid (fun (w2 : World) (gg capn : Nat) (hown1 : w2.ownsRow 0 22 1 (.slice (some ⟨gg, 0, none⟩) (s + 1) capn) (s + 1) (us3.flatten ++ [.slice adq lq capq]))
            (hgrow : (wa.alloc (.cells #[.slice adq lq capq] 22)).grownBy w2 (Value.slice adu3 s capu3).ownBlock) (hat : (Value.slice adu3 s capu3).ownBlock = some gg ∨ gg = wa.heap.size + 1) =>
          ownIII_push (W := w4) HONE3.out HELS3.out HND3.out HOWN3.out List.length_replicate hopf hfpf HNF.out HB.out hba hal hown1 hgrow (fun b hb => by
            simp [Value.ownBlock] at hb
            subst hb
            rcases hat with hat | hat
            · left; exact hat
            · right; rw [hat]; simp))
        clear hopf hal hfpf hba
        go_wp2_with (first | (at_builtin; refine wpList_append_lies _ rfl _ _ _ rfl 0 22 j1 _ 1 24 Try.underlying106 hj1 hw0 hw1 hw2 rfl (by omega) (.slice adu3 s capu3) s _ (by rfl) (HNQ.out.alloc _) ⟨wa.heap.size, 0, none⟩ 1 1 [.slice adq lq capq] (by rfl) (by rfl) (World.news_of_block (cs := #[.slice adq lq capq]) (t := 22) (fr := (0, 0)) (heap_alloc_new wa _)) (by simp [Value.oneCell']) (by omega) (by unfold maxLen; omega) (by omega) (by simp) (wa.heap.size + 1) (by simp) ?_; intro gg capn w5 hown1 hgrow hat hlt1; obtain ⟨f', hP1, hP2, hP3⟩ := HS3.out w5 gg capn hown1 hgrow hat; have HPP := Lib.hid hP1; clear hP1 hown1 hgrow))
        all_goals (
          go_roundw
          case rel => exact ⟨s + 1, f', by omega, by go_num, by rw [List.replicate_succ']; exact HPP.out, hP2, hP3⟩
          case measure => simp [intOf]; omega)
      have hss : st = s := by omega
      subst hss
      have HN1 := Lib.hid hN
      have HNF1 := Lib.hid hNf
      have HB1 := Lib.hid hb
      clear hN hNf hb
      go_wp2
      go_loopw [8, 10] (fun u i wr => ∃ (r : Nat) (fs : List Nat), r ≤ len ∧ i = .int .i64 r ∧ OwnIII 22 24 3 wr u (roundsZ f.parts ys (rowZ t.A st) st (List.replicate st Z) r) fs ∧ (∀ b ∈ fs, w4.heap.size ≤ b) ∧ Below w4.heap.size w4 wr) (fun _ i _ => len - (intOf i).toNat)
      case atStart => exact ⟨0, _, Nat.zero_le _, rfl, HN1.out, HNF1.out, HB1.out⟩
      case round =>
        obtain ⟨wj, rfl⟩ : ∃ W, W = wr := ⟨_, rfl⟩
        obtain ⟨r, fs1, hr, rfl, hN, hNf, hb⟩ := hrel
        clear HN1 HB1 HNF1 hT0 hT1 hT2 hF0 hF1
        obtain ⟨hT0, hT1, hT2, hF0, hF1⟩ := HS.out _ hb
        obtain ⟨vals, hvals⟩ : ∃ v, v = roundsZ f.parts ys (rowZ t.A st) st (List.replicate st Z) r := ⟨_, rfl⟩
        have hvo : VOk st n len vals := by rw [hvals]; exact HVOK.out r
        rw [← hvals] at hN
        obtain ⟨adv, lv, capv, rfl, hlv, _, _, hvR⟩ := rdS_open (ownIII_rd hN)
        have hlst : st = lv := by have := hvo.1; omega
        subst hlst
        have HVO := Lib.hid hvo
        have HVALS := Lib.hid hvals
        have HVR := Lib.hid hvR
        have HB := Lib.hid hb
        have HBJ := Lib.hid (HBW4.out.trans (hb.mono HBW4.out.size))
        clear hvo hvals hvR hlv hN hNf hb
        by_cases hrl : r < len
        case neg =>
          have hrl5 : len = r := by omega
          subst hrl5
          have M1 := Lib.hid (moved_any (.slice ady ly cy) (.slice aB lB cB) (.slice adv st capv) ys t.B vals n st len wj (rdII_mono HB.out HYR.out) (rdI_mono HBJ.out hB) HVR.out HYL.out TOK.out HST.out.symm HVO.out f4 q1 q2 hn8)
          go_wp2_with fail
          refine (M1.out).mono ?_
          rintro e wa ⟨pm, fpm, rfl, hopm, hfpm, hba⟩
          have T2 := Lib.hid (l8Turn_any pm (atAll ys vals t.B st) len wa (ownII_rd hopm) (by rw [atAll_len, HYL.out]; omega) (by omega) (by rw [atAll_len, HYL.out]; omega) (atAll_row TOK.out _ _ _))
          have HBA := Lib.hid (HBJ.out.trans (hba.mono HBJ.out.size))
          have HR := Lib.hid (show stepL t f xs = turnZ (atAll ys vals t.B st) len by rw [HE.out, stepS, ← HYS.out, HL.out, ← HST.out, HVALS.out, HZ.out])
          clear hopm hfpm hba
          go_wp2_with fail
          refine (T2.out).mono ?_
          rintro e wb ⟨pt, fpt, rfl, hopt, hfpt, hbb⟩
          obtain ⟨adz, lz, cz, rfl, _, _, _, _⟩ := rdS_open (ownII_rd hopt)
          go_wp2
          go_ret
          exact ⟨_, fpt, rfl, by rw [HR.out]; exact hopt, fun b hb => by { have h1 := hfpt b hb; have h2 := HBA.out.size; omega }, HBA.out.trans (hbb.mono HBA.out.size)⟩
        have HN0 := Lib.hid (show OwnIII 22 24 3 (wj.alloc (.cells #[] 22)) (.slice (some ⟨wj.heap.size, 0, none⟩) 0 0) [] [wj.heap.size] from ⟨[], [], by simpa using World.ownsRow_lit (base := 0) (e := 22) (size := 1) wj #[] 0 (Nat.zero_le _) (Nat.zero_le _) rfl, by simp, rfl, rfl, by simp⟩)
        have HB6 := Lib.hid (show Below wj.heap.size wj (wj.alloc (.cells #[] 22)) from (Below.refl _ _).alloc (Nat.le_refl _) _)
        have hrl2 : (roundZ f.parts ys (rowZ t.A st) st vals).length = st := by simp [roundZ]
        have HRL2 := Lib.hid hrl2
        clear hrl2
        go_wp2
        go_loopw [11, 12] (fun u i wq => ∃ (s : Nat) (fs : List Nat), s ≤ st ∧ i = .int .i64 s ∧ OwnIII 22 24 3 wq u ((roundZ f.parts ys (rowZ t.A st) st vals).take s) fs ∧ (∀ b ∈ fs, wj.heap.size ≤ b) ∧ Below wj.heap.size wj wq) (fun _ i _ => st - (intOf i).toNat)
        case atStart => exact ⟨0, _, Nat.zero_le _, rfl, by simpa using HN0.out, by simp, HB6.out⟩
        case round =>
          obtain ⟨wq, rfl⟩ : ∃ W, W = wr := ⟨_, rfl⟩
          obtain ⟨s, fs2, hs2, rfl, hN2, hNf2, hbq⟩ := hrel
          clear HN0 HB6 hT0 hT1 hT2 hF0 hF1
          have hb4q := HB.out.trans (hbq.mono HB.out.size)
          obtain ⟨hT0, hT1, hT2, hF0, hF1⟩ := HS.out _ hb4q
          by_cases hsl2 : s < st
          case neg =>
            have hss2 : st = s := by omega
            subst hss2
            rw [List.take_of_length_le (by rw [HRL2.out]; exact Nat.le_refl _)] at hN2
            have HN2 := Lib.hid hN2
            have HNX := Lib.hid (show roundsZ f.parts ys (rowZ t.A st) st (List.replicate st Z) (r + 1) = roundZ f.parts ys (rowZ t.A st) st vals by rw [roundsZ, HVALS.out])
            have HNF2 := Lib.hid (show ∀ b ∈ fs2, w4.heap.size ≤ b from fun b hb => by have h1 := hNf2 b hb; have h2 := HB.out.size; omega)
            have HBQ := Lib.hid hb4q
            clear hN2 hNf2 hbq hb4q
            go_wp2
            go_roundw
            case rel => exact ⟨r + 1, fs2, by omega, by go_num, by rw [HNX.out]; exact HN2.out, HNF2.out, HBQ.out⟩
            case measure => simp [intOf]; omega
          obtain ⟨us3, fs3, hown3, hone3, hels3, rfl, hnd3⟩ := hN2
          have hkl3 : ((roundZ f.parts ys (rowZ t.A st) st vals).take s).length = s := by rw [List.length_take, HRL2.out]; omega
          have HOWN3 := Lib.hid hown3
          rw [hkl3] at hown3
          obtain ⟨adu3, capu3, rfl, hluc3, hcum3, _⟩ := row_open hown3
          have HNU3 := Lib.hid hown3
          have HONE3 := Lib.hid hone3
          have HELS3 := Lib.hid hels3
          have HND3 := Lib.hid hnd3
          have HKL3 := Lib.hid hkl3
          have HBQ := Lib.hid hbq
          have HB4Q := Lib.hid hb4q
          have HNF2 := Lib.hid hNf2
          have HSN3 := Lib.hid (show (roundZ f.parts ys (rowZ t.A st) st vals).take (s + 1) = (roundZ f.parts ys (rowZ t.A st) st vals).take s ++ [fldJ f.parts (atAll ys vals (rowZ t.A st s) st)] from take_snoc (by simp [roundZ, hsl2]))
          have hdr : Below wq.heap.size wq wq.drew := (Below.refl _ _).drew
          have HSQ := Lib.hid (fun (x : World) (hx : Below wq.heap.size wq x) => HS.out x (HB4Q.out.trans (hx.mono HB4Q.out.size)))
          have R1 := Lib.hid (fun (x : World) (hx : Below wq.heap.size wq x) => show Calls Try.prog 109 #[.agg #[.int .i64 (st : Int), .slice aA lA cA, .slice aB lB cB], .int .i64 (s : Int)] x (GivesV RdI x (rowZ t.A st s)) from by
            have hB4x := HBW4.out.trans ((HB4Q.out.trans (hx.mono HB4Q.out.size)).mono HBW4.out.size)
            have h1 := sRow_any (.agg #[.int .i64 t.stages, .slice aA lA cA, .slice aB lB cB]) t x ⟨_, _, rfl, hIt, rdI_mono hB4x hA, rdI_mono hB4x hB⟩ HTO.out (i := s) (by rw [← HST.out]; exact hsl2)
            rw [← HST.out, HTS.out] at h1
            exact h1)
          have M1 := Lib.hid (fun (x : World) (pr : Value) (hx : Below wq.heap.size wq x) (hpr : RdI x pr (rowZ t.A st s)) => moved_any (.slice ady ly cy) pr (.slice adv st capv) ys (rowZ t.A st s) vals n st len x (rdII_mono (HB4Q.out.trans (hx.mono HB4Q.out.size)) HYR.out) hpr (rdIII_mono (HBQ.out.trans (hx.mono HBQ.out.size)) HVR.out) HYL.out TOK.out (rowZ_len HAN.out hsl2) HVO.out f4 q1 q2 hn8)
          have D2 := Lib.hid (fun (x : World) (pm : Value) (hx : Below wq.heap.size wq x) (hpm : RdII x pm (atAll ys vals (rowZ t.A st s) st)) => D1.out x pm (atAll ys vals (rowZ t.A st s) st) (HB4Q.out.trans (hx.mono HB4Q.out.size)) hpm (by rw [atAll_len, HYL.out]) (atAll_ok TOK.out _ _ _))
          clear hown3 hone3 hels3 hnd3 hkl3 hNf2 hbq hb4q hT0 hT1 hT2 hF0 hF1
          obtain ⟨hT0, hT1, hT2, hF0, hF1⟩ := HSQ.out _ (Below.refl _ _)
          go_wp2
          go_region_held3 (fun w' => w'.cell? ⟨w.heap.size, 0, none⟩ = some (.int .i64 (st : Int)) ∧ w'.cell? ⟨w.heap.size, 1, none⟩ = some (.slice aA lA cA) ∧ w'.cell? ⟨w.heap.size, 2, none⟩ = some (.slice aB lB cB) ∧ w'.cell? ⟨w.heap.size + 1, 0, none⟩ = some (.int .i64 (n : Int)) ∧ w'.cell? ⟨w.heap.size + 1, 1, none⟩ = some (.slice adp lenp capp)) (first | exact HSQ.out _ hdr | exact HSQ.out _ hra | exact HSQ.out _ hrb | exact HSQ.out _ hrc | exact HSQ.out _ (hrc.alloc hrc.size _) | exact hS2) (first
            | (go_at_call 109; (with_reducible refine (R1.out _ hdr).mono ?_); rintro e wa ⟨pr, rfl, hpr, hba⟩; have hra := hdr.trans (hba.mono hdr.size)) | (go_at_call 108; (with_reducible refine (M1.out _ _ hra hpr).mono ?_); rintro e wb ⟨pm, fpm, rfl, hopm, hfpm, hbb⟩; have hrb := hra.trans (hbb.mono hra.size)) | (go_at_call 89; (with_reducible refine (D2.out _ _ hrb (ownII_rd hopm)).mono ?_); rintro e wc ⟨pf, fpf, rfl, hopf, hfpf, hbc⟩; have hrc := hrb.trans (hbc.mono hrb.size); obtain ⟨adq, lq, capq, rfl, _, _, _, _⟩ := rdS_open (ownII_rd hopf); have HNQ := Lib.hid (ownsRow_only HNU3.out (Only.of_below (fp := []) hrc) (by simp)); have HOPF := Lib.hid hopf; have HFPF := Lib.hid (show ∀ b ∈ fpf, wq.heap.size ≤ b from fun b hb => (by have h1 := hfpf b hb; have h2 := hrb.size; omega))) | (refine step_append_lies _ (by rfl) _ _ _ (by rfl) 0 22 j1 _ 1 24 Try.underlying106 hj1 hw0 hw1 hw2 rfl (by omega) (.slice adu3 s capu3) s _ (by rfl) (HNQ.out.alloc _) ⟨wc.heap.size, 0, none⟩ 1 1 [.slice adq lq capq] (by rfl) (by rfl) (World.news_of_block (cs := #[.slice adq lq capq]) (t := 22) (fr := (0, 0)) (heap_alloc_new wc _)) (by simp [Value.oneCell']) (by omega) (by unfold maxLen; omega) (by omega) (by simp) (wc.heap.size + 1) (by simp) ?_; intro gg capn w5 hown1 hgrow hat hlt1; obtain ⟨f', hP1, hP2, hP3⟩ := ownIII_push (W := wj) HONE3.out HELS3.out HND3.out HOWN3.out HKL3.out HOPF.out HFPF.out HNF2.out HBQ.out hrc ((Below.refl wc.heap.size wc).alloc (Nat.le_refl _) _) hown1 hgrow (fun b hb => by { simp [Value.ownBlock] at hb; subst hb; rcases hat with hat | hat; (left; exact hat); (right; rw [hat]; simp) }); have HPP := Lib.hid hP1; have hS2 := HS.out _ (HB.out.trans (hP3.mono HB.out.size)); clear hP1 hown1 hgrow))
          all_goals (
            go_wp2
            go_roundw
            case rel => exact ⟨s + 1, f', by omega, by go_num, by rw [HSN3.out]; exact HPP.out, hP2, hP3⟩
            case measure => simp [intOf]; omega)
end Go.Proofs.Ytdaaamdighojdaa
