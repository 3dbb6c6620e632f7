/- The program's weights of nodes: two closures, and the systems that they give. Conditions: nodes for which the system is one. -/
import Derived.Test.YtbcjhpgkodeoeaaGreatDoorK36
import Derived.Test.YtbcjhpgkodeoeaaGreatDoorK34
set_option linter.unusedSimpArgs false
set_option linter.unusedVariables false

namespace Go.Proofs.YtbcjhpgkodeoeaaGreatDoor
open Go.RowKit

theorem rightA_any (kz : Nat) (z c : Int) (b : Nat) (w : World) (hz : z = (kz : Int)) (hk : kz ≤ 1000) (hc : w.cell? ⟨b, 0, none⟩ = some (.int .i64 c)) :
    Calls Tryz.prog 120 #[.int .i64 z, .pointer (some ⟨b, 0, none⟩)] w fun e w' => e = .returned (.int .i64 (fracZ (powZ c z) z)) ∧ w = w' := by
  have hz9 : z ≤ 9223372036854775807 := by omega
  clear hz hk
  go_enter Tryz.func120, Tryz.ntmps120
  go_wp2_with (first | (go_at_call 97; ((with_reducible refine (power_any _ _ _ hz9).mono ?_); rintro e w' ⟨rfl, rfl⟩)) | (go_at_call 65; ((with_reducible refine (fraction_any _ _ _).mono ?_); rintro e w' ⟨rfl, rfl⟩)))
  go_ret
  exact ⟨rfl, rfl⟩
theorem rightB_any (z : Int) (w : World) :
    Calls Tryz.prog 121 #[.int .i64 z] w fun e w' => e = .returned (.int .i64 (fracZ 1 z)) ∧ w = w' := by
  go_enter Tryz.func121, Tryz.ntmps121
  go_wp2_with (first | (go_at_call 65; ((with_reducible refine (fraction_any _ _ _).mono ?_); rintro e w' ⟨rfl, rfl⟩)))
  go_ret
  exact ⟨rfl, rfl⟩
theorem powRows_take {cs : List Int} {q : Nat} (h : q < cs.length) : (powRows cs).take (q + 1) = (powRows cs).take q ++ [powR cs q] := take_snoc (by simp [powRows, h])
theorem powR_take {cs : List Int} {q j : Nat} {c : Int} (h : cs[j]? = some c) : (powR cs q).take (j + 1) = (powR cs q).take j ++ [powZ c q] := take_snoc (by simp [powR, h])
theorem map_take {n q : Nat} {R : Nat → Int} (h : q < n) : ((List.range n).map R).take (q + 1) = ((List.range n).map R).take q ++ [R q] := take_snoc (by simp [h])

set_option maxRecDepth 100000 in
set_option maxHeartbeats 12800000 in
theorem quadB_any (v : Value) (cs : List Int) (n : Nat) (w : World) (h : RdI w v cs) (hn : cs.length = n) (hn8 : n ≤ 8) (hsys : sysB (powRows cs) ((List.range n).map fun (k : Nat) => fracZ 1 ((k : Int) + 1)) = true) (hRI : ∀ k : Nat, I64 (fracZ 1 ((k : Int) + 1))) :
    Calls Tryz.prog 119 #[v, .func (.func 121) #[] #[]] w (Gives (fun w' v fp => OwnI 3 w' v (solL (powRows cs) ((List.range n).map fun (k : Nat) => fracZ 1 ((k : Int) + 1))) fp) w) := by
  obtain ⟨RR, hRR⟩ : ∃ R : Nat → Int, (fun (k : Nat) => fracZ 1 ((k : Int) + 1)) = R := ⟨_, rfl⟩
  have HRR := Lib.hid hRR
  have hRI : ∀ k : Nat, I64 (RR k) := fun k => by rw [← hRR]; exact hRI k
  rw [hRR] at hsys ⊢
  clear hRR
  obtain ⟨ji, hji, hji0, hji1, hji2⟩ := info_parts Tryz.info_int
  obtain ⟨jl, hjl, hjl0, hjl1, hjl2⟩ := info_parts Tryz.info_ints
  obtain ⟨ad, len, cap, rfl, hl, hlc, hcm, h'⟩ := rdS_open h
  have hln : len = n := by omega
  subst hln
  have HL := Lib.hid hl
  have HSYS := Lib.hid hsys
  have HRI := Lib.hid hRI
  have HI5 := Lib.hid (ownII_lit (e1 := 35) (e := 3) w)
  have hb1 := below_lit w 35
  obtain ⟨W1, hW1⟩ : ∃ W, W = w.alloc (.cells #[] 35) := ⟨_, rfl⟩
  have hs1 : W1.heap.size = w.heap.size + 1 := by rw [hW1]; simp
  have hb2 := below_lit W1 3
  have HST := Lib.hid (show OwnII 35 3 (W1.alloc (.cells #[] 3)) (.slice (some ⟨w.heap.size, 0, none⟩) 0 0) [] [w.heap.size] ∧ OwnI 3 (W1.alloc (.cells #[] 3)) (.slice (some ⟨w.heap.size + 1, 0, none⟩) 0 0) [] [w.heap.size + 1] ∧ Below w.heap.size w (W1.alloc (.cells #[] 3)) from
    ⟨ownII_only (hW1 ▸ HI5.out) (Only.of_below (fp := []) hb2) (by simp), by have := own_lit (e := 3) W1; rwa [hs1] at this, (hW1 ▸ hb1 : Below w.heap.size w W1).trans (hb2.mono (by omega))⟩)
  subst hW1
  clear h hl hsys hRI hb1 hb2 hs1
  go_enter Tryz.func119, Tryz.ntmps119
  go_wp2
  go_loopw [5, 6, 7] (fun s5 s6 sk wq => ∃ (q : Nat) (f5 f6 : List Nat), q ≤ len ∧ sk = .int .i64 ((q : Int) + 1) ∧ OwnII 35 3 wq s5 ((powRows cs).take q) f5 ∧ OwnI 3 wq s6 (((List.range len).map RR).take q) f6 ∧ (∀ b ∈ f5, w.heap.size ≤ b ∧ b ∉ f6) ∧ (∀ b ∈ f6, w.heap.size ≤ b) ∧ Below w.heap.size w wq) (fun _ _ sk _ => (len + 1 - intOf sk).toNat)
  case atStart => exact ⟨0, [w.heap.size], [w.heap.size + 1], Nat.zero_le _, by simp, by simpa using HST.out.1, by simpa using HST.out.2.1, by simp, by simp, by simpa using HST.out.2.2⟩
  case round =>
    obtain ⟨wk, rfl⟩ : ∃ W, W = wr := ⟨_, rfl⟩
    obtain ⟨q, f5, f6, hq, rfl, h5, h6, hf5, hf6, hbk⟩ := hrel
    clear HI5 HST
    by_cases hql : q < len
    case neg =>
      obtain rfl : q = len := by omega
      have hqI : ¬ ((q : Int) + 1 ≤ q) := by omega
      rw [List.take_of_length_le (by rw [powRows, List.length_map, List.length_range, HL.out]; exact Nat.le_refl _)] at h5
      rw [List.take_of_length_le (by rw [List.length_map, List.length_range]; exact Nat.le_refl _)] at h6
      have HSO := Lib.hid (solveI_any _ _ (powRows cs) ((List.range q).map RR) wk (ownII_rd h5) (ownI_rd h6) HSYS.out)
      clear h5 h6
      go_wp2_with fail
      refine HSO.out.mono ?_
      rintro e w9 ⟨v9, f9, rfl, ho9, hf9, hb9⟩
      have HO9 := Lib.hid ho9
      have HF9 := Lib.hid hf9
      clear ho9 hf9
      go_wp2
      go_ret
      exact ⟨_, f9, rfl, HO9.out, fun b hb => by have := HF9.out b hb; have := hbk.size; omega, hbk.trans (hb9.mono hbk.size)⟩
    have hqI : (q : Int) + 1 ≤ len := by omega
    have hwk : IntKind.i64.wrap ((q : Int) + 1 - 1) = q := by rw [show (q : Int) + 1 - 1 = q by omega]; exact IntWalk.i64_in _ (by omega)
    obtain ⟨adp, capp, us, rfl, hqc, hcpm, hpush⟩ := ownII_push4 h5 (n := q) (by rw [List.length_take, powRows, List.length_map, List.length_range, HL.out]; omega)
    obtain ⟨adg, lg, cg, rfl, hlg, _⟩ := ownI_open h6
    have HP := Lib.hid hpush
    have H6 := Lib.hid h6
    have HLT := Lib.hid (ownII_lt h5)
    have HLT6 := Lib.hid (ownI_lt h6)
    have HF5 := Lib.hid hf5
    have HF6 := Lib.hid hf6
    have HBK := Lib.hid hbk
    have HE := Lib.hid (show OwnI 3 (wk.alloc (.cells #[] 3)) (.slice (some ⟨wk.heap.size, 0, none⟩) 0 0) [] [wk.heap.size] ∧ Below wk.heap.size wk (wk.alloc (.cells #[] 3)) from ⟨own_lit wk, below_lit wk _⟩)
    clear hpush h5 h6 hf5 hf6 hlg
    go_wp2
    go_loopw [8, 24] (fun s8 sj wq => ∃ (j : Nat) (f : List Nat), j ≤ len ∧ sj = .int .i64 j ∧ OwnI 3 wq s8 ((powR cs q).take j) f ∧ (∀ b ∈ f, wk.heap.size ≤ b) ∧ Below wk.heap.size wk wq) (fun _ sj _ => len - (intOf sj).toNat)
    case atStart => exact ⟨0, [wk.heap.size], Nat.zero_le _, rfl, by simpa using HE.out.1, by simp, HE.out.2⟩
    case round =>
      obtain ⟨wj, rfl⟩ : ∃ W, W = wr := ⟨_, rfl⟩
      obtain ⟨j, f, hj, rfl, ho, hfn, hbj⟩ := hrel
      clear HE
      by_cases hjn : j < len
      case pos =>
        have hbw := hbk.trans (hbj.mono hbk.size)
        obtain ⟨b2, o2, c, rfl, hc, hcc, hIc, _⟩ := rdI_get (rdI_mono hbw h') (k := j) hjn
        obtain ⟨ada, la, ca, rfl, hla, _⟩ := ownI_open ho
        obtain ⟨p, hp⟩ : ∃ p, powZ c q = p := ⟨_, rfl⟩
        have hpI : I64 p := hp ▸ i64_of_bd (powZ_bd _ _)
        have HPW := Lib.hid hp
        have hq9 : (q : Int) ≤ 9223372036854775807 := by omega
        have hal := below_lit1 wj 3 p
        have HOA := Lib.hid (ownI_only ho (Only.of_below (fp := []) hal) (by simp))
        have HBA := Lib.hid (hbj.trans (hal.mono hbj.size))
        have HSRC := Lib.hid (src_lit (e := 3) wj p hpI)
        have HAL := Lib.hid (show ((powR cs q).take j).length + [p].length ≤ 1000000 from by rw [List.length_take]; simp; omega)
        have HNX := Lib.hid (show (powR cs q).take (j + 1) = (powR cs q).take j ++ [p] from by rw [powR_take hc, hp])
        clear ho hal hbw hc hIc hp hpI hla
        go_wp2_with (first | (go_at_call 97; ((with_reducible refine (power_eq HPW.out hq9 _).mono ?_); rintro e w' ⟨rfl, rfl⟩)) | (at_builtin; refine wpList_append_I _ (by rfl) _ _ 35 3 (by rfl) ji Tryz.underlying35 hji hji0 hji1 hji2 (v := .slice ada la ca) (vx := .slice (some ⟨wj.heap.size, 0, none⟩) 1 1) (by rfl) (by rfl) HOA.out HSRC.out HAL.out ?_; intro v' w' f' hv1 hv2 hv3; obtain ⟨adv, lv, cv, rfl, _⟩ := ownI_open hv1; have HV1 := Lib.hid hv1; have HV2 := Lib.hid hv2; have HV3 := Lib.hid hv3; clear hv1 hv2 hv3))
        all_goals (
          go_roundw
          case rel =>
            refine ⟨j + 1, f', by omega, by go_num, by rw [HNX.out]; exact HV1.out, fun b hb => ?_, HBA.out.trans (HV3.out.below HBA.out.size (fun b hb => hfn b hb))⟩
            rcases HV2.out b hb with h | h
            · exact hfn b h
            · have := HBA.out.size; omega
          case measure => simp [intOf]; omega)
      obtain rfl : j = len := by omega
      rw [List.take_of_length_le (by rw [powR, List.length_map, HL.out]; exact Nat.le_refl _)] at ho
      obtain ⟨ada, la, ca, rfl, hla, _⟩ := ownI_open ho
      obtain ⟨hrowa, hcl⟩ := HP.out wj [] (Only.of_below hbj) (by simp)
      have HNP := Lib.hid hrowa
      have HFN := Lib.hid hfn
      have HBJ := Lib.hid hbj
      have HPA := Lib.hid (fun (w3 : World) (gg2 capn2 : Nat) hown2 hgrow2 hat2 => hcl _ (powR cs q) f w3 gg2 capn2 ho (fun b hb hm => (by have h1 := HLT.out b hm; have h2 := hfn b hb; omega)) hown2 hgrow2 hat2)
      obtain ⟨X, hX⟩ : ∃ X, RR q = X := ⟨_, rfl⟩
      have HX := Lib.hid hX
      have HIX := Lib.hid (show I64 X from hX ▸ HRI.out q)
      have HR := Lib.hid (fun (W : World) (hW : Below w.heap.size w W) => (hX ▸ (by rw [← HRR.out]; exact rightB_any _ _) : Calls Tryz.prog 121 #[.int .i64 ((q : Int) + 1)] W fun e w' => e = .returned (.int .i64 X) ∧ W = w'))
      have H6J := Lib.hid (ownI_only H6.out (Only.of_below (fp := []) hbj) (by simp))
      clear hrowa hcl ho hfn hbj hla hX
      go_wp2_with (first | (at_builtin; refine wpList_append_lies _ rfl _ _ _ rfl 0 35 jl _ 1 24 Tryz.underlying25 hjl hjl0 hjl1 hjl2 rfl (by omega) (.slice adp q capp) q _ (by rfl) (HNP.out.alloc _) ⟨wj.heap.size, 0, none⟩ 1 1 [.slice ada la ca] (by rfl) (by rfl) (World.news_of_block (cs := #[.slice ada la ca]) (t := 35) (fr := (0, 0)) (heap_alloc_new wj _)) (by simp [Value.oneCell']) (by omega) (by unfold maxLen; omega) (by omega) (by simp) (wj.heap.size + 1) (by simp) ?_; intro gg capn wn hown1 hgrow hat hlt1; obtain ⟨f', hP1, hP2, hP3⟩ := HPA.out wn gg capn hown1 hgrow hat; have HPP := Lib.hid hP1; clear hown1 hgrow hat hP1) | fail)
      have hjs := HBJ.out.size
      have hks := HBK.out.size
      have hbn : Below w.heap.size w wn := (HBK.out.trans (HBJ.out.mono hks)).trans (hP3.below (HBK.out.trans (HBJ.out.mono hks)).size (fun b hb => (HF5.out b hb).1))
      refine (HR.out wn hbn).mono ?_
      rintro e w' ⟨rfl, rfl⟩
      have H6N := Lib.hid (ownI_only H6J.out hP3 (fun b hb hm => (HF5.out b hm).2 hb))
      have hal := below_lit1 wn 3 X
      have HOA := Lib.hid (ownI_only H6N.out (Only.of_below (fp := []) hal) (by simp))
      have HSRC := Lib.hid (src_lit (e := 3) wn X HIX.out)
      have HAL := Lib.hid (show (((List.range j).map RR).take q).length + [X].length ≤ 1000000 from by rw [List.length_take]; simp; omega)
      have HNX := Lib.hid (show ((List.range j).map RR).take (q + 1) = ((List.range j).map RR).take q ++ [X] from by rw [map_take hql, HX.out])
      have HNR := Lib.hid (show (powRows cs).take (q + 1) = (powRows cs).take q ++ [powR cs q] from powRows_take (by rw [HL.out]; exact hql))
      have HBN := Lib.hid (hbn.trans (hal.mono hbn.size))
      have HP2 := Lib.hid hP2
      have HN6 := Lib.hid (show ∀ b ∈ f6, b < wk.heap.size from HLT6.out)
      have hns := hP3.size
      clear hal hbn hP2 hP3
      go_wp2_with (first | (at_builtin; refine wpList_append_I _ (by rfl) _ _ 35 3 (by rfl) ji Tryz.underlying35 hji hji0 hji1 hji2 (v := .slice adg lg cg) (vx := .slice (some ⟨wn.heap.size, 0, none⟩) 1 1) (by rfl) (by rfl) HOA.out HSRC.out HAL.out ?_; intro v' w' f6' hv1 hv2 hv3; obtain ⟨adv, lv, cv, rfl, _⟩ := ownI_open hv1; have HV1 := Lib.hid hv1; have HV2 := Lib.hid hv2; have HV3 := Lib.hid hv3; clear hv1 hv2 hv3))
      all_goals (
        have HR5 := Lib.hid (ownII_only (ownII_only HPP.out (Only.of_below (fp := []) (below_lit1 wn 3 X)) (by simp)) HV3.out (fun b hb hm => by
          have h1 := HN6.out b hm
          rcases HP2.out b hb with h | h | h
          · exact (HF5.out b h).2 hm
          · have := HFN.out b h; omega
          · omega))
        have hwa : (wn.alloc (.cells #[.int .i64 X] 3)).heap.size = wn.heap.size + 1 := by simp
        go_roundw
        case rel =>
          refine ⟨q + 1, f', f6', by omega, by go_num, by rw [HNR.out]; exact HR5.out, by rw [HNX.out]; exact HV1.out, fun b hb => ⟨?_, fun hm => ?_⟩, fun b hb => ?_, HBN.out.trans (HV3.out.below HBN.out.size (fun b hb => HF6.out b hb))⟩
          · rcases HP2.out b hb with h | h | h
            · exact (HF5.out b h).1
            · have := HFN.out b h; omega
            · omega
          · have hlt := (ownII_lt HPP.out) b hb
            rcases HV2.out b hm with h | h
            · have h1 := HN6.out b h
              rcases HP2.out b hb with g | g | g
              · exact (HF5.out b g).2 h
              · have := HFN.out b g; omega
              · omega
            · omega
          · rcases HV2.out b hb with h | h
            · exact HF6.out b h
            · omega
        case measure => simp [intOf]; omega)
set_option maxRecDepth 100000 in
set_option maxHeartbeats 12800000 in
theorem quadA_any (v : Value) (cs : List Int) (n bc : Nat) (c : Int) (w : World) (h : RdI w v cs) (hc : w.cell? ⟨bc, 0, none⟩ = some (.int .i64 c)) (hn : cs.length = n) (hn8 : n ≤ 8) (hsys : sysB (powRows cs) (rgtA c n) = true) :
    Calls Tryz.prog 119 #[v, .func (.func 120) #[] #[.pointer (some ⟨bc, 0, none⟩)]] w (Gives (fun w' v fp => OwnI 3 w' v (solL (powRows cs) (rgtA c n)) fp) w) := by
  obtain ⟨RR, hRR⟩ : ∃ R : Nat → Int, (fun (k : Nat) => fracZ (powZ c ((k : Int) + 1)) ((k : Int) + 1)) = R := ⟨_, rfl⟩
  have HRR := Lib.hid hRR
  have HCC := Lib.hid (fun (W : World) (hW : Below w.heap.size w W) => cell_below hW hc)
  have hRI : ∀ k : Nat, I64 (RR k) := fun k => by rw [← hRR]; exact i64_of_bd (fracZ_bd _ _)
  have e : rgtA c n = (List.range n).map RR := by rw [rgtA, hRR]
  rw [e] at hsys ⊢
  clear hRR e hc
  obtain ⟨ji, hji, hji0, hji1, hji2⟩ := info_parts Tryz.info_int
  obtain ⟨jl, hjl, hjl0, hjl1, hjl2⟩ := info_parts Tryz.info_ints
  obtain ⟨ad, len, cap, rfl, hl, hlc, hcm, h'⟩ := rdS_open h
  have hln : len = n := by omega
  subst hln
  have HL := Lib.hid hl
  have HSYS := Lib.hid hsys
  have HRI := Lib.hid hRI
  have HI5 := Lib.hid (ownII_lit (e1 := 35) (e := 3) w)
  have hb1 := below_lit w 35
  obtain ⟨W1, hW1⟩ : ∃ W, W = w.alloc (.cells #[] 35) := ⟨_, rfl⟩
  have hs1 : W1.heap.size = w.heap.size + 1 := by rw [hW1]; simp
  have hb2 := below_lit W1 3
  have HST := Lib.hid (show OwnII 35 3 (W1.alloc (.cells #[] 3)) (.slice (some ⟨w.heap.size, 0, none⟩) 0 0) [] [w.heap.size] ∧ OwnI 3 (W1.alloc (.cells #[] 3)) (.slice (some ⟨w.heap.size + 1, 0, none⟩) 0 0) [] [w.heap.size + 1] ∧ Below w.heap.size w (W1.alloc (.cells #[] 3)) from
    ⟨ownII_only (hW1 ▸ HI5.out) (Only.of_below (fp := []) hb2) (by simp), by have := own_lit (e := 3) W1; rwa [hs1] at this, (hW1 ▸ hb1 : Below w.heap.size w W1).trans (hb2.mono (by omega))⟩)
  subst hW1
  clear h hl hsys hRI hb1 hb2 hs1
  go_enter Tryz.func119, Tryz.ntmps119
  go_wp2
  go_loopw [5, 6, 7] (fun s5 s6 sk wq => ∃ (q : Nat) (f5 f6 : List Nat), q ≤ len ∧ sk = .int .i64 ((q : Int) + 1) ∧ OwnII 35 3 wq s5 ((powRows cs).take q) f5 ∧ OwnI 3 wq s6 (((List.range len).map RR).take q) f6 ∧ (∀ b ∈ f5, w.heap.size ≤ b ∧ b ∉ f6) ∧ (∀ b ∈ f6, w.heap.size ≤ b) ∧ Below w.heap.size w wq) (fun _ _ sk _ => (len + 1 - intOf sk).toNat)
  case atStart => exact ⟨0, [w.heap.size], [w.heap.size + 1], Nat.zero_le _, by simp, by simpa using HST.out.1, by simpa using HST.out.2.1, by simp, by simp, by simpa using HST.out.2.2⟩
  case round =>
    obtain ⟨wk, rfl⟩ : ∃ W, W = wr := ⟨_, rfl⟩
    obtain ⟨q, f5, f6, hq, rfl, h5, h6, hf5, hf6, hbk⟩ := hrel
    clear HI5 HST
    by_cases hql : q < len
    case neg =>
      obtain rfl : q = len := by omega
      have hqI : ¬ ((q : Int) + 1 ≤ q) := by omega
      rw [List.take_of_length_le (by rw [powRows, List.length_map, List.length_range, HL.out]; exact Nat.le_refl _)] at h5
      rw [List.take_of_length_le (by rw [List.length_map, List.length_range]; exact Nat.le_refl _)] at h6
      have HSO := Lib.hid (solveI_any _ _ (powRows cs) ((List.range q).map RR) wk (ownII_rd h5) (ownI_rd h6) HSYS.out)
      clear h5 h6
      go_wp2_with fail
      refine HSO.out.mono ?_
      rintro e w9 ⟨v9, f9, rfl, ho9, hf9, hb9⟩
      have HO9 := Lib.hid ho9
      have HF9 := Lib.hid hf9
      clear ho9 hf9
      go_wp2
      go_ret
      exact ⟨_, f9, rfl, HO9.out, fun b hb => by have := HF9.out b hb; have := hbk.size; omega, hbk.trans (hb9.mono hbk.size)⟩
    have hqI : (q : Int) + 1 ≤ len := by omega
    have hwk : IntKind.i64.wrap ((q : Int) + 1 - 1) = q := by rw [show (q : Int) + 1 - 1 = q by omega]; exact IntWalk.i64_in _ (by omega)
    obtain ⟨adp, capp, us, rfl, hqc, hcpm, hpush⟩ := ownII_push4 h5 (n := q) (by rw [List.length_take, powRows, List.length_map, List.length_range, HL.out]; omega)
    obtain ⟨adg, lg, cg, rfl, hlg, _⟩ := ownI_open h6
    have HP := Lib.hid hpush
    have H6 := Lib.hid h6
    have HLT := Lib.hid (ownII_lt h5)
    have HLT6 := Lib.hid (ownI_lt h6)
    have HF5 := Lib.hid hf5
    have HF6 := Lib.hid hf6
    have HBK := Lib.hid hbk
    have HE := Lib.hid (show OwnI 3 (wk.alloc (.cells #[] 3)) (.slice (some ⟨wk.heap.size, 0, none⟩) 0 0) [] [wk.heap.size] ∧ Below wk.heap.size wk (wk.alloc (.cells #[] 3)) from ⟨own_lit wk, below_lit wk _⟩)
    clear hpush h5 h6 hf5 hf6 hlg
    go_wp2
    go_loopw [8, 24] (fun s8 sj wq => ∃ (j : Nat) (f : List Nat), j ≤ len ∧ sj = .int .i64 j ∧ OwnI 3 wq s8 ((powR cs q).take j) f ∧ (∀ b ∈ f, wk.heap.size ≤ b) ∧ Below wk.heap.size wk wq) (fun _ sj _ => len - (intOf sj).toNat)
    case atStart => exact ⟨0, [wk.heap.size], Nat.zero_le _, rfl, by simpa using HE.out.1, by simp, HE.out.2⟩
    case round =>
      obtain ⟨wj, rfl⟩ : ∃ W, W = wr := ⟨_, rfl⟩
      obtain ⟨j, f, hj, rfl, ho, hfn, hbj⟩ := hrel
      clear HE
      by_cases hjn : j < len
      case pos =>
        have hbw := hbk.trans (hbj.mono hbk.size)
        obtain ⟨b2, o2, c, rfl, hc, hcc, hIc, _⟩ := rdI_get (rdI_mono hbw h') (k := j) hjn
        obtain ⟨ada, la, ca, rfl, hla, _⟩ := ownI_open ho
        obtain ⟨p, hp⟩ : ∃ p, powZ c q = p := ⟨_, rfl⟩
        have hpI : I64 p := hp ▸ i64_of_bd (powZ_bd _ _)
        have HPW := Lib.hid hp
        have hq9 : (q : Int) ≤ 9223372036854775807 := by omega
        have hal := below_lit1 wj 3 p
        have HOA := Lib.hid (ownI_only ho (Only.of_below (fp := []) hal) (by simp))
        have HBA := Lib.hid (hbj.trans (hal.mono hbj.size))
        have HSRC := Lib.hid (src_lit (e := 3) wj p hpI)
        have HAL := Lib.hid (show ((powR cs q).take j).length + [p].length ≤ 1000000 from by rw [List.length_take]; simp; omega)
        have HNX := Lib.hid (show (powR cs q).take (j + 1) = (powR cs q).take j ++ [p] from by rw [powR_take hc, hp])
        clear ho hal hbw hc hIc hp hpI hla
        go_wp2_with (first | (go_at_call 97; ((with_reducible refine (power_eq HPW.out hq9 _).mono ?_); rintro e w' ⟨rfl, rfl⟩)) | (at_builtin; refine wpList_append_I _ (by rfl) _ _ 35 3 (by rfl) ji Tryz.underlying35 hji hji0 hji1 hji2 (v := .slice ada la ca) (vx := .slice (some ⟨wj.heap.size, 0, none⟩) 1 1) (by rfl) (by rfl) HOA.out HSRC.out HAL.out ?_; intro v' w' f' hv1 hv2 hv3; obtain ⟨adv, lv, cv, rfl, _⟩ := ownI_open hv1; have HV1 := Lib.hid hv1; have HV2 := Lib.hid hv2; have HV3 := Lib.hid hv3; clear hv1 hv2 hv3))
        all_goals (
          go_roundw
          case rel =>
            refine ⟨j + 1, f', by omega, by go_num, by rw [HNX.out]; exact HV1.out, fun b hb => ?_, HBA.out.trans (HV3.out.below HBA.out.size (fun b hb => hfn b hb))⟩
            rcases HV2.out b hb with h | h
            · exact hfn b h
            · have := HBA.out.size; omega
          case measure => simp [intOf]; omega)
      obtain rfl : j = len := by omega
      rw [List.take_of_length_le (by rw [powR, List.length_map, HL.out]; exact Nat.le_refl _)] at ho
      obtain ⟨ada, la, ca, rfl, hla, _⟩ := ownI_open ho
      obtain ⟨hrowa, hcl⟩ := HP.out wj [] (Only.of_below hbj) (by simp)
      have HNP := Lib.hid hrowa
      have HFN := Lib.hid hfn
      have HBJ := Lib.hid hbj
      have HPA := Lib.hid (fun (w3 : World) (gg2 capn2 : Nat) hown2 hgrow2 hat2 => hcl _ (powR cs q) f w3 gg2 capn2 ho (fun b hb hm => (by have h1 := HLT.out b hm; have h2 := hfn b hb; omega)) hown2 hgrow2 hat2)
      obtain ⟨X, hX⟩ : ∃ X, RR q = X := ⟨_, rfl⟩
      have HX := Lib.hid hX
      have HIX := Lib.hid (show I64 X from hX ▸ HRI.out q)
      have HR := Lib.hid (fun (W : World) (hW : Below w.heap.size w W) => (hX ▸ (by rw [← HRR.out]; exact rightA_any (q + 1) ((q : Int) + 1) c bc _ (by omega) (by omega) (HCC.out W hW)) : Calls Tryz.prog 120 #[.int .i64 ((q : Int) + 1), .pointer (some ⟨bc, 0, none⟩)] W fun e w' => e = .returned (.int .i64 X) ∧ W = w'))
      have H6J := Lib.hid (ownI_only H6.out (Only.of_below (fp := []) hbj) (by simp))
      clear hrowa hcl ho hfn hbj hla hX
      go_wp2_with (first | (at_builtin; refine wpList_append_lies _ rfl _ _ _ rfl 0 35 jl _ 1 24 Tryz.underlying25 hjl hjl0 hjl1 hjl2 rfl (by omega) (.slice adp q capp) q _ (by rfl) (HNP.out.alloc _) ⟨wj.heap.size, 0, none⟩ 1 1 [.slice ada la ca] (by rfl) (by rfl) (World.news_of_block (cs := #[.slice ada la ca]) (t := 35) (fr := (0, 0)) (heap_alloc_new wj _)) (by simp [Value.oneCell']) (by omega) (by unfold maxLen; omega) (by omega) (by simp) (wj.heap.size + 1) (by simp) ?_; intro gg capn wn hown1 hgrow hat hlt1; obtain ⟨f', hP1, hP2, hP3⟩ := HPA.out wn gg capn hown1 hgrow hat; have HPP := Lib.hid hP1; clear hown1 hgrow hat hP1) | fail)
      have hjs := HBJ.out.size
      have hks := HBK.out.size
      have hbn : Below w.heap.size w wn := (HBK.out.trans (HBJ.out.mono hks)).trans (hP3.below (HBK.out.trans (HBJ.out.mono hks)).size (fun b hb => (HF5.out b hb).1))
      refine (HR.out wn hbn).mono ?_
      rintro e w' ⟨rfl, rfl⟩
      have H6N := Lib.hid (ownI_only H6J.out hP3 (fun b hb hm => (HF5.out b hm).2 hb))
      have hal := below_lit1 wn 3 X
      have HOA := Lib.hid (ownI_only H6N.out (Only.of_below (fp := []) hal) (by simp))
      have HSRC := Lib.hid (src_lit (e := 3) wn X HIX.out)
      have HAL := Lib.hid (show (((List.range j).map RR).take q).length + [X].length ≤ 1000000 from by rw [List.length_take]; simp; omega)
      have HNX := Lib.hid (show ((List.range j).map RR).take (q + 1) = ((List.range j).map RR).take q ++ [X] from by rw [map_take hql, HX.out])
      have HNR := Lib.hid (show (powRows cs).take (q + 1) = (powRows cs).take q ++ [powR cs q] from powRows_take (by rw [HL.out]; exact hql))
      have HBN := Lib.hid (hbn.trans (hal.mono hbn.size))
      have HP2 := Lib.hid hP2
      have HN6 := Lib.hid (show ∀ b ∈ f6, b < wk.heap.size from HLT6.out)
      have hns := hP3.size
      clear hal hbn hP2 hP3
      go_wp2_with (first | (at_builtin; refine wpList_append_I _ (by rfl) _ _ 35 3 (by rfl) ji Tryz.underlying35 hji hji0 hji1 hji2 (v := .slice adg lg cg) (vx := .slice (some ⟨wn.heap.size, 0, none⟩) 1 1) (by rfl) (by rfl) HOA.out HSRC.out HAL.out ?_; intro v' w' f6' hv1 hv2 hv3; obtain ⟨adv, lv, cv, rfl, _⟩ := ownI_open hv1; have HV1 := Lib.hid hv1; have HV2 := Lib.hid hv2; have HV3 := Lib.hid hv3; clear hv1 hv2 hv3))
      all_goals (
        have HR5 := Lib.hid (ownII_only (ownII_only HPP.out (Only.of_below (fp := []) (below_lit1 wn 3 X)) (by simp)) HV3.out (fun b hb hm => by
          have h1 := HN6.out b hm
          rcases HP2.out b hb with h | h | h
          · exact (HF5.out b h).2 hm
          · have := HFN.out b h; omega
          · omega))
        have hwa : (wn.alloc (.cells #[.int .i64 X] 3)).heap.size = wn.heap.size + 1 := by simp
        go_roundw
        case rel =>
          refine ⟨q + 1, f', f6', by omega, by go_num, by rw [HNR.out]; exact HR5.out, by rw [HNX.out]; exact HV1.out, fun b hb => ⟨?_, fun hm => ?_⟩, fun b hb => ?_, HBN.out.trans (HV3.out.below HBN.out.size (fun b hb => HF6.out b hb))⟩
          · rcases HP2.out b hb with h | h | h
            · exact (HF5.out b h).1
            · have := HFN.out b h; omega
            · omega
          · have hlt := (ownII_lt HPP.out) b hb
            rcases HV2.out b hm with h | h
            · have h1 := HN6.out b h
              rcases HP2.out b hb with g | g | g
              · exact (HF5.out b g).2 h
              · have := HFN.out b g; omega
              · omega
            · omega
          · rcases HV2.out b hb with h | h
            · exact HF6.out b h
            · omega
        case measure => simp [intOf]; omega)
end Go.Proofs.YtbcjhpgkodeoeaaGreatDoor
