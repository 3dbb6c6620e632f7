/- The texts QuaI, RowT, ColI in one: each says at its head what it proves. Conditions: as said there. -/
import Derived.Deep.RegionLaw
import Derived.Deep.Cut
import Derived.Deep.CutRange
import Derived.Test.YtbcjhpgkodeoeaaGreatDoorN25
import Derived.Test.YtbcjhpgkodeoeaaGreatDoorN23
import Derived.Test.YtbcjhpgkodeoeaaGreatDoorN05
import Derived.Test.YtbcjhpgkodeoeaaGreatDoorN04
set_option linter.unusedSimpArgs false
set_option linter.unusedVariables false
/- The program's weights of nodes: two closures, and the systems that they give. Conditions: nodes for which the system is one. -/
namespace Go.Proofs.YtbcjhpgkodeoeaaGreatDoor
open Go.RowKit

theorem rightA_any (kz : Nat) (z c : Int) (b : Nat) (w : World) (hz : z = (kz : Int)) (hk : kz ≤ 1000) (hc : w.cell? ⟨b, 0, none⟩ = some (.int .i64 c)) :
    Calls Tryz.prog 120 #[.int .i64 z, .pointer (some ⟨b, 0, none⟩)] w fun e w' => e = .returned (.int .i64 (fracZ (powZ c z) z)) ∧ w = w' := by
  have hz9 : z ≤ 9223372036854775807 := by omega
  clear hz hk
  go_enter Tryz.func120, Tryz.ntmps120
  go_wp2_with (first | (go_at_call 97; ((with_reducible refine (power_any _ _ _ hz9).mono ?_); rintro e w' ⟨rfl, rfl⟩)) | (go_at_call 65; ((with_reducible refine (fraction_any _ _ _).mono ?_); rintro e w' ⟨rfl, rfl⟩)))
  go_ret
  exact ⟨rfl, rfl⟩
theorem rightB_any (z : Int) (w : World) :
    Calls Tryz.prog 121 #[.int .i64 z] w fun e w' => e = .returned (.int .i64 (fracZ 1 z)) ∧ w = w' := by
  go_enter Tryz.func121, Tryz.ntmps121
  go_wp2_with (first | (go_at_call 65; ((with_reducible refine (fraction_any _ _ _).mono ?_); rintro e w' ⟨rfl, rfl⟩)))
  go_ret
  exact ⟨rfl, rfl⟩
theorem powRows_take {cs : List Int} {q : Nat} (h : q < cs.length) : (powRows cs).take (q + 1) = (powRows cs).take q ++ [powR cs q] := take_snoc (by simp [powRows, h])
theorem powR_take {cs : List Int} {q j : Nat} {c : Int} (h : cs[j]? = some c) : (powR cs q).take (j + 1) = (powR cs q).take j ++ [powZ c q] := take_snoc (by simp [powR, h])
theorem map_take {n q : Nat} {R : Nat → Int} (h : q < n) : ((List.range n).map R).take (q + 1) = ((List.range n).map R).take q ++ [R q] := take_snoc (by simp [h])

set_option maxRecDepth 100000 in
set_option maxHeartbeats 12800000 in
theorem quadB_any (v : Value) (cs : List Int) (n : Nat) (w : World) (h : RdI w v cs) (hn : cs.length = n) (hn8 : n ≤ 8) (hsys : sysB (powRows cs) ((List.range n).map fun (k : Nat) => fracZ 1 ((k : Int) + 1)) = true) (hRI : ∀ k : Nat, I64 (fracZ 1 ((k : Int) + 1))) :
    Calls Tryz.prog 119 #[v, .func (.func 121) #[] #[]] w (Gives (fun w' v fp => OwnI 3 w' v (solL (powRows cs) ((List.range n).map fun (k : Nat) => fracZ 1 ((k : Int) + 1))) fp) w) := by
  obtain ⟨RR, hRR⟩ : ∃ R : Nat → Int, (fun (k : Nat) => fracZ 1 ((k : Int) + 1)) = R := ⟨_, rfl⟩
  have HRR := Lib.hid hRR
  have hRI : ∀ k : Nat, I64 (RR k) := fun k => by rw [← hRR]; exact hRI k
  rw [hRR] at hsys ⊢
  clear hRR
  obtain ⟨ji, hji, hji0, hji1, hji2⟩ := info_parts Tryz.info_int
  obtain ⟨jl, hjl, hjl0, hjl1, hjl2⟩ := info_parts Tryz.info_ints
  obtain ⟨ad, len, cap, rfl, hl, hlc, hcm, h'⟩ := rdS_open h
  have hln : len = n := by omega
  subst hln
  have HL := Lib.hid hl
  have HSYS := Lib.hid hsys
  have HRI := Lib.hid hRI
  have HI5 := Lib.hid (ownII_lit (e1 := 35) (e := 3) w)
  have hb1 := below_lit w 35
  obtain ⟨W1, hW1⟩ : ∃ W, W = w.alloc (.cells #[] 35) := ⟨_, rfl⟩
  have hs1 : W1.heap.size = w.heap.size + 1 := by rw [hW1]; simp
  have hb2 := below_lit W1 3
  have HST := Lib.hid (show OwnII 35 3 (W1.alloc (.cells #[] 3)) (.slice (some ⟨w.heap.size, 0, none⟩) 0 0) [] [w.heap.size] ∧ OwnI 3 (W1.alloc (.cells #[] 3)) (.slice (some ⟨w.heap.size + 1, 0, none⟩) 0 0) [] [w.heap.size + 1] ∧ Below w.heap.size w (W1.alloc (.cells #[] 3)) from
    ⟨ownII_only (hW1 ▸ HI5.out) (Only.of_below (fp := []) hb2) (by simp), by have := own_lit (e := 3) W1; rwa [hs1] at this, (hW1 ▸ hb1 : Below w.heap.size w W1).trans (hb2.mono (by omega))⟩)
  subst hW1
  clear h hl hsys hRI hb1 hb2 hs1
  go_enter Tryz.func119, Tryz.ntmps119
  go_wp2
  go_loopw [5, 6, 7] (fun s5 s6 sk wq => ∃ (q : Nat) (f5 f6 : List Nat), q ≤ len ∧ sk = .int .i64 ((q : Int) + 1) ∧ OwnII 35 3 wq s5 ((powRows cs).take q) f5 ∧ OwnI 3 wq s6 (((List.range len).map RR).take q) f6 ∧ (∀ b ∈ f5, w.heap.size ≤ b ∧ b ∉ f6) ∧ (∀ b ∈ f6, w.heap.size ≤ b) ∧ Below w.heap.size w wq) (fun _ _ sk _ => (len + 1 - intOf sk).toNat)
  case atStart => exact ⟨0, [w.heap.size], [w.heap.size + 1], Nat.zero_le _, by simp, by simpa using HST.out.1, by simpa using HST.out.2.1, by simp, by simp, by simpa using HST.out.2.2⟩
  case round =>
    obtain ⟨wk, rfl⟩ : ∃ W, W = wr := ⟨_, rfl⟩
    obtain ⟨q, f5, f6, hq, rfl, h5, h6, hf5, hf6, hbk⟩ := hrel
    clear HI5 HST
    by_cases hql : q < len
    case neg =>
      obtain rfl : q = len := by omega
      have hqI : ¬ ((q : Int) + 1 ≤ q) := by omega
      rw [List.take_of_length_le (by rw [powRows, List.length_map, List.length_range, HL.out]; exact Nat.le_refl _)] at h5
      rw [List.take_of_length_le (by rw [List.length_map, List.length_range]; exact Nat.le_refl _)] at h6
      have HSO := Lib.hid (solveI_any _ _ (powRows cs) ((List.range q).map RR) wk (ownII_rd h5) (ownI_rd h6) HSYS.out)
      clear h5 h6
      go_wp2_with fail
      refine HSO.out.mono ?_
      rintro e w9 ⟨v9, f9, rfl, ho9, hf9, hb9⟩
      have HO9 := Lib.hid ho9
      have HF9 := Lib.hid hf9
      clear ho9 hf9
      go_wp2
      go_ret
      exact ⟨_, f9, rfl, HO9.out, fun b hb => by have := HF9.out b hb; have := hbk.size; omega, hbk.trans (hb9.mono hbk.size)⟩
    have hqI : (q : Int) + 1 ≤ len := by omega
    have hwk : IntKind.i64.wrap ((q : Int) + 1 - 1) = q := by rw [show (q : Int) + 1 - 1 = q by omega]; exact IntWalk.i64_in _ (by omega)
    obtain ⟨adp, capp, us, rfl, hqc, hcpm, hpush⟩ := ownII_push4 h5 (n := q) (by rw [List.length_take, powRows, List.length_map, List.length_range, HL.out]; omega)
    obtain ⟨adg, lg, cg, rfl, hlg, _⟩ := ownI_open h6
    have HP := Lib.hid hpush
    have H6 := Lib.hid h6
    have HLT := Lib.hid (ownII_lt h5)
    have HLT6 := Lib.hid (ownI_lt h6)
    have HF5 := Lib.hid hf5
    have HF6 := Lib.hid hf6
    have HBK := Lib.hid hbk
    have HE := Lib.hid (show OwnI 3 (wk.alloc (.cells #[] 3)) (.slice (some ⟨wk.heap.size, 0, none⟩) 0 0) [] [wk.heap.size] ∧ Below wk.heap.size wk (wk.alloc (.cells #[] 3)) from ⟨own_lit wk, below_lit wk _⟩)
    clear hpush h5 h6 hf5 hf6 hlg
    go_wp2
    go_loopw [8, 24] (fun s8 sj wq => ∃ (j : Nat) (f : List Nat), j ≤ len ∧ sj = .int .i64 j ∧ OwnI 3 wq s8 ((powR cs q).take j) f ∧ (∀ b ∈ f, wk.heap.size ≤ b) ∧ Below wk.heap.size wk wq) (fun _ sj _ => len - (intOf sj).toNat)
    case atStart => exact ⟨0, [wk.heap.size], Nat.zero_le _, rfl, by simpa using HE.out.1, by simp, HE.out.2⟩
    case round =>
      obtain ⟨wj, rfl⟩ : ∃ W, W = wr := ⟨_, rfl⟩
      obtain ⟨j, f, hj, rfl, ho, hfn, hbj⟩ := hrel
      clear HE
      by_cases hjn : j < len
      case pos =>
        have hbw := hbk.trans (hbj.mono hbk.size)
        obtain ⟨b2, o2, c, rfl, hc, hcc, hIc, _⟩ := rdI_get (rdI_mono hbw h') (k := j) hjn
        obtain ⟨ada, la, ca, rfl, hla, _⟩ := ownI_open ho
        obtain ⟨p, hp⟩ : ∃ p, powZ c q = p := ⟨_, rfl⟩
        have hpI : I64 p := hp ▸ i64_of_bd (powZ_bd _ _)
        have HPW := Lib.hid hp
        have hq9 : (q : Int) ≤ 9223372036854775807 := by omega
        have hal := below_lit1 wj 3 p
        have HOA := Lib.hid (ownI_only ho (Only.of_below (fp := []) hal) (by simp))
        have HBA := Lib.hid (hbj.trans (hal.mono hbj.size))
        have HSRC := Lib.hid (src_lit (e := 3) wj p hpI)
        have HAL := Lib.hid (show ((powR cs q).take j).length + [p].length ≤ 1000000 from by rw [List.length_take]; simp; omega)
        have HNX := Lib.hid (show (powR cs q).take (j + 1) = (powR cs q).take j ++ [p] from by rw [powR_take hc, hp])
        clear ho hal hbw hc hIc hp hpI hla
        go_wp2_with (first | (go_at_call 97; ((with_reducible refine (power_eq HPW.out hq9 _).mono ?_); rintro e w' ⟨rfl, rfl⟩)) | (at_builtin; refine wpList_append_I _ (by rfl) _ _ 35 3 (by rfl) ji Tryz.underlying35 hji hji0 hji1 hji2 (v := .slice ada la ca) (vx := .slice (some ⟨wj.heap.size, 0, none⟩) 1 1) (by rfl) (by rfl) HOA.out HSRC.out HAL.out ?_; intro v' w' f' hv1 hv2 hv3; obtain ⟨adv, lv, cv, rfl, _⟩ := ownI_open hv1; have HV1 := Lib.hid hv1; have HV2 := Lib.hid hv2; have HV3 := Lib.hid hv3; clear hv1 hv2 hv3))
        all_goals (
          go_roundw
          case rel =>
            refine ⟨j + 1, f', by omega, by go_num, by rw [HNX.out]; exact HV1.out, fun b hb => ?_, HBA.out.trans (HV3.out.below HBA.out.size (fun b hb => hfn b hb))⟩
            rcases HV2.out b hb with h | h
            · exact hfn b h
            · have := HBA.out.size; omega
          case measure => simp [intOf]; omega)
      obtain rfl : j = len := by omega
      rw [List.take_of_length_le (by rw [powR, List.length_map, HL.out]; exact Nat.le_refl _)] at ho
      obtain ⟨ada, la, ca, rfl, hla, _⟩ := ownI_open ho
      obtain ⟨hrowa, hcl⟩ := HP.out wj [] (Only.of_below hbj) (by simp)
      have HNP := Lib.hid hrowa
      have HFN := Lib.hid hfn
      have HBJ := Lib.hid hbj
      have HPA := Lib.hid (fun (w3 : World) (gg2 capn2 : Nat) hown2 hgrow2 hat2 => hcl _ (powR cs q) f w3 gg2 capn2 ho (fun b hb hm => (by have h1 := HLT.out b hm; have h2 := hfn b hb; omega)) hown2 hgrow2 hat2)
      obtain ⟨X, hX⟩ : ∃ X, RR q = X := ⟨_, rfl⟩
      have HX := Lib.hid hX
      have HIX := Lib.hid (show I64 X from hX ▸ HRI.out q)
      have HR := Lib.hid (fun (W : World) (hW : Below w.heap.size w W) => (hX ▸ (by rw [← HRR.out]; exact rightB_any _ _) : Calls Tryz.prog 121 #[.int .i64 ((q : Int) + 1)] W fun e w' => e = .returned (.int .i64 X) ∧ W = w'))
      have H6J := Lib.hid (ownI_only H6.out (Only.of_below (fp := []) hbj) (by simp))
      clear hrowa hcl ho hfn hbj hla hX
      go_wp2_with (first | (at_builtin; refine wpList_append_lies _ rfl _ _ _ rfl 0 35 jl _ 1 24 Tryz.underlying25 hjl hjl0 hjl1 hjl2 rfl (by omega) (.slice adp q capp) q _ (by rfl) (HNP.out.alloc _) ⟨wj.heap.size, 0, none⟩ 1 1 [.slice ada la ca] (by rfl) (by rfl) (World.news_of_block (cs := #[.slice ada la ca]) (t := 35) (fr := (0, 0)) (heap_alloc_new wj _)) (by simp [Value.oneCell']) (by omega) (by unfold maxLen; omega) (by omega) (by simp) (wj.heap.size + 1) (by simp) ?_; intro gg capn wn hown1 hgrow hat hlt1; obtain ⟨f', hP1, hP2, hP3⟩ := HPA.out wn gg capn hown1 hgrow hat; have HPP := Lib.hid hP1; clear hown1 hgrow hat hP1) | fail)
      have hjs := HBJ.out.size
      have hks := HBK.out.size
      have hbn : Below w.heap.size w wn := (HBK.out.trans (HBJ.out.mono hks)).trans (hP3.below (HBK.out.trans (HBJ.out.mono hks)).size (fun b hb => (HF5.out b hb).1))
      refine (HR.out wn hbn).mono ?_
      rintro e w' ⟨rfl, rfl⟩
      have H6N := Lib.hid (ownI_only H6J.out hP3 (fun b hb hm => (HF5.out b hm).2 hb))
      have hal := below_lit1 wn 3 X
      have HOA := Lib.hid (ownI_only H6N.out (Only.of_below (fp := []) hal) (by simp))
      have HSRC := Lib.hid (src_lit (e := 3) wn X HIX.out)
      have HAL := Lib.hid (show (((List.range j).map RR).take q).length + [X].length ≤ 1000000 from by rw [List.length_take]; simp; omega)
      have HNX := Lib.hid (show ((List.range j).map RR).take (q + 1) = ((List.range j).map RR).take q ++ [X] from by rw [map_take hql, HX.out])
      have HNR := Lib.hid (show (powRows cs).take (q + 1) = (powRows cs).take q ++ [powR cs q] from powRows_take (by rw [HL.out]; exact hql))
      have HBN := Lib.hid (hbn.trans (hal.mono hbn.size))
      have HP2 := Lib.hid hP2
      have HN6 := Lib.hid (show ∀ b ∈ f6, b < wk.heap.size from HLT6.out)
      have hns := hP3.size
      clear hal hbn hP2 hP3
      go_wp2_with (first | (at_builtin; refine wpList_append_I _ (by rfl) _ _ 35 3 (by rfl) ji Tryz.underlying35 hji hji0 hji1 hji2 (v := .slice adg lg cg) (vx := .slice (some ⟨wn.heap.size, 0, none⟩) 1 1) (by rfl) (by rfl) HOA.out HSRC.out HAL.out ?_; intro v' w' f6' hv1 hv2 hv3; obtain ⟨adv, lv, cv, rfl, _⟩ := ownI_open hv1; have HV1 := Lib.hid hv1; have HV2 := Lib.hid hv2; have HV3 := Lib.hid hv3; clear hv1 hv2 hv3))
      all_goals (
        have HR5 := Lib.hid (ownII_only (ownII_only HPP.out (Only.of_below (fp := []) (below_lit1 wn 3 X)) (by simp)) HV3.out (fun b hb hm => by
          have h1 := HN6.out b hm
          rcases HP2.out b hb with h | h | h
          · exact (HF5.out b h).2 hm
          · have := HFN.out b h; omega
          · omega))
        have hwa : (wn.alloc (.cells #[.int .i64 X] 3)).heap.size = wn.heap.size + 1 := by simp
        go_roundw
        case rel =>
          refine ⟨q + 1, f', f6', by omega, by go_num, by rw [HNR.out]; exact HR5.out, by rw [HNX.out]; exact HV1.out, fun b hb => ⟨?_, fun hm => ?_⟩, fun b hb => ?_, HBN.out.trans (HV3.out.below HBN.out.size (fun b hb => HF6.out b hb))⟩
          · rcases HP2.out b hb with h | h | h
            · exact (HF5.out b h).1
            · have := HFN.out b h; omega
            · omega
          · have hlt := (ownII_lt HPP.out) b hb
            rcases HV2.out b hm with h | h
            · have h1 := HN6.out b h
              rcases HP2.out b hb with g | g | g
              · exact (HF5.out b g).2 h
              · have := HFN.out b g; omega
              · omega
            · omega
          · rcases HV2.out b hb with h | h
            · exact HF6.out b h
            · omega
        case measure => simp [intOf]; omega)
set_option maxRecDepth 100000 in
set_option maxHeartbeats 12800000 in
theorem quadA_any (v : Value) (cs : List Int) (n bc : Nat) (c : Int) (w : World) (h : RdI w v cs) (hc : w.cell? ⟨bc, 0, none⟩ = some (.int .i64 c)) (hn : cs.length = n) (hn8 : n ≤ 8) (hsys : sysB (powRows cs) (rgtA c n) = true) :
    Calls Tryz.prog 119 #[v, .func (.func 120) #[] #[.pointer (some ⟨bc, 0, none⟩)]] w (Gives (fun w' v fp => OwnI 3 w' v (solL (powRows cs) (rgtA c n)) fp) w) := by
  obtain ⟨RR, hRR⟩ : ∃ R : Nat → Int, (fun (k : Nat) => fracZ (powZ c ((k : Int) + 1)) ((k : Int) + 1)) = R := ⟨_, rfl⟩
  have HRR := Lib.hid hRR
  have HCC := Lib.hid (fun (W : World) (hW : Below w.heap.size w W) => cell_below hW hc)
  have hRI : ∀ k : Nat, I64 (RR k) := fun k => by rw [← hRR]; exact i64_of_bd (fracZ_bd _ _)
  have e : rgtA c n = (List.range n).map RR := by rw [rgtA, hRR]
  rw [e] at hsys ⊢
  clear hRR e hc
  obtain ⟨ji, hji, hji0, hji1, hji2⟩ := info_parts Tryz.info_int
  obtain ⟨jl, hjl, hjl0, hjl1, hjl2⟩ := info_parts Tryz.info_ints
  obtain ⟨ad, len, cap, rfl, hl, hlc, hcm, h'⟩ := rdS_open h
  have hln : len = n := by omega
  subst hln
  have HL := Lib.hid hl
  have HSYS := Lib.hid hsys
  have HRI := Lib.hid hRI
  have HI5 := Lib.hid (ownII_lit (e1 := 35) (e := 3) w)
  have hb1 := below_lit w 35
  obtain ⟨W1, hW1⟩ : ∃ W, W = w.alloc (.cells #[] 35) := ⟨_, rfl⟩
  have hs1 : W1.heap.size = w.heap.size + 1 := by rw [hW1]; simp
  have hb2 := below_lit W1 3
  have HST := Lib.hid (show OwnII 35 3 (W1.alloc (.cells #[] 3)) (.slice (some ⟨w.heap.size, 0, none⟩) 0 0) [] [w.heap.size] ∧ OwnI 3 (W1.alloc (.cells #[] 3)) (.slice (some ⟨w.heap.size + 1, 0, none⟩) 0 0) [] [w.heap.size + 1] ∧ Below w.heap.size w (W1.alloc (.cells #[] 3)) from
    ⟨ownII_only (hW1 ▸ HI5.out) (Only.of_below (fp := []) hb2) (by simp), by have := own_lit (e := 3) W1; rwa [hs1] at this, (hW1 ▸ hb1 : Below w.heap.size w W1).trans (hb2.mono (by omega))⟩)
  subst hW1
  clear h hl hsys hRI hb1 hb2 hs1
  go_enter Tryz.func119, Tryz.ntmps119
  go_wp2
  go_loopw [5, 6, 7] (fun s5 s6 sk wq => ∃ (q : Nat) (f5 f6 : List Nat), q ≤ len ∧ sk = .int .i64 ((q : Int) + 1) ∧ OwnII 35 3 wq s5 ((powRows cs).take q) f5 ∧ OwnI 3 wq s6 (((List.range len).map RR).take q) f6 ∧ (∀ b ∈ f5, w.heap.size ≤ b ∧ b ∉ f6) ∧ (∀ b ∈ f6, w.heap.size ≤ b) ∧ Below w.heap.size w wq) (fun _ _ sk _ => (len + 1 - intOf sk).toNat)
  case atStart => exact ⟨0, [w.heap.size], [w.heap.size + 1], Nat.zero_le _, by simp, by simpa using HST.out.1, by simpa using HST.out.2.1, by simp, by simp, by simpa using HST.out.2.2⟩
  case round =>
    obtain ⟨wk, rfl⟩ : ∃ W, W = wr := ⟨_, rfl⟩
    obtain ⟨q, f5, f6, hq, rfl, h5, h6, hf5, hf6, hbk⟩ := hrel
    clear HI5 HST
    by_cases hql : q < len
    case neg =>
      obtain rfl : q = len := by omega
      have hqI : ¬ ((q : Int) + 1 ≤ q) := by omega
      rw [List.take_of_length_le (by rw [powRows, List.length_map, List.length_range, HL.out]; exact Nat.le_refl _)] at h5
      rw [List.take_of_length_le (by rw [List.length_map, List.length_range]; exact Nat.le_refl _)] at h6
      have HSO := Lib.hid (solveI_any _ _ (powRows cs) ((List.range q).map RR) wk (ownII_rd h5) (ownI_rd h6) HSYS.out)
      clear h5 h6
      go_wp2_with fail
      refine HSO.out.mono ?_
      rintro e w9 ⟨v9, f9, rfl, ho9, hf9, hb9⟩
      have HO9 := Lib.hid ho9
      have HF9 := Lib.hid hf9
      clear ho9 hf9
      go_wp2
      go_ret
      exact ⟨_, f9, rfl, HO9.out, fun b hb => by have := HF9.out b hb; have := hbk.size; omega, hbk.trans (hb9.mono hbk.size)⟩
    have hqI : (q : Int) + 1 ≤ len := by omega
    have hwk : IntKind.i64.wrap ((q : Int) + 1 - 1) = q := by rw [show (q : Int) + 1 - 1 = q by omega]; exact IntWalk.i64_in _ (by omega)
    obtain ⟨adp, capp, us, rfl, hqc, hcpm, hpush⟩ := ownII_push4 h5 (n := q) (by rw [List.length_take, powRows, List.length_map, List.length_range, HL.out]; omega)
    obtain ⟨adg, lg, cg, rfl, hlg, _⟩ := ownI_open h6
    have HP := Lib.hid hpush
    have H6 := Lib.hid h6
    have HLT := Lib.hid (ownII_lt h5)
    have HLT6 := Lib.hid (ownI_lt h6)
    have HF5 := Lib.hid hf5
    have HF6 := Lib.hid hf6
    have HBK := Lib.hid hbk
    have HE := Lib.hid (show OwnI 3 (wk.alloc (.cells #[] 3)) (.slice (some ⟨wk.heap.size, 0, none⟩) 0 0) [] [wk.heap.size] ∧ Below wk.heap.size wk (wk.alloc (.cells #[] 3)) from ⟨own_lit wk, below_lit wk _⟩)
    clear hpush h5 h6 hf5 hf6 hlg
    go_wp2
    go_loopw [8, 24] (fun s8 sj wq => ∃ (j : Nat) (f : List Nat), j ≤ len ∧ sj = .int .i64 j ∧ OwnI 3 wq s8 ((powR cs q).take j) f ∧ (∀ b ∈ f, wk.heap.size ≤ b) ∧ Below wk.heap.size wk wq) (fun _ sj _ => len - (intOf sj).toNat)
    case atStart => exact ⟨0, [wk.heap.size], Nat.zero_le _, rfl, by simpa using HE.out.1, by simp, HE.out.2⟩
    case round =>
      obtain ⟨wj, rfl⟩ : ∃ W, W = wr := ⟨_, rfl⟩
      obtain ⟨j, f, hj, rfl, ho, hfn, hbj⟩ := hrel
      clear HE
      by_cases hjn : j < len
      case pos =>
        have hbw := hbk.trans (hbj.mono hbk.size)
        obtain ⟨b2, o2, c, rfl, hc, hcc, hIc, _⟩ := rdI_get (rdI_mono hbw h') (k := j) hjn
        obtain ⟨ada, la, ca, rfl, hla, _⟩ := ownI_open ho
        obtain ⟨p, hp⟩ : ∃ p, powZ c q = p := ⟨_, rfl⟩
        have hpI : I64 p := hp ▸ i64_of_bd (powZ_bd _ _)
        have HPW := Lib.hid hp
        have hq9 : (q : Int) ≤ 9223372036854775807 := by omega
        have hal := below_lit1 wj 3 p
        have HOA := Lib.hid (ownI_only ho (Only.of_below (fp := []) hal) (by simp))
        have HBA := Lib.hid (hbj.trans (hal.mono hbj.size))
        have HSRC := Lib.hid (src_lit (e := 3) wj p hpI)
        have HAL := Lib.hid (show ((powR cs q).take j).length + [p].length ≤ 1000000 from by rw [List.length_take]; simp; omega)
        have HNX := Lib.hid (show (powR cs q).take (j + 1) = (powR cs q).take j ++ [p] from by rw [powR_take hc, hp])
        clear ho hal hbw hc hIc hp hpI hla
        go_wp2_with (first | (go_at_call 97; ((with_reducible refine (power_eq HPW.out hq9 _).mono ?_); rintro e w' ⟨rfl, rfl⟩)) | (at_builtin; refine wpList_append_I _ (by rfl) _ _ 35 3 (by rfl) ji Tryz.underlying35 hji hji0 hji1 hji2 (v := .slice ada la ca) (vx := .slice (some ⟨wj.heap.size, 0, none⟩) 1 1) (by rfl) (by rfl) HOA.out HSRC.out HAL.out ?_; intro v' w' f' hv1 hv2 hv3; obtain ⟨adv, lv, cv, rfl, _⟩ := ownI_open hv1; have HV1 := Lib.hid hv1; have HV2 := Lib.hid hv2; have HV3 := Lib.hid hv3; clear hv1 hv2 hv3))
        all_goals (
          go_roundw
          case rel =>
            refine ⟨j + 1, f', by omega, by go_num, by rw [HNX.out]; exact HV1.out, fun b hb => ?_, HBA.out.trans (HV3.out.below HBA.out.size (fun b hb => hfn b hb))⟩
            rcases HV2.out b hb with h | h
            · exact hfn b h
            · have := HBA.out.size; omega
          case measure => simp [intOf]; omega)
      obtain rfl : j = len := by omega
      rw [List.take_of_length_le (by rw [powR, List.length_map, HL.out]; exact Nat.le_refl _)] at ho
      obtain ⟨ada, la, ca, rfl, hla, _⟩ := ownI_open ho
      obtain ⟨hrowa, hcl⟩ := HP.out wj [] (Only.of_below hbj) (by simp)
      have HNP := Lib.hid hrowa
      have HFN := Lib.hid hfn
      have HBJ := Lib.hid hbj
      have HPA := Lib.hid (fun (w3 : World) (gg2 capn2 : Nat) hown2 hgrow2 hat2 => hcl _ (powR cs q) f w3 gg2 capn2 ho (fun b hb hm => (by have h1 := HLT.out b hm; have h2 := hfn b hb; omega)) hown2 hgrow2 hat2)
      obtain ⟨X, hX⟩ : ∃ X, RR q = X := ⟨_, rfl⟩
      have HX := Lib.hid hX
      have HIX := Lib.hid (show I64 X from hX ▸ HRI.out q)
      have HR := Lib.hid (fun (W : World) (hW : Below w.heap.size w W) => (hX ▸ (by rw [← HRR.out]; exact rightA_any (q + 1) ((q : Int) + 1) c bc _ (by omega) (by omega) (HCC.out W hW)) : Calls Tryz.prog 120 #[.int .i64 ((q : Int) + 1), .pointer (some ⟨bc, 0, none⟩)] W fun e w' => e = .returned (.int .i64 X) ∧ W = w'))
      have H6J := Lib.hid (ownI_only H6.out (Only.of_below (fp := []) hbj) (by simp))
      clear hrowa hcl ho hfn hbj hla hX
      go_wp2_with (first | (at_builtin; refine wpList_append_lies _ rfl _ _ _ rfl 0 35 jl _ 1 24 Tryz.underlying25 hjl hjl0 hjl1 hjl2 rfl (by omega) (.slice adp q capp) q _ (by rfl) (HNP.out.alloc _) ⟨wj.heap.size, 0, none⟩ 1 1 [.slice ada la ca] (by rfl) (by rfl) (World.news_of_block (cs := #[.slice ada la ca]) (t := 35) (fr := (0, 0)) (heap_alloc_new wj _)) (by simp [Value.oneCell']) (by omega) (by unfold maxLen; omega) (by omega) (by simp) (wj.heap.size + 1) (by simp) ?_; intro gg capn wn hown1 hgrow hat hlt1; obtain ⟨f', hP1, hP2, hP3⟩ := HPA.out wn gg capn hown1 hgrow hat; have HPP := Lib.hid hP1; clear hown1 hgrow hat hP1) | fail)
      have hjs := HBJ.out.size
      have hks := HBK.out.size
      have hbn : Below w.heap.size w wn := (HBK.out.trans (HBJ.out.mono hks)).trans (hP3.below (HBK.out.trans (HBJ.out.mono hks)).size (fun b hb => (HF5.out b hb).1))
      refine (HR.out wn hbn).mono ?_
      rintro e w' ⟨rfl, rfl⟩
      have H6N := Lib.hid (ownI_only H6J.out hP3 (fun b hb hm => (HF5.out b hm).2 hb))
      have hal := below_lit1 wn 3 X
      have HOA := Lib.hid (ownI_only H6N.out (Only.of_below (fp := []) hal) (by simp))
      have HSRC := Lib.hid (src_lit (e := 3) wn X HIX.out)
      have HAL := Lib.hid (show (((List.range j).map RR).take q).length + [X].length ≤ 1000000 from by rw [List.length_take]; simp; omega)
      have HNX := Lib.hid (show ((List.range j).map RR).take (q + 1) = ((List.range j).map RR).take q ++ [X] from by rw [map_take hql, HX.out])
      have HNR := Lib.hid (show (powRows cs).take (q + 1) = (powRows cs).take q ++ [powR cs q] from powRows_take (by rw [HL.out]; exact hql))
      have HBN := Lib.hid (hbn.trans (hal.mono hbn.size))
      have HP2 := Lib.hid hP2
      have HN6 := Lib.hid (show ∀ b ∈ f6, b < wk.heap.size from HLT6.out)
      have hns := hP3.size
      clear hal hbn hP2 hP3
      go_wp2_with (first | (at_builtin; refine wpList_append_I _ (by rfl) _ _ 35 3 (by rfl) ji Tryz.underlying35 hji hji0 hji1 hji2 (v := .slice adg lg cg) (vx := .slice (some ⟨wn.heap.size, 0, none⟩) 1 1) (by rfl) (by rfl) HOA.out HSRC.out HAL.out ?_; intro v' w' f6' hv1 hv2 hv3; obtain ⟨adv, lv, cv, rfl, _⟩ := ownI_open hv1; have HV1 := Lib.hid hv1; have HV2 := Lib.hid hv2; have HV3 := Lib.hid hv3; clear hv1 hv2 hv3))
      all_goals (
        have HR5 := Lib.hid (ownII_only (ownII_only HPP.out (Only.of_below (fp := []) (below_lit1 wn 3 X)) (by simp)) HV3.out (fun b hb hm => by
          have h1 := HN6.out b hm
          rcases HP2.out b hb with h | h | h
          · exact (HF5.out b h).2 hm
          · have := HFN.out b h; omega
          · omega))
        have hwa : (wn.alloc (.cells #[.int .i64 X] 3)).heap.size = wn.heap.size + 1 := by simp
        go_roundw
        case rel =>
          refine ⟨q + 1, f', f6', by omega, by go_num, by rw [HNR.out]; exact HR5.out, by rw [HNX.out]; exact HV1.out, fun b hb => ⟨?_, fun hm => ?_⟩, fun b hb => ?_, HBN.out.trans (HV3.out.below HBN.out.size (fun b hb => HF6.out b hb))⟩
          · rcases HP2.out b hb with h | h | h
            · exact (HF5.out b h).1
            · have := HFN.out b h; omega
            · omega
          · have hlt := (ownII_lt HPP.out) b hb
            rcases HV2.out b hm with h | h
            · have h1 := HN6.out b h
              rcases HP2.out b hb with g | g | g
              · exact (HF5.out b g).2 h
              · have := HFN.out b g; omega
              · omega
            · omega
          · rcases HV2.out b hb with h | h
            · exact HF6.out b h
            · omega
        case measure => simp [intOf]; omega)
end Go.Proofs.YtbcjhpgkodeoeaaGreatDoor

/- A row of a tableau. Conditions: a valid tableau. -/
namespace Go.Proofs.YtbcjhpgkodeoeaaGreatDoor
open Go.RowKit

/-- What a call returns that lies in what was there. -/
def GivesV {β : Type} (Rd : World → Value → β → Prop) (w : World) (x : β) : Ending → World → Prop := fun e w' =>
  ∃ v, e = .returned v ∧ Rd w' v x ∧ Below w.heap.size w w'
/-- a row of A -/
def rowZ (A : List Int) (n i : Nat) : List Int := (A.drop (i * n)).take n
theorem rowZ_at {A : List Int} {n i j : Nat} (hj : j < n) : atZ (rowZ A n i) j = atZ A (i * n + j) := by
  unfold rowZ atZ
  rw [List.getElem?_take_of_lt hj, List.getElem?_drop]
theorem rowZ_len {A : List Int} {n i : Nat} (hA : A.length = n * n) (hi : i < n) : (rowZ A n i).length = n := by
  have : (i + 1) * n ≤ n * n := Nat.mul_le_mul_right n hi
  rw [Nat.succ_mul] at this
  rw [rowZ, List.length_take, List.length_drop]
  omega
theorem rdI_part {w : World} {b off len cap : Nat} {xs : List Int} (h : RdI w (.slice (some ⟨b, off, none⟩) len cap) xs) {lo n : Nat} (hl : lo + n ≤ len) : RdI w (.slice (some ⟨b, off + lo, none⟩) n (cap - lo)) ((xs.drop lo).take n) := by
  obtain ⟨ad', cap', he, h1, h2, h3⟩ := h
  injection he with e1 e2 e3
  subst e2 e3
  have hlen : ((xs.drop lo).take n).length = n := by rw [List.length_take, List.length_drop]; omega
  refine ⟨_, _, by rw [hlen], by rw [hlen]; omega, by omega, fun hp => ⟨b, off + lo, rfl, fun i x hx => ?_⟩⟩
  obtain ⟨b', o', hb, hc⟩ := h3 (by rw [hlen] at hp; omega)
  rw [← e1] at hb
  simp only [Option.some.injEq, Addr.mk.injEq] at hb
  obtain ⟨rfl, rfl, _⟩ := hb
  have hi := (List.getElem?_eq_some_iff.1 hx).1
  rw [hlen] at hi
  rw [List.getElem?_take_of_lt hi, List.getElem?_drop] at hx
  obtain ⟨us, hs, hu, hE⟩ := hc (lo + i) x hx
  exact ⟨us, hs, fun j u hj => by have := hu j u hj; rwa [show off + lo + i * 1 + j = off + (lo + i) * 1 + j by omega], hE⟩
theorem row_bd {n i : Nat} (hi : i < n) (hn : n ≤ 8) : 0 ≤ (i : Int) * n ∧ (i : Int) * n ≤ 64 ∧ ((i : Int) * n).toNat = i * n ∧ ((i : Int) + 1) * n = (i : Int) * n + n ∧ i * n + n ≤ n * n ∧ ((n * n : Nat) : Int) ≤ 64 ∧ ((i * n : Nat) : Int) = (i : Int) * n := by
  have h1 : i * n ≤ 8 * 8 := Nat.mul_le_mul (by omega) hn
  have h2 : ((i * n : Nat) : Int) = (i : Int) * n := by simp
  have h3 : (i + 1) * n ≤ n * n := Nat.mul_le_mul_right n hi
  have h4 : n * n ≤ 8 * 8 := Nat.mul_le_mul hn hn
  rw [Nat.succ_mul] at h3
  refine ⟨by omega, by omega, by omega, ?_, h3, by omega, h2⟩
  rw [Int.add_mul, Int.one_mul]
set_option maxRecDepth 100000 in
set_option maxHeartbeats 1600000 in
theorem row_any (v : Value) (t : TabZ) (w : World) (h : RdTab w v t) (hok : tabOkB t = true) {i : Nat} (hi : i < t.B.length) :
    Calls Tryz.prog 118 #[v, .int .i64 i] w (GivesV RdI w (rowZ t.A t.B.length i)) := by
  obtain ⟨vA, vB, rfl, hI, hA, hB⟩ := h
  obtain ⟨hs, hAn, hn8⟩ := tabOk_num hok
  obtain ⟨n, hn⟩ : ∃ n, n = t.B.length := ⟨_, rfl⟩
  rw [← hn] at hs hAn hn8 hi ⊢
  have hb0 : Below w.heap.size w (w.alloc (.cells #[.int .i64 t.stages, vA, vB] 37)) := (Below.refl _ _).alloc (Nat.le_refl _) _
  rw [hs] at hb0 ⊢
  obtain ⟨p0, p1, p2, p3, p4, p5, p7⟩ := row_bd hi hn8
  obtain ⟨aA, nA, cA, rfl, lA, hlc, hcm, gA⟩ := rdS_open (rdI_mono hb0 hA)
  have hnA : nA = n * n := by omega
  obtain ⟨bA, oA, x, rfl, _⟩ := rdI_get gA (k := i * n) (by omega)
  have hP := rdI_part gA (lo := i * n) (n := n) (by omega)
  have HP := Lib.hid hP
  have q1 : (i : Int) * n + n ≤ cA := by omega
  have q2 : (i : Int) * n ≤ (i : Int) * n + n := by omega
  have q3 : ((i : Int) * n + n).toNat = i * n + n := by omega
  have q4 : 0 ≤ (i : Int) * n + n := by omega
  have q5 : ¬ cA - i * n = 0 := by omega
  have q6 : (i : Int) * n + n ≤ 72 := by omega
  have HB := Lib.hid hb0
  clear hs hAn hn lA hP hB gA hA hb0 hnA p7 p4 p5
  go_enter Tryz.func118, Tryz.ntmps118
  go_wp2
  go_ret
  exact ⟨_, rfl, HP.out, HB.out⟩


end Go.Proofs.YtbcjhpgkodeoeaaGreatDoor

/- The program's CollocationTableau at Gauss's nodes. Conditions: one to three nodes. -/
namespace Go.Proofs.YtbcjhpgkodeoeaaGreatDoor
open Go.RowKit Go.Sort

theorem mk_rowG (n : Nat) (nz : Int) (hz : nz = n) (h7 : n ≤ 100) : ∀ w : World, (Instr.makeSlice 35 (.int .i64 nz) (.int .i64 nz)).run Tryz.prog w = .ok (.slice (some ⟨w.heap.size, 0, none⟩) n n) (w.alloc (.cells (Array.replicate n (.int .i64 0)) 3)) := by
  intro w
  subst hz
  obtain ⟨i0, hi, hz0, hz1, hz2⟩ := info_parts Tryz.info_int
  have hr := run_make (P := Tryz.prog) w 35 3 i0 (.int .i64 0) Tryz.underlying35 hi hz0 .i64 .i64 n n (by omega) (Int.le_refl _) (by rw [hz2]; omega) (by omega)
  simp only [Int.toNat_natCast] at hr
  rw [hr]
  have hm : madeCells (Value.int .i64 0).cells (n * i0.size) = Array.replicate n (Value.int .i64 0) := by
    rw [hz1, Nat.mul_one]
    exact Array.toList_inj.1 ((toList_madeCells_one _ _).trans (by simp))
  rw [hm]
theorem zeros_row (w : World) {n : Nat} (h7 : n ≤ 100) : OwnI 3 (w.alloc (.cells (Array.replicate n (.int .i64 0)) 3)) (.slice (some ⟨w.heap.size, 0, none⟩) n n) (List.replicate n 0) [w.heap.size] := by
  refine ⟨⟨by simp, .inr ⟨w.heap.size, n, Array.replicate n (.int .i64 0), by simp, Nat.zero_le _, heap_alloc_new w _, by simp, by unfold maxLen; omega, by simp, by simp⟩⟩, rfl, fun x hx => ?_⟩
  rw [List.mem_replicate] at hx
  rw [hx.2]
  exact ⟨by decide, by decide⟩
/-- An empty tableau: its rows lie in blocks of their own. -/
def EmptyT (n : Nat) (w : World) : Ending → World → Prop := fun e w' => ∃ gA gB : Nat, e = .returned (.agg #[.int .i64 (n : Int), .slice (some ⟨gA, 0, none⟩) (n * n) (n * n), .slice (some ⟨gB, 0, none⟩) n n]) ∧
  OwnI 3 w' (.slice (some ⟨gA, 0, none⟩) (n * n) (n * n)) (List.replicate (n * n) 0) [gA] ∧ OwnI 3 w' (.slice (some ⟨gB, 0, none⟩) n n) (List.replicate n 0) [gB] ∧ gA ≠ gB ∧ w.heap.size ≤ gA ∧ w.heap.size ≤ gB ∧ Below w.heap.size w w'
set_option maxRecDepth 100000 in
set_option maxHeartbeats 3200000 in
theorem empty_any (n : Nat) (nz : Int) (hnz : nz = n) (hn : n ≤ 8) (w : World) : Calls Tryz.prog 113 #[.int .i64 nz] w (EmptyT n w) := by
  have hsq : (n : Int) * n = ((n * n : Nat) : Int) := by rw [Int.natCast_mul]
  have hsq64 : n * n ≤ 64 := Nat.mul_le_mul hn hn
  obtain ⟨N, hN⟩ : ∃ N, N = n * n := ⟨_, rfl⟩
  obtain ⟨Nz, hNz⟩ : ∃ z : Int, nz * nz = z := ⟨_, rfl⟩
  have hNn : Nz = (N : Int) := by rw [← hNz, hnz, hsq, hN]
  have hwq : IntKind.i64.wrap (nz * nz) = Nz := by rw [hNz]; exact IntWalk.i64_in _ (by omega)
  have hmk1 := mk_rowG N Nz hNn (by omega)
  have hmk2 := mk_rowG n nz hnz (by omega)
  have hs0 : ∀ C : Obj, (w.alloc C).heap.size = w.heap.size + 1 := fun C => by simp
  have hsA : ∀ C o : Obj, ((w.alloc C).alloc o).heap.size = w.heap.size + 1 + 1 := fun C o => by simp
  have hbA : ∀ C o o' : Obj, Below w.heap.size w (((w.alloc C).alloc o).alloc o').drew := fun C o o' =>
    ((((Below.refl w.heap.size w).alloc (Nat.le_refl _) _).alloc (by simp) _).alloc (by simp; omega) _).drew
  have hal : ∀ (W : World) (o : Obj), Below W.heap.size W (W.alloc o) := fun W o => (Below.refl _ _).alloc (Nat.le_refl _) _
  have hdr : ∀ (W : World), Below W.heap.size W W.drew := fun W => (Below.refl _ _).drew
  have H1 := Lib.hid (fun C : Obj => show EmptyT n w (.returned (.agg #[.int .i64 nz, .slice (some ⟨w.heap.size + 1, 0, none⟩) N N, .slice (some ⟨w.heap.size + 1 + 1, 0, none⟩) n n])) (((w.alloc C).alloc (.cells (Array.replicate N (.int .i64 0)) 3)).alloc (.cells (Array.replicate n (.int .i64 0)) 3)).drew from by
    have hz := zeros_row (n := N) (w.alloc C) (by omega)
    have hz3 := zeros_row (n := n) ((w.alloc C).alloc (.cells (Array.replicate N (.int .i64 0)) 3)) (by omega)
    rw [hs0] at hz
    rw [hsA] at hz3
    have hb := hbA C (.cells (Array.replicate N (.int .i64 0)) 3) (.cells (Array.replicate n (.int .i64 0)) 3)
    have hz' := ownI_only (ownI_only hz (Only.of_below (fp := []) (hal _ (.cells (Array.replicate n (.int .i64 0)) 3))) (by simp)) (Only.of_below (fp := []) (hdr _)) (by simp)
    have hz3' := ownI_only hz3 (Only.of_below (fp := []) (hdr _)) (by simp)
    subst hnz
    rw [hN] at hz' hz3' hb ⊢
    exact ⟨_, _, rfl, hz', hz3', by omega, by omega, by omega, hb⟩)
  have H2 := Lib.hid (fun C : Obj => show EmptyT n w (.returned (.agg #[.int .i64 nz, .slice (some ⟨w.heap.size + 1 + 1, 0, none⟩) N N, .slice (some ⟨w.heap.size + 1, 0, none⟩) n n])) (((w.alloc C).alloc (.cells (Array.replicate n (.int .i64 0)) 3)).alloc (.cells (Array.replicate N (.int .i64 0)) 3)).drew from by
    have hz := zeros_row (n := n) (w.alloc C) (by omega)
    have hz3 := zeros_row (n := N) ((w.alloc C).alloc (.cells (Array.replicate n (.int .i64 0)) 3)) (by omega)
    rw [hs0] at hz
    rw [hsA] at hz3
    have hb := hbA C (.cells (Array.replicate n (.int .i64 0)) 3) (.cells (Array.replicate N (.int .i64 0)) 3)
    have hz' := ownI_only (ownI_only hz (Only.of_below (fp := []) (hal _ (.cells (Array.replicate N (.int .i64 0)) 3))) (by simp)) (Only.of_below (fp := []) (hdr _)) (by simp)
    have hz3' := ownI_only hz3 (Only.of_below (fp := []) (hdr _)) (by simp)
    subst hnz
    rw [hN] at hz' hz3' hb ⊢
    exact ⟨_, _, rfl, hz3', hz', by omega, by omega, by omega, hb⟩)
  clear hs0 hsA hbA hal hdr hsq hsq64 hN hNz hNn hnz
  go_enter Tryz.func113, Tryz.ntmps113
  go_wp2
  go_region_law (fail)
  · go_wp2
    refine bodyPost_ret (v := .agg #[.int .i64 nz, .slice (some ⟨w.heap.size + 1, 0, none⟩) N N, .slice (some ⟨w.heap.size + 1 + 1, 0, none⟩) n n]) (by simp [results, Tryz.results113, go_sem]) rfl ?_
    exact H1.out _
  · go_wp2
    refine bodyPost_ret (v := .agg #[.int .i64 nz, .slice (some ⟨w.heap.size + 1 + 1, 0, none⟩) N N, .slice (some ⟨w.heap.size + 1, 0, none⟩) n n]) (by simp [results, Tryz.results113, go_sem]) rfl ?_
    exact H2.out _
set_option maxRecDepth 100000 in
set_option maxHeartbeats 1600000 in
theorem rowI_any (b off len cap : Nat) (vB : Value) (n i : Nat) (nz iz : Int) (w : World) (hnz : nz = (n : Int)) (hiz : iz = (i : Int)) (hn8 : n ≤ 8) (hi : i < n) (hlen : len = n * n) (hlc : len ≤ cap) (hcm : cap ≤ 9223372036854775807) (hvB : ∃ ad l c, vB = .slice ad l c) :
    Calls Tryz.prog 118 #[.agg #[.int .i64 nz, .slice (some ⟨b, off, none⟩) len cap, vB], .int .i64 iz] w fun e w' => e = .returned (.slice (some ⟨b, off + i * n, none⟩) n (cap - i * n)) ∧ Below w.heap.size w w' := by
  subst hlen hnz hiz
  obtain ⟨adb, lb, cb, rfl⟩ := hvB
  obtain ⟨p0, p1, p2, p3, p4, p5, p7⟩ := row_bd hi hn8
  have hb0 : Below w.heap.size w (w.alloc (.cells #[.int .i64 (n : Int), .slice (some ⟨b, off, none⟩) (n * n) cap, .slice adb lb cb] 37)) := (Below.refl _ _).alloc (Nat.le_refl _) _
  have q1 : (i : Int) * n + n ≤ cap := by omega
  have q2 : (i : Int) * n ≤ (i : Int) * n + n := by omega
  have q3 : ((i : Int) * n + n).toNat = i * n + n := by omega
  have q4 : 0 ≤ (i : Int) * n + n := by omega
  have q5 : ¬ cap - i * n = 0 := by omega
  have q6 : (i : Int) * n + n ≤ 72 := by omega
  have HB := Lib.hid hb0
  clear hb0 p7 p4 p5
  go_enter Tryz.func118, Tryz.ntmps118
  go_wp2
  go_ret
  exact ⟨rfl, HB.out⟩
end Go.Proofs.YtbcjhpgkodeoeaaGreatDoor
