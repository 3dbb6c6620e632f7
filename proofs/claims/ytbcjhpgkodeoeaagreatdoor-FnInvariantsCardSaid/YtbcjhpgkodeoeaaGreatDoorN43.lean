/- The texts ParX, KnoI in one: each says at its head what it proves. Conditions: as said there. -/
import Derived.Test.YtbcjhpgkodeoeaaGreatDoorN42
import Derived.Test.YtbcjhpgkodeoeaaGreatDoorN04
import Derived.Test.YtbcjhpgkodeoeaaGreatDoorN05
import Derived.Test.YtbcjhpgkodeoeaaGreatDoorN31
import Derived.Test.YtbcjhpgkodeoeaaGreatDoorN23
set_option linter.unusedSimpArgs false
set_option linter.unusedVariables false
/- The program's ParseNumbers at one number, ParseTableau at the middle rule's text. Conditions: the cell of a variable of the library's own. -/
namespace Go.Proofs.YtbcjhpgkodeoeaaGreatDoor
open Go.RowKit Go.Sort

theorem one_n : fracZ 1 1 = 1 := by rw [fracZ_B]; decide +kernel
theorem num_half : numI [49, 47, 50] = 500000136 := by
  rw [numI, if_neg (by decide), if_neg (by decide), if_neg (by decide)]
  have e1 : digI (Lib.cut (Lib.trimPrefix [49, 47, 50] [45]) [47]).1 = 1 := by decide
  have e2 : (if (Lib.cut (Lib.trimPrefix [49, 47, 50] [45]) [47]).2.2 = true then digI (Lib.cut (Lib.trimPrefix [49, 47, 50] [45]) [47]).2.1 else 1) = 2 := by decide
  rw [e1, e2]
  exact half_n
theorem num_one : numI [49] = 1 := by
  rw [numI, if_neg (by decide), if_neg (by decide), if_neg (by decide)]
  have e1 : digI (Lib.cut (Lib.trimPrefix [49] [45]) [47]).1 = 1 := by decide
  have e2 : (if (Lib.cut (Lib.trimPrefix [49] [45]) [47]).2.2 = true then digI (Lib.cut (Lib.trimPrefix [49] [45]) [47]).2.1 else 1) = 1 := by decide
  rw [e1, e2]
  exact one_n
theorem ok_half : okI [49, 47, 50] = true ∧ numV [49, 47, 50] = 500000136 := by
  have h : okI [49, 47, 50] = true := by
    rw [okI, num_half]
    decide +kernel
  exact ⟨h, by rw [numV, if_pos h, num_half]⟩
theorem ok_one : okI [49] = true ∧ numV [49] = 1 := by
  have h : okI [49] = true := by
    rw [okI, num_one]
    decide +kernel
  exact ⟨h, by rw [numV, if_pos h, num_one]⟩
theorem split_half : Lib.split [49, 47, 50] [32] = [[49, 47, 50]] := by decide
theorem split_one : Lib.split [49] [32] = [[49]] := by decide
theorem split_mid : Lib.split [49, 47, 50, 32, 124, 32, 49] [32, 124, 32] = [[49, 47, 50], [49]] := by decide
/-- One number of the call's own, and yes. -/
def Gives1 (x : Int) (w : World) : Ending → World → Prop := fun e w' => ∃ v f, e = .returned (.tuple #[v, .bool true]) ∧ OwnI 3 w' v [x] f ∧ (∀ b ∈ f, w.heap.size ≤ b) ∧ Below w.heap.size w w'
set_option maxRecDepth 100000 in
set_option maxHeartbeats 3200000 in
theorem parseNums_any (l : List UInt8) (s : ByteArray) (x : Int) (hs : s = ByteArray.mk l.toArray) (hl : l.length ≤ 1000) (hsp : Lib.split l [32] = [l]) (hok : okI l = true) (hx : numV l = x) (hI : I64 x) (w : World) (hm : MaxCell w) :
    Calls Tryz.prog 114 #[.string s] w (Gives1 x w) := by
  obtain ⟨ji, hji, hji0, hji1, hji2⟩ := info_parts Tryz.info_int
  obtain ⟨W0, hW0⟩ : ∃ W, W = w.alloc (.cells #[] 3) := ⟨_, rfl⟩
  have hb0 : Below w.heap.size w W0 := hW0 ▸ below_lit w _
  have HE := Lib.hid (show OwnI 3 W0 (.slice (some ⟨w.heap.size, 0, none⟩) 0 0) [] [w.heap.size] from hW0 ▸ own_lit w)
  have HSP := Lib.hid (show Calls Tryz.prog 87 #[.string s, .string ⟨#[32]⟩] W0 (Words W0 [l]) from hsp ▸ split_any l [32] s ⟨#[32]⟩ hs rfl (by omega) (by decide) W0 (maxCell_mono hb0 hm))
  have HPN := Lib.hid (fun (W : World) (hW : Below w.heap.size w W) => (hok ▸ hx ▸ parseNum_any l s hs (by omega) W (maxCell_mono hW hm) : Calls Tryz.prog 141 #[.string s] W fun e w' => e = .returned (.tuple #[.int .i64 x, .bool true]) ∧ Below W.heap.size W w'))
  have HS := Lib.hid hs
  have HW0 := Lib.hid hW0
  have HB0 := Lib.hid hb0
  have HI := Lib.hid hI
  clear hs hsp hok hx hW0 hb0 hI hm
  go_enter Tryz.func114, Tryz.ntmps114
  go_wp2_with fail
  rw [← HW0.out]
  refine HSP.out.mono ?_
  rintro e w1 ⟨g, cap, n, rfl, hR⟩
  obtain rfl : n = 1 := by have := hR.len; simpa using this.symm
  have hcell := hR.at (i := 0) (x := l) rfl HS.out
  have HR := Lib.hid hR
  have HB1 := Lib.hid (HB0.out.trans (hR.below.mono HB0.out.size))
  have HE1 := Lib.hid (ownI_only HE.out (Only.of_below (fp := []) hR.below) (by simp))
  clear hR
  go_wp2
  go_loopw [4, 13] (fun s4 sj wq => ∃ (j : Nat) (f : List Nat), j ≤ 1 ∧ sj = .int .i64 j ∧ OwnI 3 wq s4 (if j = 0 then [] else [x]) f ∧ (∀ b ∈ f, w.heap.size ≤ b) ∧ Below w.heap.size w wq ∧ (j = 0 → wq = w1)) (fun _ sj _ => 1 - (intOf sj).toNat)
  case atStart => exact ⟨0, [w.heap.size], by omega, rfl, by simpa using HE1.out, by simp, HB1.out, fun _ => rfl⟩
  case round =>
    obtain ⟨wk, rfl⟩ : ∃ W, W = wr := ⟨_, rfl⟩
    obtain ⟨j, f, hj, rfl, ho, hf, hb, hon⟩ := hrel
    rcases (by omega : j = 1 ∨ j = 0) with rfl | rfl
    · rw [if_neg (by omega)] at ho
      have HO := Lib.hid ho
      clear ho
      go_wp2
      go_ret2
      exact ⟨_, f, rfl, HO.out, hf, hb⟩
    · rw [if_pos rfl] at ho
      obtain rfl := hon rfl
      obtain ⟨ada, la, ca, rfl, hla, _⟩ := ownI_open ho
      have HPK := Lib.hid (HPN.out wk hb)
      have HO := Lib.hid ho
      have HF := Lib.hid hf
      have HBK := Lib.hid hb
      clear ho hf hb hon hla
      go_wp2_with fail
      refine HPK.out.mono ?_
      rintro e w2 ⟨rfl, hb2⟩
      have hal := below_lit1 w2 3 x
      have HOA := Lib.hid (ownI_only (ownI_only HO.out (Only.of_below (fp := []) hb2) (by simp)) (Only.of_below (fp := []) hal) (by simp))
      have HSRC := Lib.hid (src_lit (e := 3) w2 x HI.out)
      have HAL := Lib.hid (show ([] : List Int).length + [x].length ≤ 1000000 from by simp)
      have hb2a := hb2.trans (hal.mono hb2.size)
      have HBA := Lib.hid (HBK.out.trans (hb2a.mono HBK.out.size))
      have HB2A := Lib.hid hb2a
      clear hal hb2 hb2a
      go_wp2_with (first | (at_builtin; refine wpList_append_I _ (by rfl) _ _ 35 3 (by rfl) ji Tryz.underlying35 hji hji0 hji1 hji2 (v := .slice ada la ca) (vx := .slice (some ⟨w2.heap.size, 0, none⟩) 1 1) (by rfl) (by rfl) HOA.out HSRC.out HAL.out ?_; intro v' w' f' hv1 hv2 hv3; obtain ⟨adv, lv, cv, rfl, _⟩ := ownI_open hv1; have HV1 := Lib.hid hv1; have HV2 := Lib.hid hv2; have HV3 := Lib.hid hv3; clear hv1 hv2 hv3))
      all_goals (
        have hFw : ∀ b ∈ f', w.heap.size ≤ b := fun b hb => by
          rcases HV2.out b hb with h | h
          · exact HF.out b h
          · have := HBA.out.size; omega
        go_roundw
        case rel =>
          refine ⟨1, f', by omega, by go_num, by rw [if_neg (by omega)]; simpa using HV1.out, hFw, HBA.out.trans (HV3.out.below HBA.out.size (fun b hb => HF.out b hb)), fun h => by omega⟩
        case measure => simp [intOf])
set_option maxRecDepth 100000 in
set_option maxHeartbeats 6400000 in
theorem parseMid_any (w : World) (hm : MaxCell w) : Calls Tryz.prog 50 #[.string ⟨#[49, 47, 50, 32, 124, 32, 49]⟩] w (GivesT (gauT 1) w) := by
  obtain ⟨ji, hji, hji0, hji1, hji2⟩ := info_parts Tryz.info_int
  obtain ⟨s, hs⟩ : ∃ s : ByteArray, s = ⟨#[49, 47, 50, 32, 124, 32, 49]⟩ := ⟨_, rfl⟩
  obtain ⟨W0, hW0⟩ : ∃ W, W = w.alloc (.cells #[.int .i64 0, .slice none 0 0, .slice none 0 0] 37) := ⟨_, rfl⟩
  have hb0 : Below w.heap.size w W0 := hW0 ▸ (Below.refl _ _).alloc (Nat.le_refl _) _
  have HR0 := Lib.hid (show RBox W0 w.heap.size from hW0 ▸ RBox.new w (.int .i64 0) (.slice none 0 0) (.slice none 0 0) 37)
  have HSP := Lib.hid (show Calls Tryz.prog 87 #[.string s, .string ⟨#[32, 124, 32]⟩] W0 (Words W0 [[49, 47, 50], [49]]) from split_mid ▸ split_any [49, 47, 50, 32, 124, 32, 49] [32, 124, 32] s ⟨#[32, 124, 32]⟩ hs rfl (by decide) (by decide) W0 (maxCell_mono hb0 hm))
  have hsn : (s.toList == [110, 111, 110, 101]) = false := by
    rw [hs, show (ByteArray.mk #[49, 47, 50, 32, 124, 32, 49]).toList = [49, 47, 50, 32, 124, 32, 49] from ByteArray.toList_mk [49, 47, 50, 32, 124, 32, 49]]
    decide
  have hs0 : W0.heap.size = w.heap.size + 1 := by rw [hW0]; simp
  have HMX := Lib.hid (fun (W : World) (hW : Below w.heap.size w W) => maxCell_mono hW hm)
  have HW0 := Lib.hid hW0
  have HB0 := Lib.hid hb0
  have HS0 := Lib.hid hs0
  rw [← hs]
  have HS := Lib.hid hs
  clear hs hW0 hb0 hs0 hm
  go_enter Tryz.func50, Tryz.ntmps50
  go_wp2_with fail
  rw [← HW0.out]
  refine HSP.out.mono ?_
  rintro e w1 ⟨g, cap, n, rfl, hR⟩
  obtain rfl : n = 2 := by have := hR.len; simpa using this.symm
  obtain ⟨y0, hy0⟩ : ∃ y, y = ByteArray.mk #[49, 47, 50] := ⟨_, rfl⟩
  obtain ⟨y1, hy1⟩ : ∃ y, y = ByteArray.mk #[49] := ⟨_, rfl⟩
  have hcl0 := hR.at (i := 0) (x := [49, 47, 50]) rfl hy0
  have hcl1 := hR.at (i := 1) (x := [49]) rfl hy1
  obtain ⟨W2, hW2⟩ : ∃ W, W = w1.alloc (.cells #[.int .i64 1, .slice none 0 0, .slice none 0 0] 37) := ⟨_, rfl⟩
  have hal : Below w1.heap.size w1 W2 := hW2 ▸ (Below.refl _ _).alloc (Nat.le_refl _) _
  have hb1 := hR.below
  have hb02 := hb1.trans (hal.mono hb1.size)
  have hgl : g < w1.heap.size := (hR.row.lt g (by simp [Value.ownBlock])).2
  have HR2 := Lib.hid (HR0.out.below hb02)
  have HC0 := Lib.hid (cell_below hal hcl0)
  have HC1 := Lib.hid (cell_below hal hcl1)
  obtain ⟨B5, hB5⟩ : ∃ B, B = w1.heap.size := ⟨_, rfl⟩
  have hk : W2.cell? ⟨B5, 0, none⟩ = some (.int .i64 1) ∧ W2.cell? ⟨B5, 1, none⟩ = some (.slice none 0 0) ∧ W2.cell? ⟨B5, 2, none⟩ = some (.slice none 0 0) ∧ W2.frozen? ⟨B5, 1, none⟩ = false ∧ W2.frozen? ⟨B5, 2, none⟩ = false := by rw [hW2, hB5]; simp
  have HBW := Lib.hid (HB0.out.trans (hb02.mono HB0.out.size))
  have hsz1 := hb1.size
  have hs0 := HS0.out
  have hB50 : w.heap.size < B5 ∧ g ≠ B5 ∧ B5 < W2.heap.size := by rw [hW2]; simp; omega
  obtain ⟨hB5w, hgB5, hB5W⟩ := hB50
  have HK := Lib.hid hk
  have HP0 := Lib.hid (fun (W : World) (hW : Below w.heap.size w W) => parseNums_any [49, 47, 50] y0 500000136 hy0 (by decide) split_half ok_half.1 ok_half.2 ⟨by omega, by omega⟩ W (HMX.out W hW))
  have HP1 := Lib.hid (fun (W : World) (hW : Below w.heap.size w W) => parseNums_any [49] y1 1 hy1 (by decide) split_one ok_one.1 ok_one.2 ⟨by omega, by omega⟩ W (HMX.out W hW))
  have HW2 := Lib.hid hW2
  have HBE := Lib.hid hB5
  clear hR hy0 hy1 hcl0 hcl1 hal hb1 hb02 hgl hk hW2 hB5 hsz1 hs0
  go_wp2
  rw [← HW2.out, ← HBE.out]
  go_loopw [30] (fun si wq => ∃ (i : Nat) (vA vB : Value) (fA fB : List Nat), i ≤ 2 ∧ si = .int .i64 i ∧ OwnI 3 wq vA (if i = 0 then [] else [500000136]) fA ∧ OwnI 3 wq vB (if i ≤ 1 then [] else [1]) fB ∧ (∀ b ∈ fA, B5 < b) ∧ (∀ b ∈ fB, B5 < b ∧ b ∉ fA) ∧
    (wq.cell? ⟨B5, 0, none⟩ = some (.int .i64 1) ∧ wq.cell? ⟨B5, 1, none⟩ = some vA ∧ wq.cell? ⟨B5, 2, none⟩ = some vB ∧ wq.frozen? ⟨B5, 1, none⟩ = false ∧ wq.frozen? ⟨B5, 2, none⟩ = false) ∧ (i = 0 → vA = .slice none 0 0) ∧ (i ≤ 1 → vB = .slice none 0 0) ∧ Only [B5] W2 wq) (fun si _ => 2 - (intOf si).toNat)
  case atStart => exact ⟨0, _, _, [], [], by omega, rfl, ⟨World.ownsRow_nil _ _ _ _, rfl, by simp⟩, ⟨World.ownsRow_nil _ _ _ _, rfl, by simp⟩, by simp, by simp, HK.out, fun _ => rfl, fun _ => rfl, Only.refl _ _⟩
  case round =>
    obtain ⟨wk, rfl⟩ : ∃ W, W = wr := ⟨_, rfl⟩
    obtain ⟨i, vA, vB, fA, fB, hi, rfl, hA, hB, hfA, hfB, ⟨k0, k1, k2, k3, k4⟩, hA0, hB0, hon⟩ := hrel
    have hbk : Below w.heap.size w wk := HBW.out.trans (hon.below HBW.out.size (by intro b hb; rw [List.mem_singleton.1 hb]; omega))
    rcases (by omega : i = 0 ∨ i = 1 ∨ i = 2) with rfl | rfl | rfl
    · obtain rfl := hA0 rfl
      obtain rfl := hB0 (by omega)
      have hcx := cell_only hon (by simpa using hgB5) HC0.out
      have HPK := Lib.hid (HP0.out wk hbk)
      have HON := Lib.hid hon
      have HBK := Lib.hid hbk
      have hB5k : B5 < wk.heap.size := World.block_lt_of_cell? _ _ k0
      clear hA hB hfA hfB hA0 hB0 hon hbk
      go_wp2_with fail
      refine HPK.out.mono ?_
      rintro e w3 ⟨v3, f3, rfl, ho3, hf3, hb3⟩
      obtain ⟨ad3, l3, c3, rfl, hl3, _⟩ := ownI_open ho3
      obtain rfl : l3 = 1 := by simpa using hl3.symm
      obtain ⟨b3, o3, x3, rfl, _⟩ := rdI_get (ownI_rd ho3) (k := 0) (by omega)
      have d0 := cell_below hb3 k0
      have d1 := cell_below hb3 k1
      have d2 := cell_below hb3 k2
      have d3 := (hb3.frozen (p := ⟨B5, 1, none⟩) hB5k).trans k3
      have d4 := (hb3.frozen (p := ⟨B5, 2, none⟩) hB5k).trans k4
      have HNI := Lib.hid (show OwnI 3 w3 (.slice none 0 0) [] [] from ⟨World.ownsRow_nil _ _ _ _, rfl, by simp⟩)
      have HSRC := Lib.hid (srcI_own ho3)
      have HAL := Lib.hid (show ([] : List Int).length + [(500000136 : Int)].length ≤ 1000000 from by simp)
      have HB3 := Lib.hid hb3
      clear ho3 hl3 hb3
      go_wp2_with (first | (at_builtin; refine wpList_append_I _ (by rfl) _ _ 35 3 (by rfl) ji Tryz.underlying35 hji hji0 hji1 hji2 (v := .slice none 0 0) (vx := .slice (some ⟨b3, o3, none⟩) 1 c3) (by rfl) (by rfl) HNI.out HSRC.out HAL.out ?_; intro v' w' f' hv1 hv2 hv3; obtain ⟨adv, lv, cv, rfl, _⟩ := ownI_open hv1; have hbw : Below w3.heap.size w3 w' := hv3.below (Nat.le_refl _) (by simp); have e0 := cell_below hbw d0; have e1 := cell_below hbw d1; have e2 := cell_below hbw d2; have e3 := (hbw.frozen (p := ⟨B5, 1, none⟩) (World.block_lt_of_cell? _ _ d1)).trans d3; have e4 := (hbw.frozen (p := ⟨B5, 2, none⟩) (World.block_lt_of_cell? _ _ d2)).trans d4; have HV1 := Lib.hid hv1; have HV2 := Lib.hid hv2; have HBX := Lib.hid hbw; clear hv1 hv2 hv3 hbw))
      all_goals (
        have hO : Only [B5] w' (w'.setCell ⟨B5, 1, none⟩ (.slice adv lv cv)) := (Only.refl _ _).setCell (by simp) _
        have hs3 := HB3.out.size
        have hfn : ∀ b ∈ f', B5 < b := fun b hb => by
          rcases HV2.out b hb with h | h
          · simp at h
          · omega
        go_roundw
        case rel =>
          refine ⟨1, .slice adv lv cv, .slice none 0 0, f', [], by omega, by go_num, ?_, ⟨World.ownsRow_nil _ _ _ _, rfl, by simp⟩, hfn, by simp, ⟨?_, ?_, ?_, by rw [World.frozen?_setCell]; exact e3, by rw [World.frozen?_setCell]; exact e4⟩, by simp, fun _ => rfl, ?_⟩
          · rw [if_neg (by omega)]
            exact ownI_only (by simpa using HV1.out) hO (fun b hb hm => by have := hfn b hb; simp at hm; omega)
          · exact (World.cell?_setCell_other _ _ _ _ (by simp)).trans e0
          · exact World.cell?_setCell_same _ _ _ e1
          · exact (World.cell?_setCell_other _ _ _ _ (by simp)).trans e2
          · exact ((HON.out.trans (Only.of_below HB3.out)).trans (Only.of_below HBX.out)).trans hO
        case measure => simp [intOf])
    · rw [if_neg (by omega)] at hA
      obtain rfl := hB0 (by omega)
      have hcx := cell_only hon (by simpa using hgB5) HC1.out
      have HPK := Lib.hid (HP1.out wk hbk)
      have HON := Lib.hid hon
      have HBK := Lib.hid hbk
      have hB5k : B5 < wk.heap.size := World.block_lt_of_cell? _ _ k0
      have HA := Lib.hid hA
      have HLA := Lib.hid (ownI_lt hA)
      have HFA := Lib.hid hfA
      obtain ⟨ada, la, ca, rfl, _⟩ := ownI_open hA
      clear hA hB hfA hfB hA0 hB0 hon hbk
      go_wp2_with fail
      refine HPK.out.mono ?_
      rintro e w3 ⟨v3, f3, rfl, ho3, hf3, hb3⟩
      obtain ⟨ad3, l3, c3, rfl, hl3, _⟩ := ownI_open ho3
      obtain rfl : l3 = 1 := by simpa using hl3.symm
      have d0 := cell_below hb3 k0
      have d1 := cell_below hb3 k1
      have d2 := cell_below hb3 k2
      have d3 := (hb3.frozen (p := ⟨B5, 1, none⟩) hB5k).trans k3
      have d4 := (hb3.frozen (p := ⟨B5, 2, none⟩) hB5k).trans k4
      have HB3 := Lib.hid hb3
      have HO3 := Lib.hid ho3
      have HF3 := Lib.hid hf3
      clear ho3 hl3 hb3 hf3
      go_wp2
      have hO : Only [B5] w3 (w3.setCell ⟨B5, 2, none⟩ (.slice ad3 1 c3)) := (Only.refl _ _).setCell (by simp) _
      go_roundw
      case rel =>
        refine ⟨2, .slice ada la ca, .slice ad3 1 c3, fA, f3, by omega, by go_num, ?_, ?_, HFA.out, fun b hb => ⟨?_, fun hm => ?_⟩, ⟨?_, ?_, ?_, by rw [World.frozen?_setCell]; exact d3, by rw [World.frozen?_setCell]; exact d4⟩, by simp, by simp, ?_⟩
        · rw [if_neg (by omega)]
          exact ownI_only (ownI_only HA.out (Only.of_below (fp := []) HB3.out) (by simp)) hO (fun b hb hm => by have := HFA.out b hb; simp at hm; omega)
        · rw [if_neg (by omega)]
          exact ownI_only HO3.out hO (fun b hb hm => by have := HF3.out b hb; simp at hm; omega)
        · have := HF3.out b hb; omega
        · have h1 := HF3.out b hb; have h2 := HLA.out b hm; omega
        · exact (World.cell?_setCell_other _ _ _ _ (by simp)).trans d0
        · exact (World.cell?_setCell_other _ _ _ _ (by simp)).trans d1
        · exact World.cell?_setCell_same _ _ _ d2
        · exact (HON.out.trans (Only.of_below HB3.out)).trans hO
      case measure => simp [intOf]
    · rw [if_neg (by omega)] at hA hB
      obtain ⟨ada, la, ca, rfl, _⟩ := ownI_open hA
      obtain ⟨adb, lb, cb, rfl, _⟩ := ownI_open hB
      obtain ⟨⟨y0, hy0⟩, ⟨y1, hy1⟩, ⟨y2, hy2⟩, hz0, hz1, hz2⟩ := HR2.out.only hon (by simp; omega)
      have HA := Lib.hid hA
      have HB := Lib.hid hB
      have HFA := Lib.hid hfA
      have HFB := Lib.hid hfB
      have HBK := Lib.hid hbk
      clear hA hB hfA hfB hA0 hB0 hon hbk
      go_wp2
      refine bodyPost_ret (v := .tuple #[.agg #[.int .i64 1, .slice ada la ca, .slice adb lb cb], .bool true]) (by simp [results, Tryz.results50, go_sem, hy0, hy1, hy2]) rfl ?_
      have hO : Only [w.heap.size] wk (((wk.setCell ⟨w.heap.size, 0, none⟩ (.int .i64 1)).setCell ⟨w.heap.size, 1, none⟩ (.slice ada la ca)).setCell ⟨w.heap.size, 2, none⟩ (.slice adb lb cb)) := (((Only.refl _ _).setCell (by simp) _).setCell (by simp) _).setCell (by simp) _
      refine ⟨_, rfl, ⟨_, _, fA, fB, rfl, ⟨by decide, by decide⟩, ownI_only HA.out hO (fun b hb hm => by have := HFA.out b hb; simp at hm; omega), ownI_only HB.out hO (fun b hb hm => by have := (HFB.out b hb).1; simp at hm; omega), fun b hb => by have := HFA.out b hb; omega, fun b hb => by have := (HFB.out b hb).1; omega⟩, ?_⟩
      exact HBK.out.trans ((hO.below HBK.out.size (by intro b hb; rw [List.mem_singleton.1 hb]; exact Nat.le_refl _)).mono (Nat.le_refl _))
end Go.Proofs.YtbcjhpgkodeoeaaGreatDoor

/- The program's KnownTableau at the middle rule and at Gauss's rules. Conditions: the cell of a variable of the library's own. -/
namespace Go.Proofs.YtbcjhpgkodeoeaaGreatDoor
open Go.RowKit Go.Sort

set_option maxHeartbeats 1600000 in
theorem cutIn_any (d : UInt8) (s p r : ByteArray) (hs : s = ByteArray.mk #[103, 97, 117, 115, 115, d]) (hp : p = ByteArray.mk #[103, 97, 117, 115, 115]) (hr : r = ByteArray.mk #[d]) (w : World) : Calls Tryz.prog 115 #[.string s, .string p] w fun e w' => e = .returned (.tuple #[.string r, .bool true]) ∧ w = w' := by
  have hz : s.size = 6 ∧ p.size = 5 := by subst hs hp; exact ⟨rfl, rfl⟩
  obtain ⟨hz1, hz2⟩ := hz
  have hx : s.extract 0 5 = p := by subst hs hp; rfl
  have hy : s.extract 5 6 = r := by subst hs hr; rfl
  clear hs hp hr
  go_enter Tryz.func115, Tryz.ntmps115
  go_wp2
  all_goals (refine bodyPost_ret (v := .tuple #[.string r, .bool true]) (by simp [results, Tryz.results115, go_sem]) rfl ⟨rfl, rfl⟩)
theorem cutPre_any (d : UInt8) (s p r : ByteArray) (hs : s = ByteArray.mk #[103, 97, 117, 115, 115, d]) (hp : p = ByteArray.mk #[103, 97, 117, 115, 115]) (hr : r = ByteArray.mk #[d]) (w : World) : Calls Tryz.prog 51 #[.string s, .string p] w fun e w' => e = .returned (.tuple #[.string r, .bool true]) ∧ w = w' := by
  have HC := Lib.hid (cutIn_any d s p r hs hp hr w)
  clear hs hp hr
  go_enter Tryz.func51, Tryz.ntmps51
  go_wp2_with fail
  refine HC.out.mono ?_
  rintro e w' ⟨rfl, rfl⟩
  go_wp2
  refine bodyPost_ret (v := .tuple #[.string r, .bool true]) (by simp [results, Tryz.results51, go_sem]) rfl ⟨rfl, rfl⟩
theorem nm_ne {d : UInt8} {s : ByteArray} (hs : s = ByteArray.mk #[103, 97, 117, 115, 115, d]) {l : List UInt8} (h : l.take 5 ≠ [103, 97, 117, 115, 115]) : (s.toList == l) = false := by
  rw [hs, show (ByteArray.mk #[103, 97, 117, 115, 115, d]).toList = [103, 97, 117, 115, 115, d] from ByteArray.toList_mk [103, 97, 117, 115, 115, d]]
  rw [beq_eq_false_iff_ne]
  rintro rfl
  exact h rfl
set_option maxRecDepth 100000 in
set_option maxHeartbeats 1600000 in
theorem knoG_any (s : Nat) (h1 : 1 ≤ s) (h3 : s ≤ 3) (d : UInt8) (hd : (d.toNat : Int) = 48 + s) (nm : ByteArray) (hn : nm = ByteArray.mk #[103, 97, 117, 115, 115, d]) (w : World) : Calls Tryz.prog 10 #[.string nm] w (GivesT (gauT s) w) := by
  obtain ⟨W0, hW0⟩ : ∃ W, W = w.alloc (.cells #[.int .i64 0, .slice none 0 0, .slice none 0 0] 37) := ⟨_, rfl⟩
  have hb0 : Below w.heap.size w W0 := hW0 ▸ (Below.refl _ _).alloc (Nat.le_refl _) _
  have HR0 := Lib.hid (show RBox W0 w.heap.size from hW0 ▸ RBox.new w (.int .i64 0) (.slice none 0 0) (.slice none 0 0) 37)
  have hs0 : W0.heap.size = w.heap.size + 1 := by rw [hW0]; simp
  obtain ⟨r, hr⟩ : ∃ r, r = ByteArray.mk #[d] := ⟨_, rfl⟩
  have hrz : r.size = 1 := by subst hr; rfl
  have hrb : ∀ h : 0 < r.size, wrap64 (wrap64 ((r[0]'h).toNat : Int) - 48) = s := by
    subst hr
    intro h
    have e : ((ByteArray.mk #[d])[0]'h) = d := rfl
    rw [e, hd]
    unfold wrap64
    omega
  have HC := Lib.hid (cutPre_any d nm ⟨#[103, 97, 117, 115, 115]⟩ r hn rfl hr W0)
  have HG := Lib.hid (gaussI_any s (s : Int) rfl h1 h3 W0)
  have HK := Lib.hid (fun v w' (h : RdI w' v (gauN s)) => collI_any v s w' h h1 h3)
  have n1 := nm_ne hn (l := [101, 117, 108, 101, 114]) (by decide)
  have n2 := nm_ne hn (l := [98, 97, 99, 107, 119, 97, 114, 100]) (by decide)
  have n3 := nm_ne hn (l := [109, 105, 100, 100, 108, 101]) (by decide)
  have n4 := nm_ne hn (l := [109, 105, 100, 112, 111, 105, 110, 116]) (by decide)
  have n5 := nm_ne hn (l := [104, 101, 117, 110]) (by decide)
  have n6 := nm_ne hn (l := [107, 117, 116, 116, 97]) (by decide)
  have n7 := nm_ne hn (l := [99, 108, 97, 115, 115, 105, 99]) (by decide)
  have n8 := nm_ne hn (l := [101, 105, 103, 104, 116, 104, 115]) (by decide)
  have n9 := nm_ne hn (l := [112, 97, 105, 114]) (by decide)
  have HW0 := Lib.hid hW0
  have HB0 := Lib.hid hb0
  have HS0 := Lib.hid hs0
  have h13 : (s : Int) ≤ 3 ∧ 1 ≤ (s : Int) := by omega
  clear hW0 hb0 hs0 hn hr h1 h3
  go_enter Tryz.func10, Tryz.ntmps10
  go_wp2_with fail
  rw [← HW0.out]
  refine HC.out.mono ?_
  rintro e w' ⟨rfl, rfl⟩
  go_wp2_with fail
  simp only [hrb]
  refine HG.out.mono ?_
  rintro e w1 ⟨v1, f1, rfl, ho1, hf1, hb1⟩
  obtain ⟨ad1, l1, c1, rfl, hl1, _⟩ := ownI_open ho1
  have HK1 := Lib.hid (HK.out _ w1 (ownI_rd ho1))
  have HB1 := Lib.hid (HB0.out.trans (hb1.mono HB0.out.size))
  have HR1 := Lib.hid (HR0.out.below hb1)
  have HBZ := Lib.hid hb1
  clear ho1 hf1 hb1 hl1
  go_wp2_with fail
  refine HK1.out.mono ?_
  rintro e w2 ⟨v2, rfl, ⟨vA, vB, fA, fB, rfl, hst, hA, hB, hfA, hfB⟩, hb2⟩
  obtain ⟨ada, la, ca, rfl, _⟩ := ownI_open hA
  obtain ⟨adb, lb, cb, rfl, _⟩ := ownI_open hB
  have hR2 := HR1.out.below hb2
  obtain ⟨⟨y0, hy0⟩, ⟨y1, hy1⟩, ⟨y2, hy2⟩, hz0, hz1, hz2⟩ := hR2
  have hsz1 : w.heap.size < w1.heap.size := by have := HB1.out.size; have := HS0.out; have := HBZ.out.size; omega
  have HBK := Lib.hid (HB1.out.trans (hb2.mono HB1.out.size))
  have HA := Lib.hid hA
  have HB := Lib.hid hB
  have HFA := Lib.hid hfA
  have HFB := Lib.hid hfB
  clear hA hB hb2 hfA hfB
  go_wp2
  refine bodyPost_ret (v := .tuple #[.agg #[.int .i64 (gauT s).stages, .slice ada la ca, .slice adb lb cb], .bool true]) (by simp [results, Tryz.results10, go_sem, hy0, hy1, hy2]) rfl ?_
  have hO : Only [w.heap.size] w2 (((w2.setCell ⟨w.heap.size, 0, none⟩ (.int .i64 (gauT s).stages)).setCell ⟨w.heap.size, 1, none⟩ (.slice ada la ca)).setCell ⟨w.heap.size, 2, none⟩ (.slice adb lb cb)) := (((Only.refl _ _).setCell (by simp) _).setCell (by simp) _).setCell (by simp) _
  refine ⟨_, rfl, ⟨_, _, fA, fB, rfl, hst, ownI_only HA.out hO (fun b hb hm => by have := HFA.out b hb; simp at hm; omega), ownI_only HB.out hO (fun b hb hm => by have := HFB.out b hb; simp at hm; omega), fun b hb => by have := HFA.out b hb; omega, fun b hb => by have := HFB.out b hb; omega⟩, ?_⟩
  exact HBK.out.trans ((hO.below HBK.out.size (by intro b hb; rw [List.mem_singleton.1 hb]; exact Nat.le_refl _)).mono (Nat.le_refl _))
set_option maxRecDepth 100000 in
set_option maxHeartbeats 1600000 in
theorem knoM_any (nm : ByteArray) (hn : nm = ByteArray.mk #[109, 105, 100, 100, 108, 101]) (w : World) (hm : MaxCell w) : Calls Tryz.prog 10 #[.string nm] w (GivesT (gauT 1) w) := by
  obtain ⟨W0, hW0⟩ : ∃ W, W = w.alloc (.cells #[.int .i64 0, .slice none 0 0, .slice none 0 0] 37) := ⟨_, rfl⟩
  have hb0 : Below w.heap.size w W0 := hW0 ▸ (Below.refl _ _).alloc (Nat.le_refl _) _
  have HR0 := Lib.hid (show RBox W0 w.heap.size from hW0 ▸ RBox.new w (.int .i64 0) (.slice none 0 0) (.slice none 0 0) 37)
  have hs0 : W0.heap.size = w.heap.size + 1 := by rw [hW0]; simp
  have HG := Lib.hid (parseMid_any W0 (maxCell_mono hb0 hm))
  have nl : nm.toList = [109, 105, 100, 100, 108, 101] := by rw [hn]; exact ByteArray.toList_mk [109, 105, 100, 100, 108, 101]
  have n1 : (nm.toList == [101, 117, 108, 101, 114]) = false := by rw [nl]; decide
  have n2 : (nm.toList == [98, 97, 99, 107, 119, 97, 114, 100]) = false := by rw [nl]; decide
  have n3 : (nm.toList == [109, 105, 100, 100, 108, 101]) = true := by rw [nl]; decide
  have HW0 := Lib.hid hW0
  have HB1 := Lib.hid hb0
  have HS0 := Lib.hid hs0
  have HBZ := Lib.hid (Below.refl W0.heap.size W0)
  clear hW0 hb0 hs0 hn hm nl
  go_enter Tryz.func10, Tryz.ntmps10
  go_wp2_with fail
  rw [← HW0.out]
  refine HG.out.mono ?_
  rintro e w2 ⟨v2, rfl, ⟨vA, vB, fA, fB, rfl, hst, hA, hB, hfA, hfB⟩, hb2⟩
  obtain ⟨ada, la, ca, rfl, _⟩ := ownI_open hA
  obtain ⟨adb, lb, cb, rfl, _⟩ := ownI_open hB
  have hR2 := HR0.out.below hb2
  obtain ⟨⟨y0, hy0⟩, ⟨y1, hy1⟩, ⟨y2, hy2⟩, hz0, hz1, hz2⟩ := hR2
  have hsz1 : w.heap.size < W0.heap.size := by have := HB1.out.size; have := HS0.out; have := HBZ.out.size; omega
  have HBK := Lib.hid (HB1.out.trans (hb2.mono HB1.out.size))
  have HA := Lib.hid hA
  have HB := Lib.hid hB
  have HFA := Lib.hid hfA
  have HFB := Lib.hid hfB
  clear hA hB hb2 hfA hfB
  go_wp2
  refine bodyPost_ret (v := .tuple #[.agg #[.int .i64 (gauT 1).stages, .slice ada la ca, .slice adb lb cb], .bool true]) (by simp [results, Tryz.results10, go_sem, hy0, hy1, hy2]) rfl ?_
  have hO : Only [w.heap.size] w2 (((w2.setCell ⟨w.heap.size, 0, none⟩ (.int .i64 (gauT 1).stages)).setCell ⟨w.heap.size, 1, none⟩ (.slice ada la ca)).setCell ⟨w.heap.size, 2, none⟩ (.slice adb lb cb)) := (((Only.refl _ _).setCell (by simp) _).setCell (by simp) _).setCell (by simp) _
  refine ⟨_, rfl, ⟨_, _, fA, fB, rfl, hst, ownI_only HA.out hO (fun b hb hm => by have := HFA.out b hb; simp at hm; omega), ownI_only HB.out hO (fun b hb hm => by have := HFB.out b hb; simp at hm; omega), fun b hb => by have := HFA.out b hb; omega, fun b hb => by have := HFB.out b hb; omega⟩, ?_⟩
  exact HBK.out.trans ((hO.below HBK.out.size (by intro b hb; rw [List.mem_singleton.1 hb]; exact Nat.le_refl _)).mono (Nat.le_refl _))
end Go.Proofs.YtbcjhpgkodeoeaaGreatDoor
