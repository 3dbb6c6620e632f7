/- Drawn tableaus with elements below the diagonal, or everywhere. Conditions: a cursor. -/
import Derived.Deep.RegionLaw
import Derived.Test.YtbcjhpgkodeoeaaGreatDoorG03
import Derived.Test.YtbcjhpgkodeoeaaGreatDoorG04
set_option linter.unusedSimpArgs false
set_option linter.unusedVariables false

namespace Go.Proofs.YtbcjhpgkodeoeaaGreatDoor
open Go.RowKit

theorem Drawn.newer {g : Nat} {f : List Nat} {a b c : World} (hd : Drawn g a b) (hg : g < a.heap.size) (ho : Only f b c) (hf : ∀ x ∈ f, a.heap.size ≤ x) : Drawn g a c :=
  ⟨Only.newer hd.only ho hf, hd.cur.only ho (fun hm => by have := hf g hm; omega) (fun b hb => by have := hf b hb; omega)⟩
theorem rbox_o {w W : World} {e : Nat} {a b c : Value} {fp : List Nat} (ho : Only fp (w.alloc (.cells #[a, b, c] e)) W) (hd : w.heap.size ∉ fp) :
    (∃ x, W.cell? ⟨w.heap.size, 0, none⟩ = some x) ∧ (∃ x, W.cell? ⟨w.heap.size, 1, none⟩ = some x) ∧ (∃ x, W.cell? ⟨w.heap.size, 2, none⟩ = some x) ∧ W.frozen? ⟨w.heap.size, 0, none⟩ = false ∧ W.frozen? ⟨w.heap.size, 1, none⟩ = false ∧ W.frozen? ⟨w.heap.size, 2, none⟩ = false := by
  have hlt : w.heap.size < (w.alloc (.cells #[a, b, c] e)).heap.size := by simp
  have fr : ∀ i, W.frozen? ⟨w.heap.size, i, none⟩ = _ := fun i => World.frozen?_of_block (ho.block _ hlt hd)
  exact ⟨⟨a, cell_only ho hd (by simp)⟩, ⟨b, cell_only ho hd (by simp)⟩, ⟨c, cell_only ho hd (by simp)⟩, (fr 0).trans (by simp), (fr 1).trans (by simp), (fr 2).trans (by simp)⟩
/-- A drawn tableau. -/
def DrawsTab (g : Nat) (w : World) : Ending → World → Prop := fun e w' => ∃ v t fp, e = .returned v ∧ OwnTab 3 w' v t fp ∧ (∀ b ∈ fp, w.heap.size ≤ b) ∧ Drawn g w w'

set_option maxRecDepth 100000 in
set_option maxHeartbeats 12800000 in
theorem explicit_any (g n : Nat) (nz : Int) (full : Bool) (hnz : nz = n) (hn : n ≤ 3) (w : World) (hc : Cur w g) : Calls Tryz.prog 134 #[.pointer (some ⟨g, 0, none⟩), .int .i64 nz, .bool full] w (DrawsTab g w) := by
  obtain ⟨ji, hji, hji0, hji1, hji2⟩ := info_parts Tryz.info_int
  have hgl := hc.lt
  obtain ⟨W0, hW0⟩ : ∃ W, W = w.alloc (.cells #[.int .i64 0, .slice none 0 0, .slice none 0 0] 37) := ⟨_, rfl⟩
  have hb0 : Below w.heap.size w W0 := hW0 ▸ (Below.refl _ _).alloc (Nat.le_refl _) _
  have hsz : W0.heap.size = w.heap.size + 1 := by rw [hW0]; simp
  have HR := Lib.hid (fun (W : World) (hW : Drawn g W0 W) => rbox_o (w := w) (e := 37) (W := W) (a := .int .i64 0) (b := .slice none 0 0) (c := .slice none 0 0) (hW0 ▸ hW.only) (by simp; omega))
  obtain ⟨W1, hW1⟩ : ∃ W, W = W0.alloc (.cells #[.int .i64 nz, .slice none 0 0, .slice none 0 0] 37) := ⟨_, rfl⟩
  have hb1 : Below W0.heap.size W0 W1 := hW1 ▸ (Below.refl _ _).alloc (Nat.le_refl _) _
  have hc0 := hc.below hb0
  have HT0 := Lib.hid (show TBox 3 W0.heap.size W1 W0.heap.size nz (.slice none 0 0) (.slice none 0 0) [] [] [] [] from hW1 ▸ TBox.new (Nat.le_refl _))
  have HD0 := Lib.hid ((Drawn.refl hc0).below hb1)
  have HDW := Lib.hid ((Drawn.refl hc).below hb0)
  have hg0 : g < W0.heap.size := by omega
  have HW : Hid (W1 = (w.alloc (.cells #[.int .i64 0, .slice none 0 0, .slice none 0 0] 37)).alloc (.cells #[.int .i64 nz, .slice none 0 0, .slice none 0 0] 37)) := Lib.hid (by rw [hW1, hW0])
  have HN := Lib.hid hnz
  have HSZ := Lib.hid hsz
  have HB0 := Lib.hid hb0
  have hnz3 : 0 ≤ nz ∧ nz ≤ 3 := by omega
  obtain ⟨hn0, hn3⟩ := hnz3
  clear hW0 hW1 hb0 hb1 hsz hnz hc hc0
  go_enter Tryz.func134, Tryz.ntmps134
  go_wp2
  rw [show (w.heap.size + 1) = W0.heap.size from HSZ.out.symm, ← HW.out]
  go_loopw [8] (fun si wq => ∃ (i : Nat) (vA vB : Value) (A B : List Int) (fA fB : List Nat), i ≤ n ∧ si = .int .i64 i ∧ TBox 3 W0.heap.size wq W0.heap.size nz vA vB A B fA fB ∧ Drawn g W0 wq ∧ A.length = n * i ∧ B.length = i) (fun si _ => n - (intOf si).toNat)
  case atStart => exact ⟨0, _, _, [], [], [], [], Nat.zero_le _, rfl, HT0.out, HD0.out, rfl, rfl⟩
  case round =>
    obtain ⟨wk, rfl⟩ : ∃ W, W = wr := ⟨_, rfl⟩
    obtain ⟨i, vA, vB, A, B, fA, fB, hi, rfl, hT, hD, hAl, hBl⟩ := hrel
    clear HT0 HD0
    obtain ⟨ad1, l1, c1', rfl, _, _, _, _, _, _⟩ := ownI_open hT.ownA
    obtain ⟨ad2, l2, c2', rfl, _, _, _, _, _, _⟩ := ownI_open hT.ownB
    by_cases hil : i < n
    case neg =>
      obtain rfl : n = i := by omega
      have hiI : ¬ ((n : Int) < nz) := by rw [HN.out]; omega
      obtain ⟨⟨x0, hr0⟩, ⟨x1, hr1⟩, ⟨x2, hr2⟩, hf0, hf1, hf2⟩ := HR.out wk hD
      have c0 := hT.c0
      have c1 := hT.c1
      have c2 := hT.c2
      have HT := Lib.hid hT
      have HD := Lib.hid hD
      clear hT hD
      go_wp2
      refine bodyPost_ret (v := .agg #[.int .i64 nz, .slice ad1 l1 c1', .slice ad2 l2 c2']) (by simp [results, Tryz.results134, go_sem, hr0, hr1, hr2]) rfl ?_
      have ho : Only [w.heap.size] wk (((wk.setCell ⟨w.heap.size, 0, none⟩ (.int .i64 nz)).setCell ⟨w.heap.size, 1, none⟩ (.slice ad1 l1 c1')).setCell ⟨w.heap.size, 2, none⟩ (.slice ad2 l2 c2')) := (((Only.refl _ _).setCell (by simp) _).setCell (by simp) _).setCell (by simp) _
      have hsz := HSZ.out
      obtain ⟨t1, t2⟩ := HT.out.tab ⟨by omega, by omega⟩ ho (by simp; omega)
      have hDw : Drawn g w wk := ⟨HDW.out.only.trans HD.out.only, HD.out.cur⟩
      exact ⟨_, _, _, rfl, t1, fun b hb => by have := t2 b hb; omega, hDw.newer hgl ho (by simp)⟩
    have hiI : (i : Int) < nz := by rw [HN.out]; omega
    have HT0 := Lib.hid hT
    have HD0 := Lib.hid hD
    have HA0 := Lib.hid (show A.length = n * i + 0 from hAl)
    have HB0' := Lib.hid hBl
    clear hT hD hAl hBl
    go_wp2
    go_loopw [9] (fun sj wq => ∃ (j : Nat) (vA : Value) (A : List Int) (fA : List Nat), j ≤ n ∧ sj = .int .i64 j ∧ TBox 3 W0.heap.size wq W0.heap.size nz vA (.slice ad2 l2 c2') A B fA fB ∧ Drawn g W0 wq ∧ A.length = n * i + j) (fun sj _ => n - (intOf sj).toNat)
    case atStart => exact ⟨0, _, _, _, Nat.zero_le _, rfl, HT0.out, HD0.out, HA0.out⟩
    case round =>
      obtain ⟨wz, rfl⟩ : ∃ W, W = wr := ⟨_, rfl⟩
      obtain ⟨j, vA, A, fA, hj, rfl, hT, hD, hAl⟩ := hrel
      clear HT0 HD0 HA0
      obtain ⟨ad3, l3, c3', rfl, _, _, _, _, _, _⟩ := ownI_open hT.ownA
      have hni : n * i ≤ 3 * 3 := Nat.mul_le_mul hn (by omega)
      by_cases hjl : j < n
      case neg =>
        obtain rfl : n = j := by omega
        have hjI : ¬ ((n : Int) < nz) := by rw [HN.out]; omega
        have c2 := hT.c2
        have hdr : Below wz.heap.size wz wz.drew := (Below.refl _ _).drew
        have HNUM := Lib.hid (num_any g wz.drew (hD.below hdr).cur)
        have HT := Lib.hid hT
        have HD := Lib.hid (hD.below hdr)
        have HDR := Lib.hid hdr
        have HBL := Lib.hid (show B.length + 1 ≤ 1000000 from by have := HB0'.out; omega)
        have HAL := Lib.hid (show A.length = n * (i + 1) from by rw [hAl, Nat.mul_succ])
        clear hT hD hdr hAl
        go_wp2
        go_region_law (first
          | (go_simp; go_at_call 74; (with_reducible refine (HNUM.out).mono ?_); rintro e wa ⟨x, rfl, hx0, hx1, hd1⟩; have hTa := (HT.out.bel HDR.out).only hd1.only (by simp; omega); have hal := below_lit1 wa 3 x; have c2a := hTa.c2; have hbt := tbox_lt hTa; have HTA := Lib.hid (hTa.bel hal); have HDA := Lib.hid ((HD.out.trans hd1).below hal); have HSRC := Lib.hid (src_lit (e := 3) wa x ⟨by omega, by omega⟩); clear hTa hal hd1)
          | (refine step_append_I _ (by rfl) _ _ 35 3 (by rfl) ji Tryz.underlying35 hji hji0 hji1 hji2 (v := .slice ad2 l2 c2') (vx := .slice (some ⟨wa.heap.size, 0, none⟩) 1 1) (by rfl) (by rfl) HTA.out.ownB HSRC.out HBL.out ?_; intro v' w' f' hv1 hv2 hv3; obtain ⟨adv, lv, cv, rfl, _⟩ := ownI_open hv1; obtain ⟨⟨hk1, hk2⟩, hTB, hon⟩ := HTA.out.putB hv3 hv1 hv2 HDA.out.only.size; have HTB := Lib.hid hTB; have HON := Lib.hid hon; clear hv1 hv2 hv3 hTB hon))
        all_goals (
          go_wp2
          go_roundw
          case rel =>
            exact ⟨i + 1, _, _, _, _, _, _, by omega, by go_num, HTB.out, HDA.out.newer hg0 HON.out (fun b hb => by
              rcases List.mem_cons.1 hb with rfl | hb
              · exact Nat.le_refl _
              · exact (HTA.out.newB b hb).1), HAL.out, by simp [HB0'.out]⟩
          case measure => simp [intOf]; omega)
      have hjI : (j : Int) < nz := by rw [HN.out]; omega
      have HAL := Lib.hid (show A.length + 1 ≤ 1000000 from by omega)
      have HAL2 := Lib.hid (show A.length + 1 = n * i + (j + 1) from by omega)
      by_cases hfull : full = true ∨ j < i
      case pos =>
        have c1 := hT.c1
        have hdr : Below wz.heap.size wz wz.drew := (Below.refl _ _).drew
        have HNUM := Lib.hid (num_any g wz.drew (hD.below hdr).cur)
        have HT := Lib.hid hT
        have HD := Lib.hid (hD.below hdr)
        have HDR := Lib.hid hdr
        have hJF : full = true ∨ (full = false ∧ (j : Int) < i) := by
          cases full with
          | true => exact .inl rfl
          | false => right; simp at hfull; exact ⟨rfl, by omega⟩
        clear hT hD hdr hAl hfull
        rcases hJF with rfl | ⟨rfl, hjiI⟩
        all_goals (
          go_wp2
          go_region_law (first
            | (go_simp; go_at_call 74; (with_reducible refine (HNUM.out).mono ?_); rintro e wa ⟨x, rfl, hx0, hx1, hd1⟩; have hTa := (HT.out.bel HDR.out).only hd1.only (by simp; omega); have hal := below_lit1 wa 3 x; have c1a := hTa.c1; have hbt := tbox_lt hTa; have HTA := Lib.hid (hTa.bel hal); have HDA := Lib.hid ((HD.out.trans hd1).below hal); have HSRC := Lib.hid (src_lit (e := 3) wa x ⟨by omega, by omega⟩); clear hTa hal hd1)
            | (refine step_append_I _ (by rfl) _ _ 35 3 (by rfl) ji Tryz.underlying35 hji hji0 hji1 hji2 (v := .slice ad3 l3 c3') (vx := .slice (some ⟨wa.heap.size, 0, none⟩) 1 1) (by rfl) (by rfl) HTA.out.ownA HSRC.out HAL.out ?_; intro v' w' f' hv1 hv2 hv3; obtain ⟨adv, lv, cv, rfl, _⟩ := ownI_open hv1; obtain ⟨⟨hk1, hk2⟩, hTB, hon⟩ := HTA.out.putA hv3 hv1 hv2 HDA.out.only.size; have HTB := Lib.hid hTB; have HON := Lib.hid hon; clear hv1 hv2 hv3 hTB hon))
          all_goals (
            go_wp2
            go_roundw
            case rel =>
              exact ⟨j + 1, _, _, _, by omega, by go_num, HTB.out, HDA.out.newer hg0 HON.out (fun b hb => by
                rcases List.mem_cons.1 hb with rfl | hb
                · exact Nat.le_refl _
                · exact (HTA.out.newA b hb).1), by simp [HAL2.out]⟩
            case measure => simp [intOf]; omega))
      have hJF : full = false ∧ ¬ ((j : Int) < i) := by
        simp only [not_or] at hfull
        exact ⟨by simpa using hfull.1, by omega⟩
      obtain ⟨rfl, hjiI⟩ := hJF
      have c1 := hT.c1
      have hal := below_lit1 wz 3 0
      have hbt := tbox_lt hT
      have HTA := Lib.hid (hT.bel hal)
      have HDA := Lib.hid (hD.below hal)
      have HSRC := Lib.hid (src_lit (e := 3) wz 0 ⟨by omega, by omega⟩)
      clear hT hD hal hfull hAl
      go_wp2_with (first | (at_builtin; refine wpList_append_I _ (by rfl) _ _ 35 3 (by rfl) ji Tryz.underlying35 hji hji0 hji1 hji2 (v := .slice ad3 l3 c3') (vx := .slice (some ⟨wz.heap.size, 0, none⟩) 1 1) (by rfl) (by rfl) HTA.out.ownA HSRC.out HAL.out ?_; intro v' w' f' hv1 hv2 hv3; obtain ⟨adv, lv, cv, rfl, _⟩ := ownI_open hv1; obtain ⟨⟨hk1, hk2⟩, hTB, hon⟩ := HTA.out.putA hv3 hv1 hv2 HDA.out.only.size; have HTB := Lib.hid hTB; have HON := Lib.hid hon; clear hv1 hv2 hv3 hTB hon))
      all_goals (
        go_roundw
        case rel =>
          exact ⟨j + 1, _, _, _, by omega, by go_num, HTB.out, HDA.out.newer hg0 HON.out (fun b hb => by
            rcases List.mem_cons.1 hb with rfl | hb
            · exact Nat.le_refl _
            · exact (HTA.out.newA b hb).1), by simp [HAL2.out]⟩
        case measure => simp [intOf]; omega)
end Go.Proofs.YtbcjhpgkodeoeaaGreatDoor
