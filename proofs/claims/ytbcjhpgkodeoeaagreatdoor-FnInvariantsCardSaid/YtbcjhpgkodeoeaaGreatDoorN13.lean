/- The texts TreF, DrwG in one: each says at its head what it proves. Conditions: as said there. -/
import Derived.Deep.AppendLies
import Derived.Deep.RegionLaw
import Derived.Test.YtbcjhpgkodeoeaaGreatDoorN05
import Derived.Test.YtbcjhpgkodeoeaaGreatDoorN12
import Derived.Test.YtbcjhpgkodeoeaaGreatDoorN04
import Derived.Test.YtbcjhpgkodeoeaaGreatDoorN08
set_option linter.unusedSimpArgs false
set_option linter.unusedVariables false
/- The reference's field of a tree: some field. Conditions: numbers of trees. -/
namespace Go.Proofs.YtbcjhpgkodeoeaaGreatDoor
open Go.RowKit Go.Sort

/-- A field of few short parts. -/
def SmallF (f : FldZ) : Prop := 0 ≤ f.dim ∧ f.dim ≤ 6 ∧ f.parts.length ≤ 6 ∧ ∀ p ∈ f.parts, p.length ≤ 4 ∧ ∀ m ∈ p, m.pows.length ≤ 6
/-- Some field. -/
def GivesFld (w : World) : Ending → World → Prop := fun e w' => ∃ v f fp, e = .returned v ∧ OwnFld 24 56 3 w' v f fp ∧ SmallF f ∧ (∀ b ∈ fp, w.heap.size ≤ b) ∧ Below w.heap.size w w'
/-- A literal of one monomial. -/
theorem lit_mon {e2 e : Nat} {w : World} {c : Int} {gq n cap : Nat} {ps : List Int} (hc : I64 c) (ho : OwnI e w (.slice (some ⟨gq, 0, none⟩) n cap) ps [gq]) :
    OwnMs e2 e (w.alloc (.cells #[.int .i64 c, .slice (some ⟨gq, 0, none⟩) n cap] e2)) (.slice (some ⟨w.heap.size, 0, none⟩) 1 1) [⟨c, ps⟩] [w.heap.size, gq] := by
  have hl := ownI_lt ho gq (by simp)
  have h := s_ownMs (e2 := e2) (e := e) (w := w.alloc (.cells #[.int .i64 c, .slice (some ⟨gq, 0, none⟩) n cap] e2)) (v := .slice (some ⟨w.heap.size, 0, none⟩) 1 1) (X := [⟨c, some ⟨gq, 0, none⟩, n, cap, ps, [gq]⟩])
    (by simpa [rowS, encS] using World.ownsRow_lit (base := 0) (e := e2) (size := 2) w #[.int .i64 c, .slice (some ⟨gq, 0, none⟩) n cap] 1 (Nat.zero_le _) (by unfold maxLen; omega) rfl)
    (fun x hx => by
      rw [List.mem_singleton] at hx
      subst hx
      exact ⟨hc, ownI_only ho (Only.of_below (fp := []) ((Below.refl _ _).alloc (Nat.le_refl _) _)) (by simp)⟩)
    (by simp [Value.ownBlock]; omega)
  simpa [monS, Value.ownBlock] using h

set_option maxRecDepth 100000 in
set_option maxHeartbeats 12800000 in
theorem treeField_any (k : Nat) (hk : k < 37) (w : World) : Calls Tryz.prog 128 #[.int .i64 (k : Int)] w (GivesFld w) := by
  obtain ⟨j1, hj1, hw0, hw1, hw2⟩ := info_parts Tryz.info_mons
  obtain ⟨i0, hi0, hz0, hz1, hz2⟩ := info_parts Tryz.info_int
  obtain ⟨W0, hW0⟩ : ∃ W, W = w.alloc (.cells #[.int .i64 0, .slice none 0 0] 30) := ⟨_, rfl⟩
  have hb0 : Below w.heap.size w W0 := hW0 ▸ (Below.refl _ _).alloc (Nat.le_refl _) _
  have hsz : W0.heap.size = w.heap.size + 1 := by rw [hW0]; simp
  have HW0 := Lib.hid hW0
  have HB0 := Lib.hid hb0
  have HSZ := Lib.hid hsz
  clear hb0 hsz
  go_enter Tryz.func128, Tryz.ntmps128
  go_wp2_with fail
  rw [← HW0.out]
  refine (levels_any k hk W0).mono ?_
  rintro e w1 ⟨vl, xs, fl, rfl, hol, hl1, hl6, hfl, hb1⟩
  obtain ⟨adl, n, cl, rfl, hln, _, _, _, _, _⟩ := ownI_open hol
  obtain ⟨W2, hW2⟩ : ∃ W, W = w1.alloc (.cells #[.int .i64 (n : Int), .slice none 0 0] 30) := ⟨_, rfl⟩
  have hb2 : Below w1.heap.size w1 W2 := hW2 ▸ (Below.refl _ _).alloc (Nat.le_refl _) _
  have HA := Lib.hid (above_any _ xs W2 (ownI_rd (ownI_only hol (Only.of_below (fp := []) hb2) (by simp))) (by omega))
  have HI := Lib.hid (fldInv_start (e1 := 24) (e2 := 56) (e := 3) hW2)
  have HW2 := Lib.hid hW2
  go_wp2_with fail
  rw [← HW2.out]
  refine HA.out.mono ?_
  rintro e w3 ⟨va, ys, fa, rfl, hoa, hya, hfa, hb3⟩
  obtain ⟨ada, na, ca, rfl, hna, _, _, _, _, _⟩ := ownI_open hoa
  obtain rfl : n = na := by omega
  obtain ⟨Bf, hBf⟩ : ∃ B, B = w1.heap.size := ⟨_, rfl⟩
  rw [← hBf] at HI
  have hBW : Bf < W2.heap.size := by have := HI.out.lt; exact this
  have h3s := hb3.size
  have HI3 := Lib.hid (show FldInv 24 56 3 w3 w3 Bf (n : Int) (.slice none 0 0) [] [] from
    ⟨⟨[], [], World.ownsRow_nil _ _ _ _, by simp, rfl, rfl, by simp⟩, by simp, Only.refl _ _, cell_below hb3 HI.out.c0, cell_below hb3 HI.out.c1, (hb3.frozen (p := ⟨Bf, 1, none⟩) hBW).trans HI.out.f1, by omega⟩)
  have hb02 := hb1.trans (hb2.mono hb1.size)
  have HB03 := Lib.hid (hb02.trans (hb3.mono hb02.size))
  have HOA := Lib.hid (show OwnI 3 w3 (.slice ada n ca) ys fa ∧ ∀ b ∈ fa, b ∉ [Bf] from ⟨hoa, fun b hb => by have := hfa b hb; simp; omega⟩)
  have HRB := Lib.hid (show B2 w3 w.heap.size from (HW0.out ▸ B2.new w (.int .i64 0) (.slice none 0 0) 30 : B2 W0 w.heap.size).only (Only.of_below (fp := []) HB03.out) (by simp))
  have hsB : W0.heap.size ≤ Bf := by rw [hBf]; exact hb1.size
  have HBF := Lib.hid hBf
  have hmk := mk_row n (by omega) (by omega)
  have hn16 : 1 ≤ n ∧ n ≤ 6 := by omega
  rw [← hBf]
  clear hol hfl hb1 hb2 hb3 hoa hya hfa hb02 HA HI hW2 hBf h3s hln hna
  go_wp2
  go_loopw [6] (fun si wq => ∃ (i : Nat) (u : Value) (ps : List (List MonZ)) (fs : List Nat), i ≤ n ∧ si = .int .i64 i ∧ FldInv 24 56 3 w3 wq Bf (n : Int) u ps fs ∧ ps.length = i ∧ ∀ p ∈ ps, p.length ≤ 4 ∧ ∀ m ∈ p, m.pows.length ≤ 6) (fun si _ => n - (intOf si).toNat)
  case atStart => exact ⟨0, _, [], [], Nat.zero_le _, rfl, HI3.out, rfl, fun p hp => by cases hp⟩
  case round =>
    obtain ⟨wk, rfl⟩ : ∃ W, W = wr := ⟨_, rfl⟩
    obtain ⟨i, u, ps, fs0, hi, rfl, hI, hpl, hsm⟩ := hrel
    have HSM0 := Lib.hid hsm
    clear hsm
    clear HI3
    by_cases hil : i < n
    case neg =>
      obtain rfl : i = n := by omega
      have hi0 := hI.c0
      have hi1 := hI.c1
      obtain ⟨adu, lu, cu, rfl⟩ := ownMss_slice hI.own
      have hsz := HSZ.out
      obtain ⟨⟨y0, hy0⟩, ⟨y1, hy1⟩, hyf0, hyf1⟩ := HRB.out.only hI.only (by simp; omega)
      have HI := Lib.hid hI
      clear hI
      go_wp2
      refine bodyPost_ret (v := .agg #[.int .i64 (i : Int), .slice adu lu cu]) (by simp [results, Tryz.results128, go_sem, hy0, hy1]) rfl ?_
      have hO2 : Only [w.heap.size] wk ((wk.setCell ⟨w.heap.size, 0, none⟩ (.int .i64 (i : Int))).setCell ⟨w.heap.size, 1, none⟩ (.slice adu lu cu)) := ((Only.refl _ _).setCell (by simp) _).setCell (by simp) _
      have h3 := HB03.out.size
      have hBk : Below w.heap.size w wk := (HB0.out.trans (HB03.out.mono HB0.out.size)).trans (HI.out.only.below (by omega) (by simp; omega))
      exact ⟨_, ⟨(i : Int), ps⟩, fs0, rfl, ⟨_, rfl, ⟨by show (-9223372036854775808 : Int) ≤ (i : Int); omega, by show (i : Int) ≤ 9223372036854775807; omega⟩, ownMss_only HI.out.own hO2 (fun b hb hm => by have := HI.out.new b hb; simp at hm; omega)⟩, ⟨by show (0 : Int) ≤ (i : Int); omega, by show (i : Int) ≤ 6; omega, by show ps.length ≤ 6; omega, HSM0.out⟩, fun b hb => by { have := HI.out.new b hb; omega }, (hBk.setCell (Nat.le_refl _) _).setCell (Nat.le_refl _) _⟩
    have hiI : (i : Int) < n := by omega
    have hwk3 := hI.only
    have hw3s := hI.only.size
    have hltI := ownMss_lt hI.own
    have HOAk := Lib.hid (show OwnI 3 wk (.slice ada n ca) ys fa from ownI_only HOA.out.1 hI.only HOA.out.2)
    have hi0 := hI.c0
    have hi1 := hI.c1
    have hfi1 := hI.f1
    obtain ⟨us, fs, hown, hone, hels, rfl, hnd⟩ := hI.own
    have HOWN := Lib.hid hown
    rw [hpl] at hown
    obtain ⟨adu, capu, rfl, hluc, hcum, _⟩ := row_open hown
    have HI := Lib.hid hI
    have HNU := Lib.hid hown
    have HONE := Lib.hid hone
    have HELS := Lib.hid hels
    have HND := Lib.hid hnd
    have HKL := Lib.hid hpl
    have hlw := World.block_lt_of_cell? _ _ hi1
    simp only at hlw
    clear hI hown hone hels hnd hpl hwk3 hltI
    obtain ⟨wz, hwz⟩ : ∃ W, W = (wk.alloc (.cells (Array.replicate n (.int .i64 0)) 3)).alloc (.cells #[.int .i64 1, .slice (some ⟨wk.heap.size, 0, none⟩) n n] 56) := ⟨_, rfl⟩
    have hbz : Below wk.heap.size wk wz := hwz ▸ ((Below.refl _ _).alloc (Nat.le_refl _) _).alloc (by simp) _
    have HPB := Lib.hid (show PBox 3 wk wz (wk.heap.size + 1) wk.heap.size n n 1 (zR n) from by
      have hz := zR_row (n := n) wk (by omega)
      have hbz' := hbz
      refine ⟨?_, ?_, ?_, by simp [zR], by omega, by omega, Nat.le_refl _, hbz'⟩
      · rw [hwz, ← size_al wk (.cells (Array.replicate n (.int .i64 0)) 3)]; simp
      · rw [hwz, ← size_al wk (.cells (Array.replicate n (.int .i64 0)) 3)]; simp
      · rw [hwz]; exact ownI_al hz _)
    have HWZ := Lib.hid hwz
    clear hwz hbz
    go_wp2_with fail
    go_loopw [8] (fun sj wq => ∃ (j : Nat) (ps : List Int), j ≤ n ∧ sj = .int .i64 j ∧ PBox 3 wk wq (wk.heap.size + 1) wk.heap.size n n 1 ps) (fun sj _ => n - (intOf sj).toNat)
    case atStart => exact ⟨0, zR n, Nat.zero_le _, rfl, by rw [← HWZ.out]; exact HPB.out⟩
    case round =>
      obtain ⟨wj, rfl⟩ : ∃ W, W = wr := ⟨_, rfl⟩
      obtain ⟨j, qs, hj, rfl, hP⟩ := hrel
      clear HPB
      have hbj := hP.below
      have hc0 := hP.c0
      have hc1 := hP.c1
      by_cases hjl : j < n
      case neg =>
        obtain rfl : j = n := by omega
        have hi1j := cell_below hbj hi1
        have hfi1j := (hbj.frozen (p := ⟨Bf, 1, none⟩) hlw).trans hfi1
        obtain ⟨wa, hwa⟩ : ∃ W, W = wj.alloc (.cells #[.int .i64 1, .slice (some ⟨wk.heap.size, 0, none⟩) j j] 56) := ⟨_, rfl⟩
        have hba : Below wj.heap.size wj wa := hwa ▸ (Below.refl _ _).alloc (Nat.le_refl _) _
        have hra := hbj.trans (hba.mono hbj.size)
        have HOP := Lib.hid (show OwnMs 56 3 wa (.slice (some ⟨wj.heap.size, 0, none⟩) 1 1) [⟨1, qs⟩] [wj.heap.size, wk.heap.size] from hwa ▸ lit_mon ⟨by omega, by omega⟩ hP.own)
        have HFP := Lib.hid (show ∀ b ∈ [wj.heap.size, wk.heap.size], wk.heap.size ≤ b from by have := hbj.size; simp; omega)
        have HRA := Lib.hid hra
        have HNQ := Lib.hid (ownsRow_only HNU.out (Only.of_below (fp := []) hra) (by simp))
        have hi1a := cell_below hra hi1
        have hfi1a := (hra.frozen (p := ⟨Bf, 1, none⟩) hlw).trans hfi1
        have HPS := Lib.hid (fun (w2 : World) (gg capn : Nat) (hown1 : w2.ownsRow 0 24 1 (.slice (some ⟨gg, 0, none⟩) (i + 1) capn) (i + 1) (us.flatten ++ [.slice (some ⟨wj.heap.size, 0, none⟩) 1 1])) (hgrow : (wa.alloc (.cells #[.slice (some ⟨wj.heap.size, 0, none⟩) 1 1] 24)).grownBy w2 (Value.slice adu i capu).ownBlock) (hat : (Value.slice adu i capu).ownBlock = some gg ∨ gg = wa.heap.size + 1) =>
          FldInv.push HI.out HONE.out HELS.out HND.out HOWN.out HKL.out HOP.out HFP.out HRA.out ((Below.refl _ _).alloc (Nat.le_refl _) _) hown1 hgrow (fun b hb => by
            simp [Value.ownBlock] at hb
            subst hb
            rcases hat with hat | hat
            · left; exact hat
            · right; rw [hat]; simp))
        have hi1b := cell_below ((Below.refl _ _).alloc (Nat.le_refl _) (.cells #[.slice (some ⟨wj.heap.size, 0, none⟩) 1 1] 24)) hi1a
        have hszE : wa.heap.size = wj.heap.size + 1 := by rw [hwa]; simp
        have HSM := Lib.hid (show ∀ p ∈ ps ++ [[⟨1, qs⟩]], p.length ≤ 4 ∧ ∀ m ∈ p, m.pows.length ≤ 6 from fun p hp => by
          rcases List.mem_append.1 hp with hp | hp
          · exact HSM0.out p hp
          · rw [List.mem_singleton] at hp
            subst hp
            refine ⟨by simp, fun m hm => ?_⟩
            rw [List.mem_singleton] at hm
            subst hm
            show qs.length ≤ 6
            rw [hP.len]; omega)
        subst hwa
        clear hba hra hP hbj
        go_wp2_with (first | (at_builtin; refine wpList_append_lies _ rfl _ _ _ rfl 0 24 j1 _ 1 24 Tryz.underlying28 hj1 hw0 hw1 hw2 rfl (by omega) (.slice adu i capu) i _ (by rfl) (HNQ.out.alloc _) ⟨wj.heap.size + 1, 0, none⟩ 1 1 [.slice (some ⟨wj.heap.size, 0, none⟩) 1 1] (by rfl) (by rfl) (World.news_of_block (cs := #[.slice (some ⟨wj.heap.size, 0, none⟩) 1 1]) (t := 24) (fr := (0, 0)) (by rw [← hszE]; exact heap_alloc_new _ _)) (by simp [Value.oneCell']) (by omega) (by unfold maxLen; omega) (by omega) (by simp) (wj.heap.size + 1 + 1) (by simp) ?_; intro gg capn w8 hown1 hgrow hat hlt1; obtain ⟨hcB, hfB, fp', hP⟩ := HPS.out w8 gg capn hown1 hgrow (hat.imp id (fun h => by rw [h, hszE])); have HPP := Lib.hid hP; clear hP hown1 hgrow))
        go_roundw
        case rel => exact ⟨i + 1, _, _, fp', by omega, by go_num, HPP.out, by simp [HKL.out], HSM.out⟩
        case measure => simp [intOf]; omega
      have hjI : (j : Int) < n := by omega
      have hrd : OwnI 3 wj (.slice ada n ca) ys fa := ownI_only HOAk.out (Only.of_below (fp := []) hbj) (by simp)
      obtain ⟨b5, o5, y, rfl, _, hcy, hIy, _⟩ := rdI_get (ownI_rd hrd) (k := j) hjl
      by_cases hyi : y = (i : Int)
      · subst hyi
        obtain ⟨⟨u0, hu0⟩, hfu, hP2⟩ := hP.set hjl (y := 1) ⟨by omega, by omega⟩
        have HP2 := Lib.hid hP2
        clear hP hP2 hrd hIy
        go_wp2
        go_roundw
        case rel => exact ⟨j + 1, _, by omega, by go_num, HP2.out⟩
        case measure => simp [intOf]; omega
      · have hyb : (y == (i : Int)) = false := by simpa using hyi
        have HP2 := Lib.hid hP
        clear hP hrd hIy
        go_wp2
        go_roundw
        case rel => exact ⟨j + 1, _, by omega, by go_num, HP2.out⟩
        case measure => simp [intOf]; omega
end Go.Proofs.YtbcjhpgkodeoeaaGreatDoor

/- Drawn fields. Conditions: a cursor. -/
namespace Go.Proofs.YtbcjhpgkodeoeaaGreatDoor
open Go.RowKit Go.Sort

/-- Polynomials in order. -/
def PolsIn (n : Nat) (d : Int) (most : Nat) (xs : List (List MonZ)) : Prop := ∀ p ∈ xs, Canon p ∧ p.length ≤ most ∧ ∀ m ∈ p, MonIn n d m
/-- A field that is being drawn. -/
structure FldD (g : Nat) (W w : World) (Bf : Nat) (dim : Int) (v : Value) (xs : List (List MonZ)) (fs : List Nat) : Prop where
  own : OwnMss 24 56 3 w v xs fs
  new : ∀ b ∈ fs, W.heap.size ≤ b
  only : Only [Bf, g] W w
  cur : Cur w g
  c0 : w.cell? ⟨Bf, 0, none⟩ = some (.int .i64 dim)
  c1 : w.cell? ⟨Bf, 1, none⟩ = some v
  f1 : w.frozen? ⟨Bf, 1, none⟩ = false
  lt : Bf < W.heap.size
  gt : g < Bf
  lg : g < W.heap.size
theorem FldD.draw {g Bf : Nat} {dim : Int} {v : Value} {xs : List (List MonZ)} {fs : List Nat} {W w w' : World} (h : FldD g W w Bf dim v xs fs) (hd : Drawn g w w') : FldD g W w' Bf dim v xs fs := by
  have hb : Bf ∉ [g] := by have := h.gt; simp; omega
  have hl := World.block_lt_of_cell? _ _ h.c1
  have hg := h.lg
  exact ⟨ownMss_only h.own hd.only (fun b hb => by have := h.new b hb; simp; omega), h.new, h.only.trans (hd.only.mono (by intro b hb; simp at hb; simp [hb])), hd.cur, cell_only hd.only hb h.c0, cell_only hd.only hb h.c1, (World.frozen?_of_block (hd.only.block _ hl hb)).trans h.f1, h.lt, h.gt, h.lg⟩
theorem FldD.bel {g Bf : Nat} {dim : Int} {v : Value} {xs : List (List MonZ)} {fs : List Nat} {W w w' : World} (h : FldD g W w Bf dim v xs fs) (hb : Below w.heap.size w w') : FldD g W w' Bf dim v xs fs := h.draw ((Drawn.refl h.cur).below hb)
/-- Behind a call, an append to the parts, and the store of the new slice of parts. -/
theorem FldD.push {g Bf : Nat} {dim : Int} {v v' p : Value} {xs : List (List MonZ)} {x : List MonZ} {us : List (List Value)} {fs f : List Nat} {n : Nat} {W w w1 w2 : World}
    (h : FldD g W w Bf dim v xs (v.ownBlock.toList ++ fs)) (hone : ∀ u ∈ us, u.length = 1) (hels : OwnEls (OElMss 56 3) w us xs fs) (hnd : (v.ownBlock.toList ++ fs).Nodup) (hown0 : w.ownsRow 0 24 1 v xs.length us.flatten) (hn : xs.length = n)
    (hp : OwnMs 56 3 w p x f) (hf : ∀ b ∈ f, W.heap.size ≤ b ∧ b ∉ v.ownBlock.toList ++ fs) (h1 : Below w.heap.size w w1) (hown : w2.ownsRow 0 24 1 v' (n + 1) (us.flatten ++ [p])) (hg : w1.grownBy w2 v.ownBlock)
    (hv : ∀ b, v'.ownBlock = some b → v.ownBlock = some b ∨ w1.heap.size ≤ b) :
    w2.cell? ⟨Bf, 1, none⟩ = some v ∧ w2.frozen? ⟨Bf, 1, none⟩ = false ∧ ∃ fp', FldD g W (w2.setCell ⟨Bf, 1, none⟩ v') Bf dim v' (xs ++ [x]) fp' := by
  have hlt : ∀ b ∈ v.ownBlock.toList ++ fs, b < w.heap.size := fun b hb => by
    simp only [List.mem_append, Option.mem_toList] at hb
    rcases hb with hb | hb
    · exact (hown0.lt b hb).2
    · exact ownEls_lt (fun _ _ _ h => oelMss_lt h) hels b hb
  have hWw := h.only.size
  have h11 := h1.size
  have hBlt := h.lt
  have hgl := h.lg
  obtain ⟨fp', hP, hfp, hO⟩ := ownS_push2 (El := OElMss 56 3) (w := w) (w1 := w1) (f := f) (fs := fs) (fun w w' u x f g h ho hd => oelMss_only h ho hd) hone hels hnd ⟨p, rfl, hp⟩ rfl
    (fun b hb => (hf b hb).2) (ownMs_nodup hp) (ownMs_lt hp) (fun b hb => hlt b (by simp [hb])) hn h1 hown hg hv
  have hBn : Bf ∉ v.ownBlock.toList := fun hm => by have := h.new Bf (by simp only [List.mem_append]; left; exact hm); omega
  have hgn : g ∉ v.ownBlock.toList := fun hm => by have := h.new g (by simp only [List.mem_append]; left; exact hm); omega
  have hvn : ∀ b ∈ v.ownBlock.toList, W.heap.size ≤ b := fun b hb => h.new b (by simp only [List.mem_append]; exact .inl hb)
  have hfn : ∀ b ∈ fp', W.heap.size ≤ b := fun b hb => by
    rcases hfp b hb with h2 | h2 | h2
    · exact h.new b h2
    · exact (hf b h2).1
    · omega
  have hSt : Only [Bf] w2 (w2.setCell ⟨Bf, 1, none⟩ v') := (Only.refl _ _).setCell (by simp) _
  have hc1 := cell_only hO hBn h.c1
  have hc0 := cell_only hO hBn h.c0
  have hf1 : w2.frozen? ⟨Bf, 1, none⟩ = false := (World.frozen?_of_block (hO.block Bf (by omega) hBn)).trans h.f1
  have hcu : Cur w2 g := h.cur.only hO hgn (fun b hb => by have := hvn b hb; omega)
  refine ⟨hc1, hf1, fp', ⟨ownMss_only hP hSt (fun b hb hm => by have := hfn b hb; simp at hm; omega), hfn, ?_, ?_, ?_, World.cell?_setCell_same _ _ _ hc1, ?_, hBlt, h.gt, h.lg⟩⟩
  · refine ⟨by rw [hSt.os, hO.os, h.only.os], by rw [hSt.tape, hO.tape, h.only.tape], by rw [hSt.output, hO.output, h.only.output], by have := hSt.size; have := hO.size; omega, fun k hk hn => ?_⟩
    rw [hSt.block k (by have := hO.size; omega) (fun hm => hn (by simp at hm; simp [hm])), hO.block k (by omega) (fun hm => by have := hvn k hm; omega), h.only.block k hk hn]
  · exact hcu.only hSt (by have := h.gt; simp; omega) (fun b hb => by have := h.gt; simp at hb; omega)
  · exact (World.cell?_setCell_other _ _ _ _ (by simp)).trans hc0
  · rw [World.frozen?_setCell]; exact hf1
theorem fldD_start {g n : Nat} {w : World} {dim : Int} {W : World} (hW : W = w.alloc (.cells #[.int .i64 dim, .slice none 0 0] 30)) (hc : Cur w g) : FldD g W W w.heap.size dim (.slice none 0 0) [] [] := by
  have hl := hc.lt
  have hcW : Cur W g := hW ▸ hc.below ((Below.refl _ _).alloc (Nat.le_refl _) _)
  have hlW := hcW.lt
  refine ⟨⟨[], [], World.ownsRow_nil _ _ _ _, by simp, rfl, rfl, by simp⟩, by simp, Only.refl _ _, hcW, ?_, ?_, ?_, ?_, hl, hlW⟩ <;> rw [hW] <;> simp

/-- What a drawn field is. -/
def FldIn (n : Nat) (d : Int) (f : FldZ) : Prop := f.dim = n ∧ f.parts.length = n ∧ PolsIn n d 3 f.parts
def DrawsFld (g n : Nat) (d : Int) (w : World) : Ending → World → Prop := fun e w' => ∃ v f fp, e = .returned v ∧ OwnFld 24 56 3 w' v f fp ∧ FldIn n d f ∧ (∀ b ∈ fp, w.heap.size ≤ b) ∧ Drawn g w w'

/-- Behind the draw of a part: what an append of it leaves. -/
theorem fldD_app {g Bf n k capu : Nat} {d dim : Int} {adu : Option Addr} {xs : List (List MonZ)} {fs0 : List Nat} {W wk wa : World} {q : Value} {Z : List ElS} (hI : FldD g W wk Bf dim (.slice adu k capu) xs fs0) (hlt : ∀ b ∈ fs0, b < wk.heap.size) (hkl : xs.length = k) (hps : PolsIn n d 3 xs)
    (h : PolD g n d wk wa q Z) (hl3 : Z.length ≤ 3) (hW : W.heap.size ≤ wk.heap.size) :
    wa.cell? ⟨Bf, 1, none⟩ = some (.slice adu k capu) ∧ ∃ us : List (List Value), wa.ownsRow 0 24 1 (.slice adu k capu) k us.flatten ∧ ∃ gq capq, q = .slice (some ⟨gq, 0, none⟩) Z.length capq ∧
      ∀ (w2 : World) (gg capn : Nat), w2.ownsRow 0 24 1 (.slice (some ⟨gg, 0, none⟩) (k + 1) capn) (k + 1) (us.flatten ++ [.slice (some ⟨gq, 0, none⟩) Z.length capq]) → (wa.alloc (.cells #[.slice (some ⟨gq, 0, none⟩) Z.length capq] 24)).grownBy w2 (Value.slice adu k capu).ownBlock →
        ((Value.slice adu k capu).ownBlock = some gg ∨ gg = wa.heap.size + 1) → w2.cell? ⟨Bf, 1, none⟩ = some (.slice adu k capu) ∧ w2.frozen? ⟨Bf, 1, none⟩ = false ∧ ∃ fp', FldD g W (w2.setCell ⟨Bf, 1, none⟩ (.slice (some ⟨gg, 0, none⟩) (k + 1) capn)) Bf dim (.slice (some ⟨gg, 0, none⟩) (k + 1) capn) (xs ++ [Z.map monS]) fp' ∧
          (xs ++ [Z.map monS]).length = k + 1 ∧ PolsIn n d 3 (xs ++ [Z.map monS]) := by
  have hIa := hI.draw h.drawn
  obtain ⟨us, fs, hown, hone, hels, rfl, hnd⟩ := hIa.own
  obtain ⟨gq, capq, rfl⟩ := h.shape
  have hown' := hown
  rw [hkl] at hown'
  refine ⟨hIa.c1, us, hown', gq, capq, rfl, fun w2 gg capn h1 h2 h3 => ?_⟩
  obtain ⟨k1, k2, fp', k3⟩ := hIa.push hone hels hnd hown hkl h.own (fun b hb => ⟨by have := h.new b hb; omega, fun hm => by have := h.new b hb; have := hlt b hm; omega⟩) ((Below.refl _ _).alloc (Nat.le_refl _) _) h1 h2 (fun b hb => by
    simp [Value.ownBlock] at hb
    subst hb
    rcases h3 with h3 | h3
    · left; exact h3
    · right; rw [h3]; simp)
  refine ⟨k1, k2, fp', k3, by simp [hkl], fun p hp => ?_⟩
  rcases List.mem_append.1 hp with hp | hp
  · exact hps p hp
  · rw [List.mem_singleton.1 hp]
    exact ⟨h.canon, by simpa using hl3, fun m hm => by
      obtain ⟨z, hz, rfl⟩ := List.mem_map.1 hm
      exact h.mons z hz⟩

set_option maxRecDepth 100000 in
set_option maxHeartbeats 12800000 in
theorem field_any (g n deg : Nat) (nz dz : Int) (hnz : nz = n) (hdz : dz = deg) (h1 : 1 ≤ n) (h6 : n ≤ 6) (hd5 : deg ≤ 12) (w : World) (hc : Cur w g) :
    Calls Tryz.prog 86 #[.pointer (some ⟨g, 0, none⟩), .int .i64 nz, .int .i64 dz] w (DrawsFld g n deg w) := by
  obtain ⟨j1, hj1, hw0, hw1, hw2⟩ := info_parts Tryz.info_mons
  have hgl := hc.lt
  obtain ⟨W0, hW0⟩ : ∃ W, W = w.alloc (.cells #[.int .i64 0, .slice none 0 0] 30) := ⟨_, rfl⟩
  have hb0 : Below w.heap.size w W0 := hW0 ▸ (Below.refl _ _).alloc (Nat.le_refl _) _
  have hs0 : W0.heap.size = w.heap.size + 1 := by rw [hW0]; simp
  obtain ⟨W1, hW1⟩ : ∃ W, W = W0.alloc (.cells #[.int .i64 nz, .slice none 0 0] 30) := ⟨_, rfl⟩
  have hb1 : Below W0.heap.size W0 W1 := hW1 ▸ (Below.refl _ _).alloc (Nat.le_refl _) _
  have hs1 : W1.heap.size = W0.heap.size + 1 := by rw [hW1]; simp
  have HI0 := Lib.hid (fldD_start (n := n) hW1 (hc.below hb0))
  have HR := Lib.hid (show B2 W1 w.heap.size from (hW0 ▸ B2.new w (.int .i64 0) (.slice none 0 0) 30 : B2 W0 w.heap.size).only (Only.of_below (fp := []) hb1) (by simp))
  have HD1 := Lib.hid (((Drawn.refl hc).below hb0).below (hb1.mono (Nat.le_refl _)))
  have HW : Hid (W1 = (w.alloc (.cells #[.int .i64 0, .slice none 0 0] 30)).alloc (.cells #[.int .i64 nz, .slice none 0 0] 30)) := Lib.hid (by rw [hW1, hW0])
  obtain ⟨Bf, hBf⟩ : ∃ B, B = W0.heap.size := ⟨_, rfl⟩
  rw [← hBf] at HI0 hs1
  have HBF := Lib.hid (show w.heap.size + 1 = Bf from by omega)
  have HS1 := Lib.hid (show W1.heap.size = w.heap.size + 2 from by omega)
  have HN := Lib.hid hnz
  have HDZ := Lib.hid hdz
  have hnb : 0 ≤ nz ∧ nz ≤ 6 := by omega
  obtain ⟨hn0, hn6⟩ := hnb
  clear hW0 hW1 hb0 hb1 hs0 hs1 hnz hBf hdz
  go_enter Tryz.func86, Tryz.ntmps86
  go_wp2
  rw [← HW.out, HBF.out]
  go_loopw [8] (fun si wq => ∃ (k : Nat) (u : Value) (xs : List (List MonZ)) (fs : List Nat), k ≤ n ∧ si = .int .i64 k ∧ FldD g W1 wq Bf nz u xs fs ∧ xs.length = k ∧ PolsIn n deg 3 xs) (fun si _ => n - (intOf si).toNat)
  case atStart => exact ⟨0, _, [], _, Nat.zero_le _, rfl, HI0.out, rfl, by intro p hp; cases hp⟩
  case round =>
    obtain ⟨wk, rfl⟩ : ∃ W, W = wr := ⟨_, rfl⟩
    obtain ⟨k, u, xs, fs0, hk, rfl, hI, hkl, hps⟩ := hrel
    clear HI0
    by_cases hlt : k < n
    case neg =>
      obtain rfl : k = n := by omega
      have hkI : ¬ ((k : Int) < nz) := by rw [HN.out]; omega
      have hi0 := hI.c0
      have hi1 := hI.c1
      obtain ⟨adu, lu, cu, rfl⟩ := ownMss_slice hI.own
      obtain ⟨⟨y0, hy0⟩, ⟨y1, hy1⟩, hyf0, hyf1⟩ := HR.out.only hI.only (by have := HBF.out; simp; omega)
      have HI := Lib.hid hI
      have HPS := Lib.hid hps
      clear hI hps
      go_wp2
      refine bodyPost_ret (v := .agg #[.int .i64 nz, .slice adu lu cu]) (by simp [results, Tryz.results86, go_sem, hy0, hy1]) rfl ?_
      have hO2 : Only [w.heap.size] wk ((wk.setCell ⟨w.heap.size, 0, none⟩ (.int .i64 nz)).setCell ⟨w.heap.size, 1, none⟩ (.slice adu lu cu)) := ((Only.refl _ _).setCell (by simp) _).setCell (by simp) _
      have hs1 := HS1.out
      have hbf := HBF.out
      have hOw : Only [g] w wk := by
        have h1 := HD1.out.only
        have h2 := HI.out.only
        refine ⟨h2.os.trans h1.os, h2.tape.trans h1.tape, h2.output.trans h1.output, Nat.le_trans h1.size h2.size, fun q hq hn => ?_⟩
        rw [h2.block q (by omega) (by simp at hn; simp; omega), h1.block q hq hn]
      exact ⟨_, ⟨nz, xs⟩, fs0, rfl, ⟨_, rfl, ⟨by show (-9223372036854775808 : Int) ≤ nz; omega, by show nz ≤ 9223372036854775807; omega⟩, ownMss_only HI.out.own hO2 (fun b hb hm => by have := HI.out.new b hb; simp at hm; omega)⟩, ⟨HN.out, hkl, HPS.out⟩, fun b hb => by { have := HI.out.new b hb; omega }, (Drawn.mk hOw HI.out.cur).newer hgl hO2 (by simp)⟩
    have hkI : (k : Int) < nz := by rw [HN.out]; omega
    have hdr : Below wk.heap.size wk wk.drew := (Below.refl _ _).drew
    have hId := hI.bel hdr
    have hi1 := hI.c1
    have HIK := Lib.hid hI
    have HM := Lib.hid (monomials_any g n 3 deg nz 3 dz HN.out rfl HDZ.out h1 h6 (by omega) hd5 wk.drew hId.cur)
    have HID := Lib.hid hId
    have HPS := Lib.hid hps
    have hsl : ∃ adu capu, u = .slice adu k capu ∧ k ≤ capu ∧ capu ≤ 9223372036854775807 := by
      obtain ⟨us, fs, hown, _⟩ := hI.own
      rw [hkl] at hown
      obtain ⟨adu, capu, rfl, h1, h2, _⟩ := row_open hown
      exact ⟨_, _, rfl, h1, h2⟩
    obtain ⟨adu, capu, rfl, hluc, hcum⟩ := hsl
    have hltD := ownMss_lt hId.own
    have hWk := hI.only.size
    have HLT := Lib.hid hltD
    have HKL := Lib.hid hkl
    clear hdr hId hI hps hltD hkl
    have HAP := Lib.hid (fun (wa : World) (q : Value) (Z : List ElS) (h : PolD g n deg wk.drew wa q Z) (hl3 : Z.length ≤ 3) => fldD_app (W := W1) HID.out HLT.out HKL.out HPS.out h hl3 (by show W1.heap.size ≤ wk.heap.size; exact hWk))
    go_wp2
    go_region_law (first | (go_simp; go_at_call 41; (with_reducible refine (HM.out).mono ?_); rintro e wa ⟨q, Z, rfl, hPq, hZl⟩; have hApp := HAP.out wa q Z hPq hZl; obtain ⟨hi1a, us, hNQ, gq, capq, rfl, hAp⟩ := hApp; have hi1b := cell_al (o := .cells #[.slice (some ⟨gq, 0, none⟩) Z.length capq] 24) hi1a; have HNQ := Lib.hid hNQ; have HAQ := Lib.hid hAp; clear hNQ hAp hPq) | (refine step_append_lies _ (by rfl) _ _ _ (by rfl) 0 24 j1 _ 1 24 Tryz.underlying28 hj1 hw0 hw1 hw2 rfl (by omega) (.slice adu k capu) k _ (by rfl) (HNQ.out.alloc _) ⟨wa.heap.size, 0, none⟩ 1 1 [.slice (some ⟨gq, 0, none⟩) Z.length capq] (by rfl) (by rfl) (World.news_of_block (cs := #[.slice (some ⟨gq, 0, none⟩) Z.length capq]) (t := 24) (fr := (0, 0)) (heap_alloc_new wa _)) (by simp [Value.oneCell']) (by omega) (by unfold maxLen; omega) (by omega) (by simp) (wa.heap.size + 1) (by simp) ?_; intro gg capn w2 hown1 hgrow hat hlt1; obtain ⟨hcB, hfB, fp', hP, hPl, hPI⟩ := HAQ.out w2 gg capn hown1 hgrow hat; have HPP := Lib.hid hP; clear hown1 hgrow hat hP))
    all_goals (
      go_wp2
      go_roundw
      case rel => exact ⟨k + 1, _, _, fp', by omega, by go_num, HPP.out, hPl, hPI⟩
      case measure => simp [intOf]; omega)
end Go.Proofs.YtbcjhpgkodeoeaaGreatDoor
