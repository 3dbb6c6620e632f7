/- The reference's ExplicitFour: it returns some tableau. Conditions: numbers. -/
import Derived.Deep.Cut
import Derived.Deep.CutRange
import Derived.Test.YtbcjhpgkodeoeaaGreatDoorG22
import Derived.Test.YtbcjhpgkodeoeaaGreatDoorG23
set_option linter.unusedSimpArgs false
set_option linter.unusedVariables false

namespace Go.Proofs.YtbcjhpgkodeoeaaGreatDoor
open Go.RowKit

theorem outS_nums {S : List (List Int) × List Nat} {c n N : Nat} (h : RowsOk c S.1) (hl : N ≤ S.1.length) : ∀ i, i ≤ N → Nums (outS S n i)
  | 0, _ => fun x hx => by rw [outS, List.mem_replicate] at hx; rw [hx.2]; exact ⟨by omega, by omega⟩
  | i + 1, hi => by
    have ih := outS_nums (n := n) h hl i (by omega)
    rw [outS]
    split
    · intro x hx
      rcases List.mem_or_eq_of_mem_set hx with hx | rfl
      · exact ih x hx
      · exact nums_atZ (h i (by omega)).2 n
    · exact ih
theorem solL_nums (rows : List (List Int)) (right : List Int) : Nums (solL rows right) := by
  unfold solL
  split
  · rename_i h
    have hs : sysB rows right = true := by
      cases h2 : sysB rows right with
      | true => rfl
      | false => rw [(solB_sys h2).1] at h; simp at h
    simp only [sysB, Bool.and_eq_true] at hs
    obtain ⟨h1, _, _, _, _⟩ := rowsB_ok hs.1
    have h2 := aug_ok h1 (nums_all hs.2.2)
    obtain ⟨k1, k2, _⟩ := redS_ok h2 (atL rows 0).length
    rw [augZ_len] at k2
    exact outS_nums (S := redS (augZ rows right) (atL rows 0).length) k1 (by rw [k2]; exact Nat.le_refl _) _ (Nat.le_refl _)
  · intro x hx; simp at hx
theorem four_nodes {c2 c3 : Int} (h : diffB [0, c2, c3, 1] = true) (h2 : NumZ c2) (h3 : NumZ c3) : c2 % 1000000271 ≠ 0 ∧ (c3 - 1) % 1000000271 ≠ 0 ∧ (weightsL [0, c2, c3, 1] 1).length = 4 := by
  simp only [diffB, Bool.and_eq_true, decide_eq_true_eq] at h
  obtain ⟨hd, hn⟩ := h
  have h4 := weights_len (t := 1) (nums_all hn) hd (by simp) (by simp)
  simp only [List.nodup_cons, List.mem_cons, not_or] at hd
  obtain ⟨⟨a1, a2, a3, _⟩, ⟨b1, b2, _⟩, ⟨c1, _⟩, _⟩ := hd
  unfold NumZ at h2 h3
  exact ⟨by omega, by omega, h4⟩
theorem four_get {l : List Int} (h : l.length = 4) : ∃ a b c d, l = [a, b, c, d] := by
  match l, h with
  | [a, b, c, d], _ => exact ⟨a, b, c, d, rfl⟩
theorem nums_two {a b : Int} (ha : NumZ a) (hb : NumZ b) : Nums [a, b] := fun x hx => by
  simp at hx
  rcases hx with rfl | rfl
  · exact ha
  · exact hb
theorem two_get {l : List Int} (h : l.length = 2) : ∃ a b, l = [a, b] := by
  match l, h with
  | [a, b], _ => exact ⟨a, b, rfl⟩
theorem lit_rows {e1 e : Nat} (W w : World) (hb : Below W.heap.size W w) (p q : Value) (xs ys : List Int) (hp : RdI w p xs) (hq : RdI w q ys) : RdII (w.alloc (.cells #[p, q] e1)) (.slice (some ⟨w.heap.size, 0, none⟩) 2 2) [xs, ys] ∧ Below W.heap.size W (w.alloc (.cells #[p, q] e1)) := by
  have hal : Below w.heap.size w (w.alloc (.cells #[p, q] e1)) := (Below.refl _ _).alloc (Nat.le_refl _) _
  refine ⟨⟨some ⟨w.heap.size, 0, none⟩, 2, rfl, Nat.le_refl _, by omega, fun _ => ⟨w.heap.size, 0, rfl, fun i x hx => ?_⟩⟩, hb.trans (hal.mono hb.size)⟩
  match i, hx with
  | 0, hx =>
    simp at hx
    subst hx
    exact ⟨[p], rfl, fun j u hj => by
      match j, hj with
      | 0, hj => simp at hj; subst hj; simp, p, rfl, rdI_mono hal hp⟩
  | 1, hx =>
    simp at hx
    subst hx
    exact ⟨[q], rfl, fun j u hj => by
      match j, hj with
      | 0, hj => simp at hj; subst hj; simp, q, rfl, rdI_mono hal hq⟩
theorem lit_rd {e : Nat} (w : World) (xs : List Int) (hx : ∀ x ∈ xs, I64 x) (hl : xs.length ≤ 1000) (cs : Array Value) (hcs : cs = (xs.map (Value.int .i64)).toArray) (n : Nat) (hn : n = xs.length) :
    RdI (w.alloc (.cells cs e)) (.slice (some ⟨w.heap.size, 0, none⟩) n n) xs := ownI_rd (lit_own w xs hx hl cs hcs n hn)
theorem cell_set3 {w : World} {b g k : Nat} {u0 u1 u2 v : Value} (h : w.cell? ⟨g, k, none⟩ = some v) (hn : g ≠ b) : (((w.setCell ⟨b, 0, none⟩ u0).setCell ⟨b, 1, none⟩ u1).setCell ⟨b, 2, none⟩ u2).cell? ⟨g, k, none⟩ = some v :=
  cell_only ((((Only.refl [b] _).setCell (by simp) _).setCell (by simp) _).setCell (by simp) _) (by simpa using hn) h
theorem cell_set3b {w : World} {b g : Nat} {u0 u1 u2 v v' : Value} (h : w.cell? ⟨g, 0, none⟩ = some v) (h' : w.cell? ⟨g, 1, none⟩ = some v') (hn : g ≠ b) : (((w.setCell ⟨b, 0, none⟩ u0).setCell ⟨b, 1, none⟩ u1).setCell ⟨b, 2, none⟩ u2).cell? ⟨g, 0, none⟩ = some v ∧ (((w.setCell ⟨b, 0, none⟩ u0).setCell ⟨b, 1, none⟩ u1).setCell ⟨b, 2, none⟩ u2).cell? ⟨g, 1, none⟩ = some v' := ⟨cell_set3 h hn, cell_set3 h' hn⟩
theorem cell_alloc {w : World} {o : Obj} {b k : Nat} {v : Value} (h : w.cell? ⟨b, k, none⟩ = some v) : (w.alloc o).cell? ⟨b, k, none⟩ = some v := cell_below ((Below.refl _ _).alloc (Nat.le_refl _) _) h
def Rows2 (wk : World) (rows : List (List Int)) (s : Value) (wx : World) : Prop := ∃ ad cap, s = .slice ad 2 cap ∧ RdII wx (.slice ad 2 cap) rows ∧ Below wk.heap.size wk wx

theorem own_at {e g n c : Nat} {w : World} {xs : List Int} {f : List Nat} (h : OwnI e w (.slice (some ⟨g, 0, none⟩) n c) xs f) {k : Nat} {x : Int} (hk : xs[k]? = some x) : w.cell? ⟨g, k, none⟩ = some (.int .i64 x) := by
  obtain ⟨ad, len, cap, he, hl, _, _, hown, _, _⟩ := ownI_open h
  simp only [Value.slice.injEq] at he
  obtain ⟨rfl, rfl, rfl⟩ := he
  have hkl := (List.getElem?_eq_some_iff.1 hk).1
  rw [hown.cellAt k (by omega)]
  simp [hk]

theorem rd_pair {e : Nat} (w : World) (a b : Int) (ha : NumZ a) (hb : NumZ b) : RdI (w.alloc (.cells #[.int .i64 a, .int .i64 b] e)) (.slice (some ⟨w.heap.size, 0, none⟩) 2 2) [a, b] :=
  lit_rd w [a, b] (by simp; exact ⟨numZ_i64 ha, numZ_i64 hb⟩) (by simp) _ rfl 2 rfl
theorem rows_one {e1 e2 e3 : Nat} (wk : World) (a b c d : Int) (ha : NumZ a) (hb : NumZ b) (hc : NumZ c) (hd : NumZ d) :
    Rows2 wk [[a, b], [c, d]] (.slice (some ⟨wk.heap.size + 1 + 1, 0, none⟩) 2 2) ((((wk.alloc (.cells #[.int .i64 a, .int .i64 b] e1)).alloc (.cells #[.int .i64 c, .int .i64 d] e2)).alloc (.cells #[.slice (some ⟨wk.heap.size, 0, none⟩) 2 2, .slice (some ⟨wk.heap.size + 1, 0, none⟩) 2 2] e3)).drew) := by
  have h1 := rd_pair (e := e1) wk a b ha hb
  have h2 := rd_pair (e := e2) (wk.alloc (.cells #[.int .i64 a, .int .i64 b] e1)) c d hc hd
  have hb1 : Below wk.heap.size wk (wk.alloc (.cells #[.int .i64 a, .int .i64 b] e1)) := (Below.refl _ _).alloc (Nat.le_refl _) _
  have hb2 : Below (wk.alloc (.cells #[.int .i64 a, .int .i64 b] e1)).heap.size (wk.alloc (.cells #[.int .i64 a, .int .i64 b] e1)) ((wk.alloc (.cells #[.int .i64 a, .int .i64 b] e1)).alloc (.cells #[.int .i64 c, .int .i64 d] e2)) := (Below.refl _ _).alloc (Nat.le_refl _) _
  have hs : (wk.alloc (.cells #[.int .i64 a, .int .i64 b] e1)).heap.size = wk.heap.size + 1 := by simp
  rw [hs] at h2
  obtain ⟨k1, k2⟩ := lit_rows (e1 := e3) (e := 0) wk _ (hb1.trans (hb2.mono hb1.size)) _ _ [a, b] [c, d] (rdI_mono hb2 h1) h2
  have hs2 : ((wk.alloc (.cells #[.int .i64 a, .int .i64 b] e1)).alloc (.cells #[.int .i64 c, .int .i64 d] e2)).heap.size = wk.heap.size + 1 + 1 := by simp
  rw [hs2] at k1
  exact ⟨_, _, rfl, rdII_mono (Below.refl _ _).drew k1, k2.drew⟩
theorem rows_two {e1 e2 e3 : Nat} (wk : World) (a b c d : Int) (ha : NumZ a) (hb : NumZ b) (hc : NumZ c) (hd : NumZ d) :
    Rows2 wk [[a, b], [c, d]] (.slice (some ⟨wk.heap.size + 1 + 1, 0, none⟩) 2 2) ((((wk.alloc (.cells #[.int .i64 c, .int .i64 d] e2)).alloc (.cells #[.int .i64 a, .int .i64 b] e1)).alloc (.cells #[.slice (some ⟨wk.heap.size + 1, 0, none⟩) 2 2, .slice (some ⟨wk.heap.size, 0, none⟩) 2 2] e3)).drew) := by
  have h2 := rd_pair (e := e2) wk c d hc hd
  have h1 := rd_pair (e := e1) (wk.alloc (.cells #[.int .i64 c, .int .i64 d] e2)) a b ha hb
  have hb1 : Below wk.heap.size wk (wk.alloc (.cells #[.int .i64 c, .int .i64 d] e2)) := (Below.refl _ _).alloc (Nat.le_refl _) _
  have hb2 : Below (wk.alloc (.cells #[.int .i64 c, .int .i64 d] e2)).heap.size (wk.alloc (.cells #[.int .i64 c, .int .i64 d] e2)) ((wk.alloc (.cells #[.int .i64 c, .int .i64 d] e2)).alloc (.cells #[.int .i64 a, .int .i64 b] e1)) := (Below.refl _ _).alloc (Nat.le_refl _) _
  have hs : (wk.alloc (.cells #[.int .i64 c, .int .i64 d] e2)).heap.size = wk.heap.size + 1 := by simp
  rw [hs] at h1
  obtain ⟨k1, k2⟩ := lit_rows (e1 := e3) (e := 0) wk _ (hb1.trans (hb2.mono hb1.size)) _ _ [a, b] [c, d] h1 (rdI_mono hb2 h2)
  have hs2 : ((wk.alloc (.cells #[.int .i64 c, .int .i64 d] e2)).alloc (.cells #[.int .i64 a, .int .i64 b] e1)).heap.size = wk.heap.size + 1 + 1 := by simp
  rw [hs2] at k1
  exact ⟨_, _, rfl, rdII_mono (Below.refl _ _).drew k1, k2.drew⟩

set_option maxRecDepth 100000 in
set_option maxHeartbeats 12800000 in
theorem four_any (c2 c3 : Int) (w : World) (h2 : NumZ c2) (h3 : NumZ c3) : Calls Tryz.prog 135 #[.int .i64 c2, .int .i64 c3] w (GivesTab 3 w) := by
  obtain ⟨c20, c21⟩ := h2
  obtain ⟨c30, c31⟩ := h3
  have hI2 : I64 c2 := ⟨by omega, by omega⟩
  have hI3 : I64 c3 := ⟨by omega, by omega⟩
  obtain ⟨W0, hW0⟩ : ∃ W, W = w.alloc (.cells #[.int .i64 0, .slice none 0 0, .slice none 0 0] 37) := ⟨_, rfl⟩
  obtain ⟨W1, hW1⟩ : ∃ W, W = W0.alloc (.cells #[.int .i64 0, .int .i64 c2, .int .i64 c3, .int .i64 1] 3) := ⟨_, rfl⟩
  have hb0 : Below w.heap.size w W0 := hW0 ▸ (Below.refl _ _).alloc (Nat.le_refl _) _
  have hsz : W0.heap.size = w.heap.size + 1 := by rw [hW0]; simp
  have hb1 : Below W0.heap.size W0 W1 := hW1 ▸ (Below.refl _ _).alloc (Nat.le_refl _) _
  have hnd : RdI W1 (.slice (some ⟨W0.heap.size, 0, none⟩) 4 4) [0, c2, c3, 1] := hW1 ▸ lit_rd W0 [0, c2, c3, 1] (by
    intro x hx
    simp at hx
    rcases hx with rfl | rfl | rfl | rfl
    · exact ⟨by omega, by omega⟩
    · exact hI2
    · exact hI3
    · exact ⟨by omega, by omega⟩) (by simp) _ rfl _ rfl
  rw [hsz] at hnd
  have HR := Lib.hid (fun (W : World) (hW : Below W0.heap.size W0 W) => rbox (w := w) (e := 37) (W := W) (a := .int .i64 0) (b := .slice none 0 0) (c := .slice none 0 0) (hW0 ▸ hW))
  have HNO := Lib.hid (fun (W : World) (hW : Below w.heap.size w W) => show GivesTab 3 w (.returned (.tuple #[.agg #[.int .i64 0, .slice none 0 0, .slice none 0 0], .bool false])) W from ⟨_, ⟨0, [], []⟩, [], false, rfl, tab_nil _, by simp, hW⟩)
  have HW : Hid (W1 = (w.alloc (.cells #[.int .i64 0, .slice none 0 0, .slice none 0 0] 37)).alloc (.cells #[.int .i64 0, .int .i64 c2, .int .i64 c3, .int .i64 1] 3)) := Lib.hid (by rw [hW1, hW0])
  have HB0 := Lib.hid hb0
  have HB1 := Lib.hid hb1
  have HSZ := Lib.hid hsz
  have HNUM := Lib.hid (fun (h : diffB [0, c2, c3, 1] = true) => four_nodes h ⟨c20, c21⟩ ⟨c30, c31⟩)
  clear hW0 hW1 hb0 hb1 hsz hI2 hI3
  cases hd : diffB [0, c2, c3, 1] with
  | false =>
    have HD := Lib.hid hd
    clear hd
    go_enter Tryz.func135, Tryz.ntmps135
    go_wp2_with fail
    rw [← HW.out]
    refine (l7Diff_any _ [0, c2, c3, 1] W1 hnd).mono ?_
    rw [HD.out]
    rintro e w1 ⟨rfl, m, hw1⟩
    have hb2 : Below W1.heap.size W1 w1 := hw1 ▸ blw_drewN (Below.refl _ _) m
    have hb02 := HB1.out.trans (hb2.mono HB1.out.size)
    obtain ⟨⟨x0, hr0⟩, ⟨x1, hr1⟩, ⟨x2, hr2⟩, hf0, hf1, hf2⟩ := HR.out w1 hb02
    have HB := Lib.hid (HB0.out.trans (hb02.mono HB0.out.size))
    clear hw1 hb2 hb02
    go_wp2
    exact bodyPost_ret (v := .tuple #[.agg #[.int .i64 0, .slice none 0 0, .slice none 0 0], .bool false]) (by simp [results, Tryz.results135, go_sem, hr0, hr1, hr2]) rfl (HNO.out _ (((HB.out.setCell (by simp) _).setCell (by simp) _).setCell (by simp) _))
  | true =>
  obtain ⟨n1, n2, n3⟩ := HNUM.out hd
  obtain ⟨b0, b1, b2, b3, hbl⟩ := four_get n3
  have hbn : Nums [b0, b1, b2, b3] := by rw [← hbl, weightsL]; exact solL_nums _ _
  have hb2n := hbn b2 (by simp)
  have hb3n := hbn b3 (by simp)
  have HBL := Lib.hid hbl
  have HD := Lib.hid hd
  have HN1 := Lib.hid n1
  have HN2 := Lib.hid n2
  clear hd n1 n2 n3 hbl HNUM
  go_enter Tryz.func135, Tryz.ntmps135
  go_wp2_with fail
  rw [← HW.out]
  refine (l7Diff_any _ [0, c2, c3, 1] W1 hnd).mono ?_
  rw [HD.out]
  rintro e w1 ⟨rfl, m, hw1⟩
  have hb2' : Below W1.heap.size W1 w1 := hw1 ▸ blw_drewN (Below.refl _ _) m
  have HB2 := Lib.hid (HB1.out.trans (hb2'.mono HB1.out.size))
  have hnd1 := rdI_mono hb2' hnd
  clear hw1 hb2' hnd
  go_wp2_with fail
  refine (l7Weights_any _ [0, c2, c3, 1] 1 w1 hnd1 (by simp)).mono ?_
  rw [HBL.out]
  rintro e w2 ⟨vb, fb, rfl, hob, hfb, hb3'⟩
  obtain ⟨adb, lb, cb, rfl, hlb, hlbc, hcbm, hownb, hgb, _⟩ := ownI_open hob
  obtain rfl : lb = 4 := by simpa using hlb.symm
  obtain ⟨gb, rfl, rfl⟩ := hgb (by omega)
  have hcb1 := own_at hob (k := 1) rfl
  have hcb2 := own_at hob (k := 2) rfl
  have hcb3 := own_at hob (k := 3) rfl
  have HB3 := Lib.hid (HB2.out.trans (hb3'.mono HB2.out.size))
  have HOB := Lib.hid hob
  have HFB := Lib.hid hfb
  have HI := Lib.hid hbn
  clear hb3' hob hfb hbn hownb hgb hlbc hcbm hlb
  by_cases hz : b2 = 0 ∨ b3 = 0
  case pos =>
    have hzz : b2 = 0 ∨ (b2 ≠ 0 ∧ b3 = 0) := by omega
    obtain ⟨⟨x0, hr0⟩, ⟨x1, hr1⟩, ⟨x2, hr2⟩, hf0, hf1, hf2⟩ := HR.out w2 HB3.out
    have HB := Lib.hid (HB0.out.trans (HB3.out.mono HB0.out.size))
    clear hz
    rcases hzz with rfl | ⟨hz2, rfl⟩
    all_goals (
      go_wp2
      exact bodyPost_ret (v := .tuple #[.agg #[.int .i64 0, .slice none 0 0, .slice none 0 0], .bool false]) (by simp [results, Tryz.results135, go_sem, hr0, hr1, hr2]) rfl (HNO.out _ (((HB.out.setCell (by simp) _).setCell (by simp) _).setCell (by simp) _)))
  have hz2 : b2 ≠ 0 := fun h => hz (.inl h)
  have hz3 : b3 ≠ 0 := fun h => hz (.inr h)
  have hB2 : (b2 == 0) = false := by simpa using hz2
  have hB3 : (b3 == 0) = false := by simpa using hz3
  clear hz
  have hw1 : IntKind.i64.wrap (1 - c3) = 1 - c3 := IntWalk.i64_in _ (by omega)
  have HT1 := Lib.hid (fun w => sTimes_eq (a := b2) (b := 1 - c3) rfl w)
  go_wp2
  (refine wp_region_still_tail 10 (by kernel_rfl) (by kernel_rfl) ?_; simp only [List.take_succ_cons, List.take_zero, List.drop_succ_cons, List.drop_zero]; (repeat (first | still_step | still_call (still_of (sTimes_any _ _ _)) | still_call (still_of (sFraction_any _ _ _)))); refine wpStill_nil ?_; change wpList _ _ _ _ _ (World.drew _))
  go_wp2
  obtain ⟨wk, hwk⟩ : ∃ W, W = w2.drew := ⟨_, rfl⟩
  rw [← hwk]
  have hk1 : wk.cell? ⟨gb, 1, none⟩ = some (.int .i64 b1) := by rw [hwk]; exact hcb1
  have hk2 : wk.cell? ⟨gb, 2, none⟩ = some (.int .i64 b2) := by rw [hwk]; exact hcb2
  have hk3 : wk.cell? ⟨gb, 3, none⟩ = some (.int .i64 b3) := by rw [hwk]; exact hcb3
  have HBK := Lib.hid (show Below w2.heap.size w2 wk from hwk ▸ (Below.refl _ _).drew)
  obtain ⟨a43, ha43⟩ : ∃ a, a = fracZ (timesZ b2 (1 - c3)) b3 := ⟨_, rfl⟩
  rw [← ha43]
  have HA := Lib.hid ha43
  obtain ⟨p1, hp1⟩ : ∃ p, p = timesZ b2 (timesZ c3 c2) := ⟨_, rfl⟩
  obtain ⟨p2, hp2⟩ : ∃ p, p = timesZ b3 c2 := ⟨_, rfl⟩
  have HP1 := Lib.hid hp1
  have HP2 := Lib.hid hp2
  clear hwk hcb1 hcb2 hcb3 ha43 hp1 hp2
  go_cut [9] from 14 to 64 (fun s9 wx => Rows2 wk [[b2, b3], [p1, p2]] s9 wx)
  case first =>
    go_region_held3 (fun w' => w'.cell? ⟨gb, 2, none⟩ = some (.int .i64 b2) ∧ w'.cell? ⟨gb, 3, none⟩ = some (.int .i64 b3)) (first | exact ⟨hk2, hk3⟩ | exact ⟨cell_alloc hk2, cell_alloc hk3⟩ | exact ⟨cell_alloc (cell_alloc hk2), cell_alloc (cell_alloc hk3)⟩ | exact ⟨cell_alloc (cell_alloc (cell_alloc hk2)), cell_alloc (cell_alloc (cell_alloc hk3))⟩) (first | (go_at_call 23; (with_reducible refine (sTimes_any _ _ _).mono ?_); rintro e w' ⟨rfl, rfl⟩))
    all_goals (
      go_wp2_with fail
      go_meet
      rw [HP1.out, HP2.out]
      first
        | exact rows_one wk _ _ _ _ hb2n hb3n (timesZ_bd _ _) (timesZ_bd _ _)
        | exact rows_two wk _ _ _ _ hb2n hb3n (timesZ_bd _ _) (timesZ_bd _ _))
  case rest =>
    rename_i s9 wx
    obtain ⟨wx, rfl⟩ : ∃ W, W = wc := ⟨_, rfl⟩
    obtain ⟨ad9, c9, rfl, hr9, hbx⟩ := hcut
    have hx1 := cell_below hbx hk1
    have hx3 := cell_below hbx hk3
    have hbx0 := HB3.out.trans ((HBK.out.trans (hbx.mono HBK.out.size)).mono HB3.out.size)
    obtain ⟨r1, hr1⟩ : ∃ r, r = timesZ b1 (1 - c2) := ⟨_, rfl⟩
    obtain ⟨r2, hr2⟩ : ∃ r, r = minusZ (powZ 8 1000000269) (timesZ b3 (timesZ a43 c3)) := ⟨_, rfl⟩
    obtain ⟨W9, hW9⟩ : ∃ W, W = (wx.alloc (.cells #[.int .i64 r1, .int .i64 r2] 3)).drew := ⟨_, rfl⟩
    have n1 : NumZ r1 := hr1 ▸ timesZ_bd _ _
    have n2 : NumZ r2 := hr2 ▸ minusZ_bd _ _
    have hb9 : Below wx.heap.size wx W9 := hW9 ▸ ((Below.refl _ _).alloc (Nat.le_refl _) _).drew
    have HR9 := Lib.hid (rdII_mono hb9 hr9)
    have HX9 := Lib.hid (show RdI W9 (.slice (some ⟨wx.heap.size, 0, none⟩) 2 2) [r1, r2] from hW9 ▸ rdI_mono (Below.refl _ _).drew (rd_pair wx r1 r2 n1 n2))
    have HB9 := Lib.hid (hbx0.trans (hb9.mono hbx0.size))
    have HB29 := Lib.hid ((HBK.out.trans (hbx.mono HBK.out.size)).trans (hb9.mono (HBK.out.trans (hbx.mono HBK.out.size)).size))
    have hb2m : b2 % 1000000271 ≠ 0 := by rw [Int.emod_eq_of_lt hb2n.1 (by omega)]; exact hz2
    have hb3m : b3 % 1000000271 ≠ 0 := by rw [Int.emod_eq_of_lt hb3n.1 (by omega)]; exact hz3
    have hsol : (solL [[b2, b3], [p1, p2]] [r1, r2]).length = 2 := by
      refine (sol_found (n := 2) (fun i hi => ?_) (by simp) (by simp) (by omega) (by omega) (nums_two n1 n2) (by simp) ?_).2
      · match i, hi with
        | 0, _ => exact ⟨rfl, nums_two hb2n hb3n⟩
        | 1, _ => exact ⟨rfl, nums_two (by rw [HP1.out]; exact timesZ_bd _ _) (by rw [HP2.out]; exact timesZ_bd _ _)⟩
      · rw [HP1.out, HP2.out]
        exact two_solv hb2m hb3m HN1.out HN2.out _
    obtain ⟨x0, x1, hxx⟩ := two_get hsol
    have HXN := Lib.hid (show Nums [x0, x1] from hxx ▸ solL_nums _ _)
    have HXX := Lib.hid hxx
    have HR1 := Lib.hid hr1
    have HR2 := Lib.hid hr2
    have HW9 : Hid (W9 = (wx.alloc (.cells #[.int .i64 (timesZ b1 (1 - c2)), .int .i64 (minusZ (powZ 8 1000000269) (timesZ b3 (timesZ a43 c3)))] 3)).drew) := Lib.hid (by rw [hW9, hr1, hr2])
    clear hk1 hk2 hk3 hr9 hbx hbx0 hW9 n1 n2 hb9 hb2m hb3m hsol hxx hr1 hr2
    have hw2 : IntKind.i64.wrap (1 - c2) = 1 - c2 := IntWalk.i64_in _ (by omega)
    go_wp2
    (refine wp_region_still_tail 15 (by kernel_rfl) (by kernel_rfl) ?_; simp only [List.take_succ_cons, List.take_zero, List.drop_succ_cons, List.drop_zero]; (repeat (first | still_step | still_call (still_of (sTimes_any _ _ _)) | still_call (still_of (sMinus_any _ _ _)) | still_call (still_of (sInverse_any _ _)))); refine wpStill_nil ?_; change wpList _ _ _ _ _ (World.drew _))
    go_wp2_with fail
    rw [← HW9.out]
    refine (solve_any _ _ _ _ W9 HR9.out HX9.out).mono ?_
    rw [HXX.out]
    rintro e w4 ⟨vx, fx, rfl, hox, hfx, hb4⟩
    obtain ⟨adx, lx, cx, rfl, hlx, hlxc, hcxm, hownx, hgx, _⟩ := ownI_open hox
    obtain rfl : lx = 2 := by simpa using hlx.symm
    obtain ⟨gx, rfl, rfl⟩ := hgx (by omega)
    have hx0 := own_at hox (k := 0) rfl
    have hx1' := own_at hox (k := 1) rfl
    have hb04 := HB9.out.trans (hb4.mono HB9.out.size)
    have hb24 := HB29.out.trans (hb4.mono HB29.out.size)
    have hob4 := ownI_only HOB.out (Only.of_below (fp := []) hb24) (by simp)
    have hgl := ownI_lt HOB.out gb (by simp)
    have hg1 := HFB.out gb (by simp)
    have h24 := hb24.size
    have hgxn : gx ≠ w.heap.size := by
      have q1 := hfx gx (by simp)
      have q2 := HB9.out.size
      have q3 := HSZ.out
      omega
    have hB1s := HB2.out.size
    obtain ⟨y0, hy0⟩ : ∃ y, y = minusZ c3 x0 := ⟨_, rfl⟩
    obtain ⟨y1, hy1⟩ : ∃ y, y = minusZ 1 (plusZ x1 a43) := ⟨_, rfl⟩
    obtain ⟨ds, hds⟩ : ∃ ds : List Int, ds = [0, 0, 0, 0, c2, 0, 0, 0, y0, x0, 0, 0, y1, x1, a43, 0] := ⟨_, rfl⟩
    obtain ⟨W5, hW5⟩ : ∃ W, W = (w4.alloc (.cells (ds.map (Value.int .i64)).toArray 3)).drew := ⟨_, rfl⟩
    have hb5 : Below w4.heap.size w4 W5 := hW5 ▸ ((Below.refl _ _).alloc (Nat.le_refl _) _).drew
    have hb05 := hb04.trans (hb5.mono hb04.size)
    have hdI : ∀ x ∈ ds, I64 x := by
      intro x hx
      rw [hds] at hx
      simp only [List.mem_cons, List.not_mem_nil, or_false] at hx
      have z := HXN.out
      have z0 := z x0 (by simp)
      have z1 := z x1 (by simp)
      have q0 := minusZ_bd c3 x0
      have q1 := minusZ_bd 1 (plusZ x1 a43)
      have q2 := fracZ_bd (timesZ b2 (1 - c3)) b3
      rw [← hy0] at q0
      rw [← hy1] at q1
      rw [← HA.out] at q2
      unfold I64
      omega
    have hoA : OwnI 3 W5 (.slice (some ⟨w4.heap.size, 0, none⟩) 16 16) ds [w4.heap.size] := by
      rw [hW5]
      exact ownI_only (lit_own w4 ds hdI (by rw [hds]; simp) _ rfl 16 (by rw [hds]; rfl)) (Only.of_below (fp := []) (Below.refl _ _).drew) (by simp)
    have hoB := ownI_only hob4 (Only.of_below (fp := []) hb5) (by simp)
    obtain ⟨⟨x0', hr0⟩, ⟨x1', hr1⟩, ⟨x2', hr2⟩, hf0, hf1, hf2⟩ := HR.out W5 hb05
    have hE5 : W5 = (w4.alloc (.cells #[.int .i64 0, .int .i64 0, .int .i64 0, .int .i64 0, .int .i64 c2, .int .i64 0, .int .i64 0, .int .i64 0, .int .i64 (minusZ c3 x0), .int .i64 x0, .int .i64 0, .int .i64 0, .int .i64 (minusZ 1 (plusZ x1 a43)), .int .i64 x1, .int .i64 a43, .int .i64 0] 3)).drew := by rw [hW5, hds, hy0, hy1]; rfl
    rw [hE5] at hr0 hr1 hr2 hf0 hf1 hf2
    have hr0' : (w4.alloc (.cells #[.int .i64 0, .int .i64 0, .int .i64 0, .int .i64 0, .int .i64 c2, .int .i64 0, .int .i64 0, .int .i64 0, .int .i64 (minusZ c3 x0), .int .i64 x0, .int .i64 0, .int .i64 0, .int .i64 (minusZ 1 (plusZ x1 a43)), .int .i64 x1, .int .i64 a43, .int .i64 0] 3)).cell? ⟨w.heap.size, 0, none⟩ = some x0' := hr0
    have hr1' : (w4.alloc (.cells #[.int .i64 0, .int .i64 0, .int .i64 0, .int .i64 0, .int .i64 c2, .int .i64 0, .int .i64 0, .int .i64 0, .int .i64 (minusZ c3 x0), .int .i64 x0, .int .i64 0, .int .i64 0, .int .i64 (minusZ 1 (plusZ x1 a43)), .int .i64 x1, .int .i64 a43, .int .i64 0] 3)).cell? ⟨w.heap.size, 1, none⟩ = some x1' := hr1
    have hr2' : (w4.alloc (.cells #[.int .i64 0, .int .i64 0, .int .i64 0, .int .i64 0, .int .i64 c2, .int .i64 0, .int .i64 0, .int .i64 0, .int .i64 (minusZ c3 x0), .int .i64 x0, .int .i64 0, .int .i64 0, .int .i64 (minusZ 1 (plusZ x1 a43)), .int .i64 x1, .int .i64 a43, .int .i64 0] 3)).cell? ⟨w.heap.size, 2, none⟩ = some x2' := hr2
    have hf0' : (w4.alloc (.cells #[.int .i64 0, .int .i64 0, .int .i64 0, .int .i64 0, .int .i64 c2, .int .i64 0, .int .i64 0, .int .i64 0, .int .i64 (minusZ c3 x0), .int .i64 x0, .int .i64 0, .int .i64 0, .int .i64 (minusZ 1 (plusZ x1 a43)), .int .i64 x1, .int .i64 a43, .int .i64 0] 3)).frozen? ⟨w.heap.size, 0, none⟩ = false := hf0
    have hf1' : (w4.alloc (.cells #[.int .i64 0, .int .i64 0, .int .i64 0, .int .i64 0, .int .i64 c2, .int .i64 0, .int .i64 0, .int .i64 0, .int .i64 (minusZ c3 x0), .int .i64 x0, .int .i64 0, .int .i64 0, .int .i64 (minusZ 1 (plusZ x1 a43)), .int .i64 x1, .int .i64 a43, .int .i64 0] 3)).frozen? ⟨w.heap.size, 1, none⟩ = false := hf1
    have hf2' : (w4.alloc (.cells #[.int .i64 0, .int .i64 0, .int .i64 0, .int .i64 0, .int .i64 c2, .int .i64 0, .int .i64 0, .int .i64 0, .int .i64 (minusZ c3 x0), .int .i64 x0, .int .i64 0, .int .i64 0, .int .i64 (minusZ 1 (plusZ x1 a43)), .int .i64 x1, .int .i64 a43, .int .i64 0] 3)).frozen? ⟨w.heap.size, 2, none⟩ = false := hf2
    have HBW := Lib.hid (HB0.out.trans (hb05.mono HB0.out.size))
    have hwB := HB0.out.size
    have HTAB := Lib.hid (show ∀ W', Only [w.heap.size] W5 W' → OwnTab 3 W' (.agg #[.int .i64 4, .slice (some ⟨w4.heap.size, 0, none⟩) 16 16, .slice (some ⟨gb, 0, none⟩) 4 cb]) ⟨4, ds, [b0, b1, b2, b3]⟩ [w4.heap.size, gb] ∧ ∀ b ∈ [w4.heap.size, gb], w.heap.size ≤ b from fun W' ho => by
      have hsz := HSZ.out
      have hs4 := hb04.size
      exact ⟨⟨_, _, [w4.heap.size], [gb], rfl, ⟨by show (-9223372036854775808 : Int) ≤ 4; omega, by show (4 : Int) ≤ 9223372036854775807; omega⟩, ownI_only hoA ho (by simp; omega), ownI_only hoB ho (by simp; omega), rfl, by simp; omega⟩, by simp; omega⟩)
    have HW5 : Hid (W5 = (w4.alloc (.cells #[.int .i64 0, .int .i64 0, .int .i64 0, .int .i64 0, .int .i64 c2, .int .i64 0, .int .i64 0, .int .i64 0, .int .i64 (minusZ c3 x0), .int .i64 x0, .int .i64 0, .int .i64 0, .int .i64 (minusZ 1 (plusZ x1 a43)), .int .i64 x1, .int .i64 a43, .int .i64 0] 3)).drew) := Lib.hid hE5
    clear hox hfx hb4 hb04 hownx hgx hlxc hcxm hlx hb24 hob4 hy0 hy1 hds hW5 hb5 hb05 hdI hoA hoB hE5
    go_wp2_with (first | (go_at_call 22; ((with_reducible refine (sPlus_any _ _ _).mono ?_); rintro e w' ⟨rfl, rfl⟩)) | (go_at_call 26; ((with_reducible refine (sMinus_any _ _ _).mono ?_); rintro e w' ⟨rfl, rfl⟩)))
    go_region_held3 (fun w' => w'.cell? ⟨gx, 0, none⟩ = some (.int .i64 x0) ∧ w'.cell? ⟨gx, 1, none⟩ = some (.int .i64 x1)) (first | exact ⟨hx0, hx1'⟩ | exact ⟨cell_alloc hx0, cell_alloc hx1'⟩ | exact ⟨cell_set3 (cell_alloc hx0) hgxn, cell_set3 (cell_alloc hx1') hgxn⟩ | exact cell_set3b (cell_alloc hx0) (cell_alloc hx1') hgxn) (first | (go_at_call 26; (with_reducible refine (sMinus_any _ _ _).mono ?_); rintro e w' ⟨rfl, rfl⟩))
    go_wp2
    refine bodyPost_ret (v := .tuple #[.agg #[.int .i64 4, .slice (some ⟨w4.heap.size, 0, none⟩) 16 16, .slice (some ⟨gb, 0, none⟩) 4 cb], .bool true]) (by simp [results, Tryz.results135, go_sem, hr0, hr1, hr2, hr0', hr1', hr2']) rfl ?_
    have HF := HTAB.out
    have HG := HBW.out
    rw [HW5.out] at HF HG
    obtain ⟨t1, t2⟩ := HF _ ((((Only.refl _ _).setCell (p := ⟨w.heap.size, 0, none⟩) (by simp) (.int .i64 4)).setCell (p := ⟨w.heap.size, 1, none⟩) (by simp) (.slice (some ⟨w4.heap.size, 0, none⟩) 16 16)).setCell (p := ⟨w.heap.size, 2, none⟩) (by simp) (.slice (some ⟨gb, 0, none⟩) 4 cb))
    exact ⟨_, _, _, true, rfl, t1, t2, ((HG.setCell (p := ⟨w.heap.size, 0, none⟩) (Nat.le_refl _) (.int .i64 4)).setCell (p := ⟨w.heap.size, 1, none⟩) (Nat.le_refl _) (.slice (some ⟨w4.heap.size, 0, none⟩) 16 16)).setCell (p := ⟨w.heap.size, 2, none⟩) (Nat.le_refl _) (.slice (some ⟨gb, 0, none⟩) 4 cb)⟩
end Go.Proofs.YtbcjhpgkodeoeaaGreatDoor
