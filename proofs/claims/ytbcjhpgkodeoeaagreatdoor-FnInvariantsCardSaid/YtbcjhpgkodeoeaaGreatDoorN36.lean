/- The program's collecting of monomials. Conditions: numbers. -/
import Derived.Test.YtbcjhpgkodeoeaaGreatDoorN35
import Derived.Test.YtbcjhpgkodeoeaaGreatDoorN17
set_option linter.unusedSimpArgs false
set_option linter.unusedVariables false

namespace Go.Proofs.YtbcjhpgkodeoeaaGreatDoor
open Go.RowKit Go.Sort

-- merging
def mergeOneE (out : List ElS) (m : ElS) : List ElS :=
  match out.getLast? with
  | some l => if l.ps = m.ps then out.dropLast ++ [{ l with c := plusZ l.c m.c }] else out ++ [m]
  | none => [m]
def mergeE (L : List ElS) : List ElS := L.foldl mergeOneE []
theorem mergeOneE_nil (m : ElS) : mergeOneE [] m = [m] := rfl
theorem mergeOneE_snoc (o : List ElS) (x m : ElS) : mergeOneE (o ++ [x]) m = if x.ps = m.ps then o ++ [{ x with c := plusZ x.c m.c }] else o ++ [x] ++ [m] := by
  simp [mergeOneE]
theorem mergeE_snoc (L : List ElS) (x : ElS) : mergeE (L ++ [x]) = mergeOneE (mergeE L) x := by simp [mergeE, List.foldl_append]
theorem mergeE_induct {P : List ElS → List ElS → Prop} (h0 : P [] []) (h1 : ∀ L Z x, P L Z → P (L ++ [x]) (mergeOneE Z x)) (L : List ElS) : P L (mergeE L) := by
  have key : ∀ (n : Nat) (L : List ElS), L.length = n → P L (mergeE L) := by
    intro n
    induction n with
    | zero => intro L hL; rw [List.eq_nil_of_length_eq_zero hL]; exact h0
    | succ n ih =>
      intro L hL
      rcases snoc_cases L with rfl | ⟨L, x, rfl⟩
      · simp at hL
      · rw [mergeE_snoc]
        exact h1 L _ x (ih L (by simpa using hL))
  exact key _ L rfl
theorem mergeE_map (L : List ElS) : (mergeE L).map monS = mergeL (L.map monS) := by
  refine mergeE_induct (P := fun L Z => Z.map monS = mergeL (L.map monS)) rfl (fun L Z x h => ?_) L
  rw [List.map_append, mergeL, List.foldl_append, ← mergeL, ← h]
  rcases snoc_cases Z with rfl | ⟨Z, z, rfl⟩
  · rfl
  · rw [mergeOneE_snoc, List.map_append, List.map_singleton, List.map_singleton, List.foldl_cons, List.foldl_nil, mergeOne_snoc]
    by_cases hp : z.ps = x.ps
    · rw [if_pos hp, if_pos (by exact hp)]
      simp [monS]
    · rw [if_neg hp, if_neg (by exact hp)]
      simp [monS]
theorem mergeE_sub (L : List ElS) : ((mergeE L).flatMap ElS.f).Sublist (L.flatMap ElS.f) := by
  refine mergeE_induct (P := fun L Z => (Z.flatMap ElS.f).Sublist (L.flatMap ElS.f)) (List.Sublist.refl _) (fun L Z x h => ?_) L
  rcases snoc_cases Z with rfl | ⟨Z, z, rfl⟩
  · rw [mergeOneE_nil, List.flatMap_append]
    exact List.sublist_append_right _ _
  · rw [mergeOneE_snoc, List.flatMap_append]
    split
    · refine List.Sublist.trans ?_ (List.sublist_append_left _ _)
      simpa using h
    · rw [List.flatMap_append]
      exact h.append_right _
theorem mergeE_len (L : List ElS) : (mergeE L).length ≤ L.length := by
  refine mergeE_induct (P := fun L Z => Z.length ≤ L.length) (Nat.le_refl _) (fun L Z x h => ?_) L
  rcases snoc_cases Z with rfl | ⟨Z, z, rfl⟩
  · simp [mergeOneE_nil]
  · rw [mergeOneE_snoc]
    simp at h
    split <;> simp <;> omega
theorem mergeE_all {R : ElS → Prop} (hR : ∀ y c, R y → R { y with c := c }) (L : List ElS) (hL : ∀ y ∈ L, I64 y.c ∧ R y) : ∀ z ∈ mergeE L, I64 z.c ∧ R z := by
  refine mergeE_induct (P := fun L Z => (∀ y ∈ L, I64 y.c ∧ R y) → ∀ z ∈ Z, I64 z.c ∧ R z) (fun _ z hz => by cases hz) (fun L Z x h hx => ?_) L hL
  have h1 := h (fun y hy => hx y (by simp [hy]))
  have h2 := hx x (by simp)
  rcases snoc_cases Z with rfl | ⟨Z, z, rfl⟩
  · intro y hy
    simp [mergeOneE_nil] at hy
    rw [hy]; exact h2
  · rw [mergeOneE_snoc]
    intro y hy
    split at hy
    · simp at hy
      rcases hy with hy | rfl
      · exact h1 y (by simp [hy])
      · exact ⟨i64_of_bd (plusZ_bd _ _), hR _ _ (h1 z (by simp)).2⟩
    · simp at hy
      rcases hy with hy | rfl | rfl
      · exact h1 y (by simp [hy])
      · exact h1 y (by simp)
      · exact h2
set_option maxHeartbeats 400000 in
theorem sortStable_any (g n cap : Nat) (X : List ElS) (w0 w : World) (h : SSt 56 g n cap w0 w X) (hn : n ≤ 1048576) (HX : ReadS g w0 X) :
    Calls Tryz.prog 108 #[.slice (some ⟨g, 0, none⟩) n cap, .func (.func 109) #[] #[]] w (Sorted1 56 g n cap w0 [] X []) := by
  have ST := Lib.hid (stable_any g n cap X w0 w h hn HX)
  clear h HX
  go_enter Tryz.func108, Tryz.ntmps108
  go_wp2_with fail
  refine ST.out.mono ?_
  rintro e w1 ⟨rfl, hS⟩
  have HH := Lib.hid hS
  clear hS
  go_wp2
  go_end0
  exact ⟨rfl, HH.out⟩
/-- What collecting leaves: the monomials put together, in blocks of the argument's or new ones. -/
def Collected (p : List MonZ) (fp : List Nat) (w : World) : Ending → World → Prop := fun e w' =>
  ∃ v fp', e = .returned v ∧ OwnMs 56 3 w' v (putAll [] p) fp' ∧ (∀ b ∈ fp', b ∈ fp ∨ w.heap.size ≤ b) ∧ Only fp w w'

/-- The loop of collecting: what has been merged so far lies in a row of its own. -/
structure CInv (w1 : World) (Y : List ElS) (k : Nat) (v : Value) (Z : List ElS) (zl : Nat) (wr : World) : Prop where
  eq : Z = mergeE (Y.take k)
  len : Z.length = zl
  shape : ∃ g2 cap2, v = .slice (some ⟨g2, 0, none⟩) zl cap2 ∧ w1.heap.size ≤ g2
  row : wr.ownsRow 0 56 2 v zl (rowS Z)
  below : Below w1.heap.size w1 wr
theorem CInv.push {w1 wr wa wb : World} {Y Z : List ElS} {k zl g2 gg cap2 capn : Nat} {x : ElS} (h : CInv w1 Y k (.slice (some ⟨g2, 0, none⟩) zl cap2) Z zl wr) (hx : Y[k]? = some x) (hm : mergeOneE Z x = Z ++ [x]) (hb : Below wr.heap.size wr wa)
    (hown : wb.ownsRow 0 56 2 (.slice (some ⟨gg, 0, none⟩) (zl + 1) capn) (zl + 1) (rowS Z ++ [.int .i64 x.c, x.v])) (hgrow : wa.grownBy wb (some g2)) (hat : g2 = gg ∨ wr.heap.size ≤ gg) :
    CInv w1 Y (k + 1) (.slice (some ⟨gg, 0, none⟩) (zl + 1) capn) (Z ++ [x]) (zl + 1) wb := by
  obtain ⟨g2', cap2', hv, hg2⟩ := h.shape
  simp only [Value.slice.injEq, Option.some.injEq, Addr.mk.injEq, and_true, true_and] at hv
  obtain ⟨rfl, rfl⟩ := hv
  have hs := h.below.size
  have hs2 := hb.size
  refine ⟨by rw [take_snoc hx, mergeE_snoc, ← h.eq, hm], by rw [List.length_append, h.len]; rfl, ⟨gg, capn, rfl, ?_⟩, ?_, (h.below.trans (hb.mono h.below.size)).grown hgrow (by omega) (fun b hb' => by simp at hb'; omega)⟩
  · rcases hat with rfl | hat
    · exact hg2
    · omega
  · rw [rowS_append]
    simpa [rowS, encS] using hown
theorem CInv.put {w1 wr wa : World} {Y Z0 : List ElS} {k zl g2 cap2 : Nat} {x z : ElS} (h : CInv w1 Y k (.slice (some ⟨g2, 0, none⟩) zl cap2) (Z0 ++ [z]) zl wr) (hx : Y[k]? = some x) (hp : z.ps = x.ps) (hb : Below wr.heap.size wr wa) (j : Nat) (hj : Z0.length = j) :
    CInv w1 Y (k + 1) (.slice (some ⟨g2, 0, none⟩) zl cap2) (Z0 ++ [{ z with c := plusZ z.c x.c }]) zl (wa.setCell ⟨g2, j * 2, none⟩ (.int .i64 (plusZ z.c x.c))) := by
  obtain ⟨g2', cap2', hv, hg2⟩ := h.shape
  simp only [Value.slice.injEq, Option.some.injEq, Addr.mk.injEq, and_true, true_and] at hv
  obtain ⟨rfl, rfl⟩ := hv
  have hr := ownsRow_only h.row (Only.of_below (fp := []) hb) (by simp)
  have hst := (hr.stored (j * 2) (.int .i64 (plusZ z.c x.c))).1
  refine ⟨by rw [take_snoc hx, mergeE_snoc, ← h.eq, mergeOneE_snoc, if_pos hp], by have := h.len; simpa using this, ⟨g2, cap2, rfl, hg2⟩, ?_, (h.below.trans (hb.mono h.below.size)).setCell (by exact hg2) _⟩
  have e1 : (rowS (Z0 ++ [z])).set (j * 2) (.int .i64 (plusZ z.c x.c)) = rowS (Z0 ++ [{ z with c := plusZ z.c x.c }]) := by
    rw [rowS_append, rowS_append, List.set_append_right _ _ (by rw [rowS_length, hj]; exact Nat.le_refl _), rowS_length, hj, Nat.sub_self]
    simp [rowS, encS]
  rw [e1] at hst
  exact hst
theorem CInv.cells {w1 wr : World} {Y Z0 : List ElS} {k zl g2 cap2 : Nat} {z : ElS} (h : CInv w1 Y k (.slice (some ⟨g2, 0, none⟩) zl cap2) (Z0 ++ [z]) zl wr) (j : Nat) (hj : Z0.length = j) :
    wr.cell? ⟨g2, j * 2, none⟩ = some (.int .i64 z.c) ∧ wr.cell? ⟨g2, j * 2 + 1, none⟩ = some z.v ∧ wr.frozen? ⟨g2, j * 2, none⟩ = false := by
  obtain ⟨h1, h2⟩ := rowS_at (X := Z0 ++ [z]) (k := j) (x := z) (at_mid hj)
  have hl : zl = j + 1 := by rw [← h.len]; simp [hj]
  refine ⟨?_, ?_, h.row.frozenAt _⟩
  · rw [h.row.cellAt _ (by omega), h1]
  · rw [h.row.cellAt _ (by omega), h2]

set_option maxRecDepth 100000 in
set_option maxHeartbeats 3200000 in
theorem collect_any (g n cap : Nat) (p : List MonZ) (fp : List Nat) (w : World) (h : OwnMs 56 3 w (.slice (some ⟨g, 0, none⟩) n cap) p fp) (hn : n ≤ 1048576) (hnum : NumsM p) :
    Calls Tryz.prog 49 #[.slice (some ⟨g, 0, none⟩) n cap] w (Collected p fp w) := by
  obtain ⟨us, fs, hown, hone, hels, rfl, hnd⟩ := h
  obtain ⟨X, hXp, hXr, rfl, hXo⟩ := ownEls_S hels
  have hpl : p.length = n := by
    obtain ⟨ad', cap', he, _, _, _⟩ := row_open hown
    injection he with e1 e2 e3
    exact e2.symm
  rw [hpl, ← hXr] at hown
  have hgb : (Value.slice (some ⟨g, 0, none⟩) n cap).ownBlock.toList = [g] := by simp [Value.ownBlock]
  rw [hgb] at hnd ⊢
  have hgX : ∀ x ∈ X, g ∉ x.f := fun x hx hm => (List.nodup_cons.1 (show (g :: X.flatMap ElS.f).Nodup from hnd)).1 (by rw [List.mem_flatMap]; exact ⟨x, hx, hm⟩)
  have HX : ReadS g w X := fun x hx w' ho => ownI_rd (ownI_only (hXo x hx).2 ho (fun b hb hm => hgX x hx (List.mem_singleton.1 hm ▸ hb)))
  have SS := Lib.hid (sortStable_any g n cap X w w ⟨Only.refl _ _, hown⟩ hn HX)
  have HGX := Lib.hid hgX
  have HXO := Lib.hid hXo
  have HND := Lib.hid hnd
  have HXP := Lib.hid hXp
  have HNUM := Lib.hid hnum
  obtain ⟨i0, hi, hz0, hz1, hz2⟩ := info_parts Tryz.info_mon
  clear hown hone hels hXr hXo hpl hgb hnd hgX HX hXp hnum
  go_enter Tryz.func49, Tryz.ntmps49
  go_wp2_with fail
  refine SS.out.mono ?_
  rintro e w1 ⟨rfl, Y, hYX, hYs, hs1⟩
  have hYo : ∀ y ∈ Y, I64 y.c ∧ OwnI 3 w1 y.v y.ps y.f := fun y hy => by
    have hy' := hYX.mem_iff.1 hy
    exact ⟨(HXO.out y hy').1, ownI_only (HXO.out y hy').2 hs1.only (fun b hb hm => HGX.out y hy' (List.mem_singleton.1 hm ▸ hb))⟩
  have hs1' : SSt 56 g n cap w w1 Y := by simpa using hs1
  have HYL := Lib.hid hs1'.len
  have HS1 := Lib.hid hs1'
  have HYX := Lib.hid hYX
  have HYS := Lib.hid hYs
  have HYO := Lib.hid hYo
  have HC0 := Lib.hid (show CInv w1 Y 0 (.slice (some ⟨w1.heap.size, 0, none⟩) 0 0) [] 0 (w1.alloc (.cells #[] 56)) from ⟨rfl, rfl, ⟨w1.heap.size, 0, rfl, Nat.le_refl _⟩, by simpa [rowS] using World.ownsRow_lit (base := 0) (e := 56) (size := 2) w1 #[] 0 (Nat.zero_le _) (Nat.zero_le _) rfl, (Below.refl _ _).alloc (Nat.le_refl _) _⟩)
  clear hYX hYs hs1 hs1' hYo SS
  go_wp2
  go_loopw [3, 12] (fun su si wr => ∃ (k : Nat) (Z : List ElS) (zl : Nat), si = .int .i64 k ∧ k ≤ n ∧ CInv w1 Y k su Z zl wr) (fun _ si _ => n - (intOf si).toNat)
  case atStart => exact ⟨0, [], 0, rfl, Nat.zero_le _, HC0.out⟩
  case round =>
    obtain ⟨wk, rfl⟩ : ∃ W, W = wr := ⟨_, rfl⟩
    clear HC0
    obtain ⟨k, Z, zl, rfl, hkn, hC⟩ := hrel
    obtain ⟨g2, cap2, rfl, hg2⟩ := hC.shape
    have HC := Lib.hid hC
    by_cases hlt : k < n
    case neg =>
      obtain rfl : k = n := by omega
      have hrow := hC.row
      have hzl : zl ≤ k := by
        have := mergeE_len (Y.take k)
        rw [← hC.eq, hC.len, List.length_take] at this
        omega
      obtain ⟨adz, capz, hvz, hzc, hzm, _⟩ := row_open hrow
      injection hvz with e1 e2 e3
      subst e1 e3
      have hYk : Y.take k = Y := List.take_of_length_le (by rw [HYL.out]; exact Nat.le_refl _)
      have hZ : Z = mergeE Y := by rw [hC.eq, hYk]
      have DL := Lib.hid (delete_any g2 zl cap2 Z wk ⟨Only.refl _ _, hrow⟩ (by omega) hzc hzm)
      have hfin : ∀ (e : Ending) (w2 : World), Struck 56 g2 cap2 wk Z e w2 → Collected p ([g] ++ X.flatMap ElS.f) w e w2 := by
        intro e w2 ⟨he, ho2, hr2⟩
        have hbw1 := HS1.out.only
        have hbk := hC.below
        have hzo : ∀ z ∈ mergeE Y, I64 z.c ∧ OwnI 3 w1 z.v z.ps z.f := mergeE_all (R := fun z => OwnI 3 w1 z.v z.ps z.f) (fun _ _ h => h) Y HYO.out
        have hg2f : ∀ z ∈ Z, g2 ∉ z.f := fun z hz hm => by
          rw [hZ] at hz
          have := ownI_lt (hzo z hz).2 g2 hm
          omega
        have hko : ∀ z ∈ keepE Z, I64 z.c ∧ OwnI 3 w2 z.v z.ps z.f := fun z hz => by
          have hz' : z ∈ Z := (List.mem_filter.1 hz).1
          have h1 := hzo z (hZ ▸ hz')
          exact ⟨h1.1, ownI_only (ownI_only h1.2 (Only.of_below (fp := []) hbk) (by simp)) ho2 (fun b hb hm => hg2f z hz' (List.mem_singleton.1 hm ▸ hb))⟩
        have hsub : ((keepE Z).flatMap ElS.f).Sublist (Y.flatMap ElS.f) := (keepE_sub Z).trans (by rw [hZ]; exact mergeE_sub Y)
        have hYf : (Y.flatMap ElS.f).Perm (X.flatMap ElS.f) := HYX.out.flatMap_right _
        have hmemX : ∀ b ∈ (keepE Z).flatMap ElS.f, b ∈ X.flatMap ElS.f := fun b hb => hYf.mem_iff.1 (hsub.subset hb)
        have hndk : ([g2] ++ (keepE Z).flatMap ElS.f).Nodup := by
          rw [List.singleton_append, List.nodup_cons]
          refine ⟨fun hm => ?_, (hYf.nodup_iff.2 (List.nodup_append.1 HND.out).2.1).sublist hsub⟩
          obtain ⟨z, hz, hm⟩ := List.mem_flatMap.1 hm
          exact hg2f z (List.mem_filter.1 hz).1 hm
        have hms := s_ownMs (e := 3) hr2 hko (by simpa [Value.ownBlock] using hndk)
        have hval : (keepE Z).map monS = putAll [] p := by
          rw [keepE_map, hZ, mergeE_map, ← HXP.out, ← collL_put (HYX.out.symm.map monS) (List.pairwise_map.2 (by exact HYS.out)) (by rw [HXP.out]; exact HNUM.out)]
          rfl
        rw [hval] at hms
        refine ⟨_, _, he, hms, fun b hb => ?_, ?_⟩
        · simp only [Value.ownBlock, Option.toList, List.singleton_append, List.mem_cons] at hb
          rcases hb with rfl | hb
          · right; have := hbw1.size; omega
          · left; rw [List.mem_append]; right; exact hmemX b hb
        · refine fresh_only (g' := g2) (((hbw1.mono (fun b hb => by simp at hb; simp [hb])).trans (Only.of_below hbk)).trans (ho2.mono (fun b hb => by simp at hb; simp [hb]))) (by have := hbw1.size; omega)
      have HF := Lib.hid hfin
      clear hC hrow hzl hzc hzm hYk hZ hfin
      go_wp2_with fail
      refine DL.out.mono ?_
      intro e w2 hst
      have hst' := HF.out e w2 hst
      obtain ⟨v, fp', rfl, h1, h2, h3⟩ := hst'
      have H1 := Lib.hid h1
      have H2 := Lib.hid h2
      obtain ⟨adv, lv, cv, rfl⟩ := ownMs_open h1
      clear h1 h2 hst
      go_wp2
      go_ret
      exact ⟨_, fp', rfl, H1.out, H2.out, h3⟩
    obtain ⟨x, hx⟩ : ∃ x, Y[k]? = some x := ⟨_, List.getElem?_eq_getElem (by rw [HYL.out]; exact hlt)⟩
    have hsk := HS1.out.below hC.below
    obtain ⟨hc0, hc1, _, _⟩ := hsk.cells hx
    have hbl := hC.below
    have hrx : ∀ W, Below wk.heap.size wk W → RdI W x.v x.ps := fun W hb => ownI_rd (ownI_only (HYO.out x (List.mem_of_getElem? hx)).2 (Only.of_below (fp := []) (hbl.trans (hb.mono hbl.size))) (by simp))
    have hzl : zl ≤ k := by
      have := mergeE_len (Y.take k)
      rw [← hC.eq, hC.len, List.length_take] at this
      omega
    have hbx : Below wk.heap.size wk (wk.alloc (.cells #[.int .i64 x.c, x.v] 56)) := (Below.refl _ _).alloc (Nat.le_refl _) _
    have hzz : ∀ z ∈ mergeE Y, I64 z.c ∧ OwnI 3 w1 z.v z.ps z.f := mergeE_all (R := fun z => OwnI 3 w1 z.v z.ps z.f) (fun _ _ h => h) Y HYO.out
    have hzt : ∀ z ∈ Z, ∀ W, Below wk.heap.size wk W → RdI W z.v z.ps := fun z hz W hb => by
      have h1 : ∀ z ∈ mergeE (Y.take k), I64 z.c ∧ OwnI 3 w1 z.v z.ps z.f := mergeE_all (R := fun z => OwnI 3 w1 z.v z.ps z.f) (fun _ _ h => h) _ (fun y hy => HYO.out y (List.mem_of_mem_take hy))
      exact ownI_rd (ownI_only (h1 z (hC.eq ▸ hz)).2 (Only.of_below (fp := []) (hbl.trans (hb.mono hbl.size))) (by simp))
    have HRX := Lib.hid hrx
    have HZT := Lib.hid hzt
    have HX := Lib.hid hx
    have HBX := Lib.hid hbx
    have HBL := Lib.hid hbl
    have HZL := Lib.hid hC.len
    have hrow := hC.row
    obtain ⟨adz, capz, hvz, hzc, hzm, _⟩ := row_open hrow
    injection hvz with e1 e2 e3
    subst e1 e3
    have HCC := Lib.hid (fun (Z0 : List ElS) (z : ElS) (he : Z = Z0 ++ [z]) (j : Nat) (hj : Z0.length = j) (W : World) (hb : Below wk.heap.size wk W) => (show W.cell? ⟨g2, j * 2, none⟩ = some (.int .i64 z.c) ∧ W.cell? ⟨g2, j * 2 + 1, none⟩ = some z.v ∧ W.frozen? ⟨g2, j * 2, none⟩ = false from by
      subst he
      obtain ⟨h1, h2, h3⟩ := hC.cells j hj
      exact ⟨cell_below hb h1, cell_below hb h2, (hb.frozen (p := ⟨g2, j * 2, none⟩) (World.block_lt_of_cell? _ _ h1)).trans h3⟩))
    clear hC hx hsk hbl hrx hzz hzt hrow
    by_cases hz0' : zl < 1
    · have HMG := Lib.hid (show mergeOneE Z x = Z ++ [x] from by
        have h0 : Z = [] := List.eq_nil_of_length_eq_zero (by have := HZL.out; omega)
        rw [h0]; rfl)
      have hd1 : decide ((0 : Int) ≤ (zl : Int) - 1) = false := by simp; omega
      have hd2 : decide ((1 : Int) ≤ (zl : Int)) = false := by simp; omega
      clear hbx
      go_wp2
      go_quiet (fail)
      obtain ⟨wq, hwq⟩ : ∃ W, W = (wk.alloc (.cells #[.int .i64 x.c, x.v] 56)).drewN nq := ⟨_, rfl⟩
      have HQ := Lib.hid (show Below wk.heap.size wk wq from by rw [hwq]; exact blw_drewN HBX.out _)
      have hb0 : wq.cell? ⟨wk.heap.size, 0, none⟩ = some (.int .i64 x.c) := by rw [hwq]; simp
      have hb1 : wq.cell? ⟨wk.heap.size, 1, none⟩ = some x.v := by rw [hwq]; simp
      rw [← hwq]
      clear hwq hc0 hc1
      have HROWQ := Lib.hid (ownsRow_only HC.out.row (Only.of_below (fp := []) HQ.out) (by simp))
      have HPU := Lib.hid (fun (w2 : World) (gg capn : Nat) (hown1 : w2.ownsRow 0 56 2 (.slice (some ⟨gg, 0, none⟩) (zl + 1) capn) (zl + 1) (rowS Z ++ [.int .i64 x.c, x.v]))
          (hgrow : (wq.alloc (.cells #[.int .i64 x.c, x.v] 56)).grownBy w2 (some g2)) (hat : some g2 = some gg ∨ gg = wq.heap.size + 1) =>
        HC.out.push HX.out HMG.out (HQ.out.trans (((Below.refl _ _).alloc (Nat.le_refl _) _).mono HQ.out.size)) hown1 hgrow (hat.elim (fun h => .inl (Option.some.inj h)) (fun h => .inr (by have := HQ.out.size; omega))))
      go_wp2_with (first | (at_builtin; refine wpList_append_lies _ rfl _ _ _ rfl 0 56 i0 _ 2 32 Tryz.underlying24 hi hz0 hz1 hz2 rfl (by omega) (.slice (some ⟨g2, 0, none⟩) zl cap2) zl (rowS Z) (by rfl) (HROWQ.out.alloc _) ⟨wq.heap.size, 0, none⟩ 1 1 [.int .i64 x.c, x.v] (by rfl) (by rfl) (World.news_of_block (cs := #[.int .i64 x.c, x.v]) (t := 56) (fr := (0, 0)) (heap_alloc_new _ _)) (by simp [Value.oneCell']) (by omega) (by unfold maxLen; omega) (by omega) (by simp) (wq.heap.size + 1) (by simp) ?_; intro gg capn w2 hown1 hgrow hat hlt1; have HN := Lib.hid (HPU.out w2 gg capn hown1 hgrow hat)))
      go_roundw
      case rel => exact ⟨k + 1, Z ++ [x], zl + 1, by go_num, by omega, HN.out⟩
      case measure => (simp [intOf]; try omega)
    · obtain ⟨Z0, z, hZ⟩ : ∃ Z0 z, Z = Z0 ++ [z] := by
        rcases snoc_cases Z with h | h
        · exfalso; have := HZL.out; rw [h] at this; simp at this; omega
        · exact h
      have hj : Z0.length = zl - 1 := by have := HZL.out; rw [hZ] at this; simp at this; omega
      have hd1 : decide ((0 : Int) ≤ (zl : Int) - 1) = true := by simp; omega
      have hd2 : decide ((1 : Int) ≤ (zl : Int)) = true := by simp; omega
      have q1 : (0 : Int) ≤ (zl : Int) - 1 := by omega
      have q2 : (1 : Int) ≤ (zl : Int) := by omega
      have q3 : (zl : Int) - 1 < zl := by omega
      have q4 : ((zl : Int) - 1).toNat = zl - 1 := by omega
      have HCZ := Lib.hid (HCC.out Z0 z hZ (zl - 1) hj)
      obtain ⟨g5, g6, _⟩ := HCZ.out _ HBX.out
      have HEQ := Lib.hid (fun (c : Bool) (hc : decide (z.ps = x.ps) = c) (N : Nat) => equal_eq z.v x.v z.ps x.ps ((wk.alloc (.cells #[.int .i64 x.c, x.v] 56)).drewN N) (HZT.out z (by rw [hZ]; simp) _ (blw_drewN HBX.out _)) (HRX.out _ (blw_drewN HBX.out _)) hc)
      have HZ := Lib.hid hZ
      have HJ := Lib.hid hj
      clear hbx hZ hj
      by_cases hp : z.ps = x.ps
      · have EQ := Lib.hid (HEQ.out true (by simpa using hp))
        have HP := Lib.hid hp
        clear hp
        go_wp2
        go_quiet ((go_at_call 110; exact quiet_qt (EQ.out _)))
        obtain ⟨wq, hwq⟩ : ∃ W, W = (wk.alloc (.cells #[.int .i64 x.c, x.v] 56)).drewN nq := ⟨_, rfl⟩
        have HQ := Lib.hid (show Below wk.heap.size wk wq from by rw [hwq]; exact blw_drewN HBX.out _)
        have hb0 : wq.cell? ⟨wk.heap.size, 0, none⟩ = some (.int .i64 x.c) := by rw [hwq]; simp
        have hb1 : wq.cell? ⟨wk.heap.size, 1, none⟩ = some x.v := by rw [hwq]; simp
        obtain ⟨g7, g8, g9⟩ := HCZ.out wq HQ.out
        rw [← hwq]
        have HPU := Lib.hid ((show CInv w1 Y k (.slice (some ⟨g2, 0, none⟩) zl cap2) (Z0 ++ [z]) zl wk from by have := HC.out; rwa [HZ.out] at this).put HX.out HP.out (HQ.out.drew) (zl - 1) HJ.out)
        clear hwq hc0 hc1 g5 g6
        go_wp2
        (refine wp_region_still_tail 12 (by kernel_rfl) (by kernel_rfl) ?_; simp only [List.take_succ_cons, List.take_zero, List.drop_succ_cons, List.drop_zero]; (repeat (first | still_step | still_call (still_of (plus_any _ _ _)))); refine wpStill_nil ?_; change wpList _ _ _ _ _ (World.drew _))
        go_wp2
        go_roundw
        case rel => exact ⟨k + 1, _, zl, by go_num, by omega, HPU.out⟩
        case measure => (simp [intOf]; try omega)
      · have EQ := Lib.hid (HEQ.out false (by simpa using hp))
        have HMG := Lib.hid (show mergeOneE Z x = Z ++ [x] from by rw [HZ.out, mergeOneE_snoc, if_neg hp])
        clear hp
        go_wp2
        go_quiet ((go_at_call 110; exact quiet_qt (EQ.out _)))
        obtain ⟨wq, hwq⟩ : ∃ W, W = (wk.alloc (.cells #[.int .i64 x.c, x.v] 56)).drewN nq := ⟨_, rfl⟩
        have HQ := Lib.hid (show Below wk.heap.size wk wq from by rw [hwq]; exact blw_drewN HBX.out _)
        have hb0 : wq.cell? ⟨wk.heap.size, 0, none⟩ = some (.int .i64 x.c) := by rw [hwq]; simp
        have hb1 : wq.cell? ⟨wk.heap.size, 1, none⟩ = some x.v := by rw [hwq]; simp
        rw [← hwq]
        clear hwq hc0 hc1 g5 g6
        have HROWQ := Lib.hid (ownsRow_only HC.out.row (Only.of_below (fp := []) HQ.out) (by simp))
        have HPU := Lib.hid (fun (w2 : World) (gg capn : Nat) (hown1 : w2.ownsRow 0 56 2 (.slice (some ⟨gg, 0, none⟩) (zl + 1) capn) (zl + 1) (rowS Z ++ [.int .i64 x.c, x.v]))
            (hgrow : (wq.alloc (.cells #[.int .i64 x.c, x.v] 56)).grownBy w2 (some g2)) (hat : some g2 = some gg ∨ gg = wq.heap.size + 1) =>
          HC.out.push HX.out HMG.out (HQ.out.trans (((Below.refl _ _).alloc (Nat.le_refl _) _).mono HQ.out.size)) hown1 hgrow (hat.elim (fun h => .inl (Option.some.inj h)) (fun h => .inr (by have := HQ.out.size; omega))))
        go_wp2_with (first | (at_builtin; refine wpList_append_lies _ rfl _ _ _ rfl 0 56 i0 _ 2 32 Tryz.underlying24 hi hz0 hz1 hz2 rfl (by omega) (.slice (some ⟨g2, 0, none⟩) zl cap2) zl (rowS Z) (by rfl) (HROWQ.out.alloc _) ⟨wq.heap.size, 0, none⟩ 1 1 [.int .i64 x.c, x.v] (by rfl) (by rfl) (World.news_of_block (cs := #[.int .i64 x.c, x.v]) (t := 56) (fr := (0, 0)) (heap_alloc_new _ _)) (by simp [Value.oneCell']) (by omega) (by unfold maxLen; omega) (by omega) (by simp) (wq.heap.size + 1) (by simp) ?_; intro gg capn w2 hown1 hgrow hat hlt1; have HN := Lib.hid (HPU.out w2 gg capn hown1 hgrow hat)))
        go_roundw
        case rel => exact ⟨k + 1, Z ++ [x], zl + 1, by go_num, by omega, HN.out⟩
        case measure => (simp [intOf]; try omega)
end Go.Proofs.YtbcjhpgkodeoeaaGreatDoor
