/- The reference puts a monomial into a polynomial. Conditions: numbers. -/
import Derived.Deep.RegionLaw
import Derived.Deep.AppendLies
import Derived.Deep.Cut
import Derived.Deep.CutRange
import Derived.Test.YtbcjhpgkodeoeaaGreatDoorN08
set_option linter.unusedSimpArgs false
set_option linter.unusedVariables false

namespace Go.Proofs.YtbcjhpgkodeoeaaGreatDoor
open Go.RowKit Go.Sort

def putAE (x : ElS) : List ElS → Int → Bool → List ElS
  | [], c, placed => if placed = true then [] else [{ x with c := c }]
  | z :: Z, c, placed =>
    if z.ps = x.ps then putAE x Z (plusZ c z.c) placed
    else if placed = false ∧ ltL z.ps x.ps = true then { x with c := c } :: z :: putAE x Z c true
    else z :: putAE x Z c placed
def putE (Z : List ElS) (x : ElS) : List ElS := keepE (putAE x Z x.c false)
theorem putAE_map (x : ElS) : ∀ (Z : List ElS) (c : Int) (b : Bool), (putAE x Z c b).map monS = putA x.ps (Z.map monS) c b
  | [], c, b => by
    rw [putAE, List.map_nil, putA]
    split <;> simp [monS]
  | z :: Z, c, b => by
    rw [putAE, List.map_cons, putA]
    by_cases h1 : z.ps = x.ps
    · rw [if_pos h1, if_pos (show (monS z).pows = x.ps from h1), putAE_map x Z]
      rfl
    · rw [if_neg h1, if_neg (show ¬ (monS z).pows = x.ps from h1)]
      by_cases h2 : b = false ∧ ltL z.ps x.ps = true
      · rw [if_pos h2, if_pos (show b = false ∧ ltL (monS z).pows x.ps = true from h2), List.map_cons, List.map_cons, putAE_map x Z]
        rfl
      · rw [if_neg h2, if_neg (show ¬ (b = false ∧ ltL (monS z).pows x.ps = true) from h2), List.map_cons, putAE_map x Z]
theorem putE_map (Z : List ElS) (x : ElS) : (putE Z x).map monS = putL (Z.map monS) (monS x) := by
  rw [putE, keepE_map, putAE_map]
  rfl
theorem putAE_len2 (x : ElS) : ∀ (Z : List ElS) (c : Int), (putAE x Z c true).length ≤ Z.length
  | [], c => by simp [putAE]
  | z :: Z, c => by
    rw [putAE]
    split
    · have := putAE_len2 x Z (plusZ c z.c)
      simp; omega
    · rw [if_neg (by simp)]
      have := putAE_len2 x Z c
      simp; omega
theorem putAE_len (x : ElS) : ∀ (Z : List ElS) (c : Int) (b : Bool), (putAE x Z c b).length ≤ Z.length + 1
  | [], c, b => by rw [putAE]; split <;> simp
  | z :: Z, c, b => by
    rw [putAE]
    split
    · have := putAE_len x Z (plusZ c z.c) b
      simp; omega
    · split
      · have h := putAE_len2 x Z c
        simp; omega
      · have := putAE_len x Z c b
        simp; omega
/-- Each element is one of the list, or the new one with some number. -/
theorem putAE_mem (x : ElS) : ∀ (Z : List ElS) (c : Int) (b : Bool) (y : ElS), I64 c → y ∈ putAE x Z c b → y ∈ Z ∨ ∃ d, I64 d ∧ y = { x with c := d }
  | [], c, b, y, hc, h => by
    rw [putAE] at h
    split at h
    · cases h
    · right; exact ⟨c, hc, by simpa using h⟩
  | z :: Z, c, b, y, hc, h => by
    rw [putAE] at h
    split at h
    · rcases putAE_mem x Z _ b y (i64_of_bd (plusZ_bd _ _)) h with h | h
      · left; simp [h]
      · right; exact h
    · split at h
      · rw [List.mem_cons, List.mem_cons] at h
        rcases h with h | h | h
        · right; exact ⟨c, hc, h⟩
        · left; simp [h]
        · rcases putAE_mem x Z _ true y hc h with h | h
          · left; simp [h]
          · right; exact h
      · rw [List.mem_cons] at h
        rcases h with h | h
        · left; simp [h]
        · rcases putAE_mem x Z _ b y hc h with h | h
          · left; simp [h]
          · right; exact h
/-- The blocks of what comes out: each of the list at most once, those of the new one at most once. -/
theorem putAE_sub (x : ElS) : ∀ (Z : List ElS) (c : Int) (b : Bool), ∃ S, S.Sublist (Z.flatMap ElS.f) ∧ ((putAE x Z c b).flatMap ElS.f).Perm (S ++ if b = true then [] else x.f)
  | [], c, b => ⟨[], List.Sublist.refl _, by
    rw [putAE]
    split <;> simp_all⟩
  | z :: Z, c, b => by
    rw [putAE]
    split
    · obtain ⟨S, h1, h2⟩ := putAE_sub x Z (plusZ c z.c) b
      exact ⟨S, h1.trans (by rw [List.flatMap_cons]; exact List.sublist_append_right _ _), h2⟩
    · split
      · rename_i hb
        obtain ⟨S, h1, h2⟩ := putAE_sub x Z c true
        refine ⟨z.f ++ S, by rw [List.flatMap_cons]; exact h1.append_left _, ?_⟩
        rw [hb.1, if_neg (by simp), List.flatMap_cons, List.flatMap_cons]
        rw [if_pos rfl, List.append_nil] at h2
        exact (List.Perm.append_left _ (List.Perm.append_left _ h2)).trans List.perm_append_comm
      · obtain ⟨S, h1, h2⟩ := putAE_sub x Z c b
        refine ⟨z.f ++ S, by rw [List.flatMap_cons]; exact h1.append_left _, ?_⟩
        rw [List.flatMap_cons, List.append_assoc]
        exact List.Perm.append_left _ h2
theorem putE_nodup {Z : List ElS} {x : ElS} (h : (Z.flatMap ElS.f ++ x.f).Nodup) : ((putE Z x).flatMap ElS.f).Nodup ∧ ∀ b ∈ (putE Z x).flatMap ElS.f, b ∈ Z.flatMap ElS.f ∨ b ∈ x.f := by
  obtain ⟨S, h1, h2⟩ := putAE_sub x Z x.c false
  rw [if_neg (by simp)] at h2
  have h3 : ((putAE x Z x.c false).flatMap ElS.f).Nodup := h2.nodup_iff.2 (h.sublist (h1.append_right _))
  refine ⟨h3.sublist (keepE_sub _), fun b hb => ?_⟩
  have h4 := h2.mem_iff.1 ((keepE_sub _).subset hb)
  rw [List.mem_append] at h4
  rcases h4 with h4 | h4
  · left; exact h1.subset h4
  · right; exact h4
/-- A row of the call's own, behind some block. -/
structure RowI (B : Nat) (wr : World) (v : Value) (O : List ElS) (ol : Nat) : Prop where
  len : O.length = ol
  shape : ∃ gg cap, v = .slice (some ⟨gg, 0, none⟩) ol cap ∧ B < gg
  row : wr.ownsRow 0 56 2 v ol (rowS O)
theorem RowI.push {B : Nat} {wr wa wb : World} {O : List ElS} {ol gg g2 cap capn : Nat} {y : ElS} (h : RowI B wr (.slice (some ⟨gg, 0, none⟩) ol cap) O ol) (hb : Below wr.heap.size wr wa)
    (hown : wb.ownsRow 0 56 2 (.slice (some ⟨g2, 0, none⟩) (ol + 1) capn) (ol + 1) (rowS O ++ [.int .i64 y.c, y.v])) (hgrow : wa.grownBy wb (some gg)) (hat : gg = g2 ∨ wr.heap.size ≤ g2) :
    RowI B wb (.slice (some ⟨g2, 0, none⟩) (ol + 1) capn) (O ++ [y]) (ol + 1) ∧ Only [gg] wr wb := by
  obtain ⟨g', cap', hv, hg⟩ := h.shape
  simp only [Value.slice.injEq, Option.some.injEq, Addr.mk.injEq, and_true, true_and] at hv
  obtain ⟨rfl, rfl⟩ := hv
  have hgl := (h.row.lt gg (by simp [Value.ownBlock])).2
  refine ⟨⟨by rw [List.length_append, h.len]; rfl, ⟨g2, capn, rfl, ?_⟩, ?_⟩, (Only.of_below hb).trans ⟨hgrow.os, hgrow.tape, hgrow.output, hgrow.size, fun k hk hn => hgrow.block k hk (fun e => hn (by simp at e; simp [e]))⟩⟩
  · rcases hat with rfl | hat
    · exact hg
    · omega
  · rw [rowS_append]
    simpa [rowS, encS] using hown
theorem RowI.below {B : Nat} {wr wq : World} {v : Value} {O : List ElS} {ol : Nat} (h : RowI B wr v O ol) (hb : Below wr.heap.size wr wq) : RowI B wq v O ol :=
  ⟨h.len, h.shape, ownsRow_only h.row (Only.of_below (fp := []) hb) (by simp)⟩
theorem RowI.only {B : Nat} {wr wq : World} {gg ol cap : Nat} {O : List ElS} {fp : List Nat} (h : RowI B wr (.slice (some ⟨gg, 0, none⟩) ol cap) O ol) (hb : Only fp wr wq) (hn : gg ∉ fp) : RowI B wq (.slice (some ⟨gg, 0, none⟩) ol cap) O ol :=
  ⟨h.len, h.shape, ownsRow_only h.row hb (fun b hb' => by simp [Value.ownBlock] at hb'; subst hb'; exact hn)⟩

/-- What putting leaves. -/
def PutPost (w : World) (Z : List ElS) (x : ElS) : Ending → World → Prop := fun e w' =>
  ∃ gg cap, e = .returned (.slice (some ⟨gg, 0, none⟩) (putE Z x).length cap) ∧ w.heap.size ≤ gg ∧ w'.ownsRow 0 56 2 (.slice (some ⟨gg, 0, none⟩) (putE Z x).length cap) (putE Z x).length (rowS (putE Z x)) ∧ Below w.heap.size w w'

theorem frz_only {w w' : World} {fp : List Nat} {b i : Nat} (hb : Only fp w w') (hn : b ∉ fp) (hl : b < w.heap.size) : w'.frozen? ⟨b, i, none⟩ = w.frozen? ⟨b, i, none⟩ :=
  World.frozen?_of_block (hb.block b hl hn)
/-- The first loop: what has been laid out, and what is still to come. -/
structure PInv (w : World) (x : ElS) (Z : List ElS) (i : Nat) (v : Value) (placed : Bool) (c : Int) (O : List ElS) (ol : Nat) (wr : World) : Prop where
  eq : O ++ putAE x (Z.drop i) c placed = putAE x Z x.c false
  le : ol ≤ i + placed.toNat
  row : RowI w.heap.size wr v O ol
  c0 : wr.cell? ⟨w.heap.size, 0, none⟩ = some (.int .i64 c)
  c1 : wr.cell? ⟨w.heap.size, 1, none⟩ = some x.v
  f0 : wr.frozen? ⟨w.heap.size, 0, none⟩ = false
  below : Below w.heap.size w wr

theorem PInv.step {w wk wq w2 : World} {x : ElS} {Z O O' : List ElS} {i ol ol' : Nat} {v v' : Value} {placed placed' : Bool} {c : Int} {fp : List Nat} (h : PInv w x Z i v placed c O ol wk) (hq : Below wk.heap.size wk wq) (ho : Only fp wq w2) (hfp : ∀ b ∈ fp, w.heap.size < b)
    (hr : RowI w.heap.size w2 v' O' ol') (heq : O' ++ putAE x (Z.drop (i + 1)) c placed' = putAE x Z x.c false) (hle : ol' ≤ i + 1 + placed'.toNat) : PInv w x Z (i + 1) v' placed' c O' ol' w2 := by
  have hn : w.heap.size ∉ fp := fun hm => by have := hfp _ hm; omega
  have hl := World.block_lt_of_cell? _ _ h.c0
  have hs := hq.size
  have hbs := h.below.size
  refine ⟨heq, hle, hr, cell_only ho hn (cell_below hq h.c0), cell_only ho hn (cell_below hq h.c1), ?_, (h.below.trans (hq.mono h.below.size)).trans (ho.below (by omega) (fun b hb => by have := hfp b hb; omega))⟩
  have hl' : w.heap.size < wk.heap.size := hl
  rw [frz_only ho hn (by omega)]
  exact (hq.frozen (p := ⟨w.heap.size, 0, none⟩) hl).trans h.f0

set_option maxRecDepth 100000 in
set_option maxHeartbeats 6400000 in
theorem put_any (gp zl capp : Nat) (Z : List ElS) (x : ElS) (w : World) (hrow : w.ownsRow 0 56 2 (.slice (some ⟨gp, 0, none⟩) zl capp) zl (rowS Z)) (hZ : ∀ z ∈ Z, RdI w z.v z.ps ∧ I64 z.c) (hx : RdI w x.v x.ps) (hzl : zl ≤ 100000) :
    Calls Tryz.prog 102 #[.slice (some ⟨gp, 0, none⟩) zl capp, .agg #[.int .i64 x.c, x.v]] w (PutPost w Z x) := by
  have hZl : Z.length = zl := by have := hrow.1; rw [rowS_length] at this; omega
  obtain ⟨W1, hW1⟩ : ∃ W, W = w.alloc (.cells #[.int .i64 x.c, x.v] 56) := ⟨_, rfl⟩
  have hb1 : Below w.heap.size w W1 := hW1 ▸ (Below.refl _ _).alloc (Nat.le_refl _) _
  have hs1 : W1.heap.size = w.heap.size + 1 := by rw [hW1]; simp
  have hX0 : W1.cell? ⟨w.heap.size, 0, none⟩ = some (.int .i64 x.c) := by rw [hW1]; simp
  have hX1 : W1.cell? ⟨w.heap.size, 1, none⟩ = some x.v := by rw [hW1]; simp
  have hF0 : W1.frozen? ⟨w.heap.size, 0, none⟩ = false := by rw [hW1]; simp
  have hb2 : Below W1.heap.size W1 (W1.alloc (.cells #[] 56)) := (Below.refl _ _).alloc (Nat.le_refl _) _
  have HP0 := Lib.hid (show PInv w x Z 0 (.slice (some ⟨w.heap.size + 1, 0, none⟩) 0 0) false x.c [] 0 (W1.alloc (.cells #[] 56)) from hs1 ▸
    ⟨rfl, Nat.zero_le _, ⟨rfl, ⟨W1.heap.size, 0, rfl, by omega⟩, by simpa [rowS] using World.ownsRow_lit (base := 0) (e := 56) (size := 2) W1 #[] 0 (Nat.zero_le _) (Nat.zero_le _) rfl⟩, cell_below hb2 hX0, cell_below hb2 hX1, (hb2.frozen (p := ⟨w.heap.size, 0, none⟩) (World.block_lt_of_cell? _ _ hX0)).trans hF0, hb1.trans (hb2.mono hb1.size)⟩)
  have HW1 := Lib.hid hW1
  have HZL := Lib.hid hZl
  have HROW := Lib.hid hrow
  have HZZ := Lib.hid hZ
  have HX := Lib.hid hx
  obtain ⟨i0, hi, hz0, hz1, hz2⟩ := info_parts Tryz.info_mon
  clear hrow hZ hx hZl hb1 hs1 hX0 hX1 hF0 hb2 hW1
  go_enter Tryz.func102, Tryz.ntmps102
  go_wp2
  rw [← HW1.out]
  go_loopw [5, 6, 7] (fun su sp si wr => ∃ (i : Nat) (placed : Bool) (c : Int) (O : List ElS) (ol : Nat), si = .int .i64 i ∧ sp = .bool placed ∧ i ≤ zl ∧ PInv w x Z i su placed c O ol wr) (fun _ _ si _ => zl - (intOf si).toNat)
  case atStart => exact ⟨0, false, x.c, [], 0, rfl, rfl, Nat.zero_le _, HP0.out⟩
  case round =>
    obtain ⟨wk, rfl⟩ : ∃ W, W = wr := ⟨_, rfl⟩
    clear HP0
    obtain ⟨i, placed, c, O, ol, rfl, rfl, hi2, hP⟩ := hrel
    obtain ⟨gg, cap, rfl, hgg⟩ := hP.row.shape
    have HP := Lib.hid hP
    have hpt : placed.toNat ≤ 1 := by cases placed <;> simp
    have hc0 := hP.c0
    have hc1 := hP.c1
    have hf0 := hP.f0
    have hle := hP.le
    have HB := Lib.hid hP.below
    have HR := Lib.hid hP.row
    by_cases hlt : i < zl
    case neg =>
      obtain rfl : i = zl := by omega
      have hdz : Z.drop i = [] := List.drop_of_length_le (by rw [HZL.out]; exact Nat.le_refl _)
      have hEQ := hP.eq
      rw [hdz] at hEQ
      cases placed with
      | true =>
        have hOT : O = putAE x Z x.c false := by simpa [putAE] using hEQ
        obtain ⟨T, hTO⟩ : ∃ T, T = O := ⟨_, rfl⟩
        have hT : T = putAE x Z x.c false := by rw [hTO]; exact hOT
        have HRT := Lib.hid (show RowI w.heap.size wk (.slice (some ⟨gg, 0, none⟩) ol cap) T ol from by rw [hTO]; exact HR.out)
        have HBT := HB
        obtain ⟨wT, hwT⟩ : ∃ W, W = wk := ⟨_, rfl⟩
        obtain ⟨tl, htl0⟩ : ∃ t, t = ol := ⟨_, rfl⟩
        obtain ⟨gT, hgT0⟩ : ∃ t, t = gg := ⟨_, rfl⟩
        obtain ⟨capT, hcT0⟩ : ∃ t, t = cap := ⟨_, rfl⟩
        subst hwT htl0 hgT0 hcT0
        clear hP HP hc0 hc1 hf0 hle HR HB hdz hEQ hOT hTO
        have hT2 : putE Z x = keepE T := by rw [hT]; rfl
        have htl : tl ≤ 100001 := by
          have := putAE_len x Z x.c false
          rw [← hT, HRT.out.len, HZL.out] at this
          omega
        obtain ⟨gT', capT', hvT, hgT⟩ := HRT.out.shape
        simp only [Value.slice.injEq, Option.some.injEq, Addr.mk.injEq, and_true, true_and] at hvT
        obtain ⟨rfl, rfl⟩ := hvT
        have hgTl := (HRT.out.row.lt gT (by simp [Value.ownBlock])).2
        have hbk : Below wT.heap.size wT (wT.alloc (.cells #[] 56)) := (Below.refl _ _).alloc (Nat.le_refl _) _
        have HK0 := Lib.hid (show RowI gT (wT.alloc (.cells #[] 56)) (.slice (some ⟨wT.heap.size, 0, none⟩) 0 0) [] 0 ∧ (wT.alloc (.cells #[] 56)).ownsRow 0 56 2 (.slice (some ⟨gT, 0, none⟩) tl capT) tl (rowS T) ∧ Below w.heap.size w (wT.alloc (.cells #[] 56)) from
          ⟨⟨rfl, ⟨wT.heap.size, 0, rfl, hgTl⟩, by simpa [rowS] using World.ownsRow_lit (base := 0) (e := 56) (size := 2) wT #[] 0 (Nat.zero_le _) (Nat.zero_le _) rfl⟩, (HRT.out.below hbk).row, HBT.out.trans (hbk.mono HBT.out.size)⟩)
        have HT2 := Lib.hid hT2
        have HTL := Lib.hid HRT.out.len
        clear hT hT2 hgTl hbk
        go_wp2
        go_loopw [8, 9] (fun sk si wr => ∃ (i kl : Nat), si = .int .i64 i ∧ i ≤ tl ∧ kl ≤ i ∧ RowI gT wr sk (keepE (T.take i)) kl ∧ wr.ownsRow 0 56 2 (.slice (some ⟨gT, 0, none⟩) tl capT) tl (rowS T) ∧ Below w.heap.size w wr) (fun _ si _ => tl - (intOf si).toNat)
        case atStart => exact ⟨0, 0, rfl, Nat.zero_le _, Nat.le_refl _, HK0.out⟩
        case round =>
          obtain ⟨wy, rfl⟩ : ∃ W, W = wr := ⟨_, rfl⟩
          clear HK0
          obtain ⟨j, kl, rfl, hj, hkl, hK, hrT, hbT⟩ := hrel
          obtain ⟨gk, capk, rfl, hgk⟩ := hK.shape
          have HK := Lib.hid hK
          have HRTJ := Lib.hid hrT
          by_cases hlt2 : j < tl
          case neg =>
            obtain rfl : j = tl := by omega
            have HE := Lib.hid (show PutPost w Z x (.returned (.slice (some ⟨gk, 0, none⟩) kl capk)) wy from by
              have h1 : T.take j = T := List.take_of_length_le (by rw [HTL.out]; exact Nat.le_refl _)
              have h2 := hK.len
              have h3 := hK.row
              rw [h1, ← HT2.out] at h2 h3
              exact ⟨gk, capk, by rw [h2], by omega, by rw [h2]; exact h3, hbT⟩)
            clear hK hrT hbT
            go_wp2
            go_ret
            exact HE.out
          obtain ⟨t, ht⟩ : ∃ t, T[j]? = some t := ⟨_, List.getElem?_eq_getElem (by rw [HTL.out]; exact hlt2)⟩
          obtain ⟨hr0, hr1⟩ := rowS_at ht
          have n0 : wy.cell? ⟨gT, j * 2, none⟩ = some (.int .i64 t.c) := by rw [hrT.cellAt _ (by omega), hr0]
          have n1 : wy.cell? ⟨gT, j * 2 + 1, none⟩ = some t.v := by rw [hrT.cellAt _ (by omega), hr1]
          have HBJ := Lib.hid hbT
          have HTT := Lib.hid ht
          clear hK hrT hbT hr0 hr1
          by_cases ht0 : t.c = 0
          · have q1 : (t.c != 0) = false := by simp [ht0]
            have q2 : (t.c == 0) = true := by simp [ht0]
            have HN := Lib.hid (show keepE (T.take (j + 1)) = keepE (T.take j) from by rw [take_snoc ht, keepE_snoc, if_pos ht0, List.append_nil])
            clear ht ht0
            go_wp2
            go_roundw
            case rel => exact ⟨j + 1, kl, by go_num, by omega, by omega, by rw [HN.out]; exact HK.out, HRTJ.out, HBJ.out⟩
            case measure => (simp [intOf]; try omega)
          · have q1 : (t.c != 0) = true := by simp [ht0]
            have q2 : (t.c == 0) = false := by simp [ht0]
            have HN := Lib.hid (show keepE (T.take (j + 1)) = keepE (T.take j) ++ [t] from by rw [take_snoc ht, keepE_snoc, if_neg ht0])
            clear ht ht0
            have HRQ7 := Lib.hid (HK.out.row)
            have HPU7 := Lib.hid (fun (w' : World) (g' c' : Nat) (hown : w'.ownsRow 0 56 2 (.slice (some ⟨g', 0, none⟩) (kl + 1) c') (kl + 1) (rowS _ ++ [.int .i64 t.c, t.v])) (hgrow : (wy.alloc (.cells #[.int .i64 t.c, t.v] 56)).grownBy w' (some gk)) (hat : some gk = some g' ∨ g' = wy.heap.size + 1) =>
              HK.out.push (y := t) ((Below.refl _ _).alloc (Nat.le_refl _) _) hown hgrow (hat.elim (fun h => .inl (Option.some.inj h)) (fun h => .inr (by omega))))
            go_wp2_with (first | (at_builtin; refine wpList_append_lies _ rfl _ _ _ rfl 0 56 i0 _ 2 32 Tryz.underlying24 hi hz0 hz1 hz2 rfl (by omega) (.slice (some ⟨gk, 0, none⟩) kl capk) kl _ (by rfl) (HRQ7.out.alloc _) ⟨wy.heap.size, 0, none⟩ 1 1 [.int .i64 t.c, t.v] (by rfl) (by rfl) (World.news_of_block (cs := #[.int .i64 t.c, t.v]) (t := 56) (fr := (0, 0)) (heap_alloc_new _ _)) (by simp [Value.oneCell']) (by omega) (by unfold maxLen; omega) (by omega) (by simp) (wy.heap.size + 1) (by simp) ?_; intro g7 cap7 w7 hown1 hgrow hat hlt1; obtain ⟨hr1, ho1⟩ := HPU7.out w7 g7 cap7 hown1 hgrow hat; have HR7 := Lib.hid hr1; have HO7 := Lib.hid ho1; clear hown1 hgrow hat hr1 ho1))
            have HPN := Lib.hid (show RowI gT w7 (.slice (some ⟨g7, 0, none⟩) (kl + 1) cap7) (keepE (T.take (j + 1))) (kl + 1) ∧ w7.ownsRow 0 56 2 (.slice (some ⟨gT, 0, none⟩) tl capT) tl (rowS T) ∧ Below w.heap.size w w7 from
              ⟨by rw [HN.out]; exact HR7.out, ownsRow_only HRTJ.out HO7.out (fun b hb hm => by simp [Value.ownBlock] at hb hm; omega), HBJ.out.trans (HO7.out.below HBJ.out.size (by simp; omega))⟩)
            clear n0 n1
            go_roundw
            case rel => exact ⟨j + 1, kl + 1, by go_num, by omega, by omega, HPN.out⟩
            case measure => (simp [intOf]; try omega)

      | false =>
        have hOT : O ++ [{ x with c := c }] = putAE x Z x.c false := by simpa [putAE] using hEQ
        have HOT := Lib.hid hOT
        have hwg := HB.out.size
        clear hP HP hf0 hdz hEQ hOT
        have HRQ6 := Lib.hid (HR.out.row)
        have HPU6 := Lib.hid (fun (w' : World) (g' c' : Nat) (hown : w'.ownsRow 0 56 2 (.slice (some ⟨g', 0, none⟩) (ol + 1) c') (ol + 1) (rowS _ ++ [.int .i64 c, x.v])) (hgrow : (wk.alloc (.cells #[.int .i64 c, x.v] 56)).grownBy w' (some gg)) (hat : some gg = some g' ∨ g' = wk.heap.size + 1) =>
          HR.out.push (y := { x with c := c }) ((Below.refl _ _).alloc (Nat.le_refl _) _) hown hgrow (hat.elim (fun h => .inl (Option.some.inj h)) (fun h => .inr (by omega))))
        go_wp2_with (first | (at_builtin; refine wpList_append_lies _ rfl _ _ _ rfl 0 56 i0 _ 2 32 Tryz.underlying24 hi hz0 hz1 hz2 rfl (by omega) (.slice (some ⟨gg, 0, none⟩) ol cap) ol _ (by rfl) (HRQ6.out.alloc _) ⟨wk.heap.size, 0, none⟩ 1 1 [.int .i64 c, x.v] (by rfl) (by rfl) (World.news_of_block (cs := #[.int .i64 c, x.v]) (t := 56) (fr := (0, 0)) (heap_alloc_new _ _)) (by simp [Value.oneCell']) (by omega) (by unfold maxLen; omega) (by omega) (by simp) (wk.heap.size + 1) (by simp) ?_; intro g6 cap6 w6 hown1 hgrow hat hlt1; obtain ⟨hr1, ho1⟩ := HPU6.out w6 g6 cap6 hown1 hgrow hat; have HR6 := Lib.hid hr1; have HO6 := Lib.hid ho1; clear hown1 hgrow hat hr1 ho1))
        have hT0 : ∃ T, T = O ++ [{ x with c := c }] := ⟨_, rfl⟩
        obtain ⟨T, hTO⟩ := hT0
        have hT : T = putAE x Z x.c false := by rw [hTO]; exact HOT.out
        have HRT := Lib.hid (show RowI w.heap.size w6 (.slice (some ⟨g6, 0, none⟩) (ol + 1) cap6) T (ol + 1) from by rw [hTO]; exact HR6.out)
        have HBT := Lib.hid (HB.out.trans (HO6.out.below HB.out.size (by simp; omega)))
        obtain ⟨wT, hwT⟩ : ∃ W, W = w6 := ⟨_, rfl⟩
        obtain ⟨tl, htl0⟩ : ∃ t, t = ol + 1 := ⟨_, rfl⟩
        obtain ⟨gT, hgT0⟩ : ∃ t, t = g6 := ⟨_, rfl⟩
        obtain ⟨capT, hcT0⟩ : ∃ t, t = cap6 := ⟨_, rfl⟩
        rw [← hwT, ← htl0, ← hgT0, ← hcT0] at HRT ⊢
        rw [← hwT] at HBT
        clear hwT htl0 hgT0 hcT0 hTO HR6 HO6 HPU6 HRQ6 hc0 hc1 HOT HR HB
        have hT2 : putE Z x = keepE T := by rw [hT]; rfl
        have htl : tl ≤ 100001 := by
          have := putAE_len x Z x.c false
          rw [← hT, HRT.out.len, HZL.out] at this
          omega
        obtain ⟨gT', capT', hvT, hgT⟩ := HRT.out.shape
        simp only [Value.slice.injEq, Option.some.injEq, Addr.mk.injEq, and_true, true_and] at hvT
        obtain ⟨rfl, rfl⟩ := hvT
        have hgTl := (HRT.out.row.lt gT (by simp [Value.ownBlock])).2
        have hbk : Below wT.heap.size wT (wT.alloc (.cells #[] 56)) := (Below.refl _ _).alloc (Nat.le_refl _) _
        have HK0 := Lib.hid (show RowI gT (wT.alloc (.cells #[] 56)) (.slice (some ⟨wT.heap.size, 0, none⟩) 0 0) [] 0 ∧ (wT.alloc (.cells #[] 56)).ownsRow 0 56 2 (.slice (some ⟨gT, 0, none⟩) tl capT) tl (rowS T) ∧ Below w.heap.size w (wT.alloc (.cells #[] 56)) from
          ⟨⟨rfl, ⟨wT.heap.size, 0, rfl, hgTl⟩, by simpa [rowS] using World.ownsRow_lit (base := 0) (e := 56) (size := 2) wT #[] 0 (Nat.zero_le _) (Nat.zero_le _) rfl⟩, (HRT.out.below hbk).row, HBT.out.trans (hbk.mono HBT.out.size)⟩)
        have HT2 := Lib.hid hT2
        have HTL := Lib.hid HRT.out.len
        clear hT hT2 hgTl hbk
        go_wp2
        go_loopw [8, 9] (fun sk si wr => ∃ (i kl : Nat), si = .int .i64 i ∧ i ≤ tl ∧ kl ≤ i ∧ RowI gT wr sk (keepE (T.take i)) kl ∧ wr.ownsRow 0 56 2 (.slice (some ⟨gT, 0, none⟩) tl capT) tl (rowS T) ∧ Below w.heap.size w wr) (fun _ si _ => tl - (intOf si).toNat)
        case atStart => exact ⟨0, 0, rfl, Nat.zero_le _, Nat.le_refl _, HK0.out⟩
        case round =>
          obtain ⟨wy, rfl⟩ : ∃ W, W = wr := ⟨_, rfl⟩
          clear HK0
          obtain ⟨j, kl, rfl, hj, hkl, hK, hrT, hbT⟩ := hrel
          obtain ⟨gk, capk, rfl, hgk⟩ := hK.shape
          have HK := Lib.hid hK
          have HRTJ := Lib.hid hrT
          by_cases hlt2 : j < tl
          case neg =>
            obtain rfl : j = tl := by omega
            have HE := Lib.hid (show PutPost w Z x (.returned (.slice (some ⟨gk, 0, none⟩) kl capk)) wy from by
              have h1 : T.take j = T := List.take_of_length_le (by rw [HTL.out]; exact Nat.le_refl _)
              have h2 := hK.len
              have h3 := hK.row
              rw [h1, ← HT2.out] at h2 h3
              exact ⟨gk, capk, by rw [h2], by omega, by rw [h2]; exact h3, hbT⟩)
            clear hK hrT hbT
            go_wp2
            go_ret
            exact HE.out
          obtain ⟨t, ht⟩ : ∃ t, T[j]? = some t := ⟨_, List.getElem?_eq_getElem (by rw [HTL.out]; exact hlt2)⟩
          obtain ⟨hr0, hr1⟩ := rowS_at ht
          have n0 : wy.cell? ⟨gT, j * 2, none⟩ = some (.int .i64 t.c) := by rw [hrT.cellAt _ (by omega), hr0]
          have n1 : wy.cell? ⟨gT, j * 2 + 1, none⟩ = some t.v := by rw [hrT.cellAt _ (by omega), hr1]
          have HBJ := Lib.hid hbT
          have HTT := Lib.hid ht
          clear hK hrT hbT hr0 hr1
          by_cases ht0 : t.c = 0
          · have q1 : (t.c != 0) = false := by simp [ht0]
            have q2 : (t.c == 0) = true := by simp [ht0]
            have HN := Lib.hid (show keepE (T.take (j + 1)) = keepE (T.take j) from by rw [take_snoc ht, keepE_snoc, if_pos ht0, List.append_nil])
            clear ht ht0
            go_wp2
            go_roundw
            case rel => exact ⟨j + 1, kl, by go_num, by omega, by omega, by rw [HN.out]; exact HK.out, HRTJ.out, HBJ.out⟩
            case measure => (simp [intOf]; try omega)
          · have q1 : (t.c != 0) = true := by simp [ht0]
            have q2 : (t.c == 0) = false := by simp [ht0]
            have HN := Lib.hid (show keepE (T.take (j + 1)) = keepE (T.take j) ++ [t] from by rw [take_snoc ht, keepE_snoc, if_neg ht0])
            clear ht ht0
            have HRQ7 := Lib.hid (HK.out.row)
            have HPU7 := Lib.hid (fun (w' : World) (g' c' : Nat) (hown : w'.ownsRow 0 56 2 (.slice (some ⟨g', 0, none⟩) (kl + 1) c') (kl + 1) (rowS _ ++ [.int .i64 t.c, t.v])) (hgrow : (wy.alloc (.cells #[.int .i64 t.c, t.v] 56)).grownBy w' (some gk)) (hat : some gk = some g' ∨ g' = wy.heap.size + 1) =>
              HK.out.push (y := t) ((Below.refl _ _).alloc (Nat.le_refl _) _) hown hgrow (hat.elim (fun h => .inl (Option.some.inj h)) (fun h => .inr (by omega))))
            go_wp2_with (first | (at_builtin; refine wpList_append_lies _ rfl _ _ _ rfl 0 56 i0 _ 2 32 Tryz.underlying24 hi hz0 hz1 hz2 rfl (by omega) (.slice (some ⟨gk, 0, none⟩) kl capk) kl _ (by rfl) (HRQ7.out.alloc _) ⟨wy.heap.size, 0, none⟩ 1 1 [.int .i64 t.c, t.v] (by rfl) (by rfl) (World.news_of_block (cs := #[.int .i64 t.c, t.v]) (t := 56) (fr := (0, 0)) (heap_alloc_new _ _)) (by simp [Value.oneCell']) (by omega) (by unfold maxLen; omega) (by omega) (by simp) (wy.heap.size + 1) (by simp) ?_; intro g7 cap7 w7 hown1 hgrow hat hlt1; obtain ⟨hr1, ho1⟩ := HPU7.out w7 g7 cap7 hown1 hgrow hat; have HR7 := Lib.hid hr1; have HO7 := Lib.hid ho1; clear hown1 hgrow hat hr1 ho1))
            have HPN := Lib.hid (show RowI gT w7 (.slice (some ⟨g7, 0, none⟩) (kl + 1) cap7) (keepE (T.take (j + 1))) (kl + 1) ∧ w7.ownsRow 0 56 2 (.slice (some ⟨gT, 0, none⟩) tl capT) tl (rowS T) ∧ Below w.heap.size w w7 from
              ⟨by rw [HN.out]; exact HR7.out, ownsRow_only HRTJ.out HO7.out (fun b hb hm => by simp [Value.ownBlock] at hb hm; omega), HBJ.out.trans (HO7.out.below HBJ.out.size (by simp; omega))⟩)
            clear n0 n1
            go_roundw
            case rel => exact ⟨j + 1, kl + 1, by go_num, by omega, by omega, HPN.out⟩
            case measure => (simp [intOf]; try omega)

    obtain ⟨z, hz⟩ : ∃ z, Z[i]? = some z := ⟨_, List.getElem?_eq_getElem (by rw [HZL.out]; exact hlt)⟩
    have hzd : Z.drop i = z :: Z.drop (i + 1) := by
      obtain ⟨h1, h2⟩ := List.getElem?_eq_some_iff.1 hz
      rw [List.drop_eq_getElem_cons h1, h2]
    have hrp := ownsRow_only HROW.out (Only.of_below (fp := []) HB.out) (by simp)
    obtain ⟨hr0, hr1⟩ := rowS_at hz
    have hp0 : wk.cell? ⟨gp, i * 2, none⟩ = some (.int .i64 z.c) := by rw [hrp.cellAt _ (by omega), hr0]
    have hp1 : wk.cell? ⟨gp, i * 2 + 1, none⟩ = some z.v := by rw [hrp.cellAt _ (by omega), hr1]
    have hrz := rdI_mono HB.out (HZZ.out z (List.mem_of_getElem? hz)).1
    have hrx := rdI_mono HB.out HX.out
    have SAME := Lib.hid (fun (b : Bool) (hb : decide (z.ps = x.ps) = b) (N : Nat) => same_eq z.v x.v z.ps x.ps (wk.drewN N) (rdI_drewN N hrz) (rdI_drewN N hrx) hb)
    have LESS := Lib.hid (fun (b : Bool) (hb : ltL z.ps x.ps = b) (W : World) (hW : Below wk.heap.size wk W) (N : Nat) => l2Less_eq z.v x.v z.ps x.ps (W.drewN N) (rdI_drewN N (rdI_mono hW hrz)) (rdI_drewN N (rdI_mono hW hrx)) hb)
    have hzdE := hP.eq
    rw [hzd] at hzdE
    have HEQ := Lib.hid hzdE
    clear hP hz hzd hrp hr0 hr1 hrz hrx hzdE
    by_cases hps : z.ps = x.ps
    · have S1 := Lib.hid (SAME.out true (by simpa using hps))
      have HN := Lib.hid (show O ++ putAE x (Z.drop (i + 1)) (plusZ c z.c) placed = putAE x Z x.c false from by
        have := HEQ.out
        rwa [putAE, if_pos hps] at this)
      clear hps
      go_wp2
      go_quiet ((go_at_call 154; exact quiet_qt (S1.out _)))
      obtain ⟨wq, hwq⟩ : ∃ W, W = wk.drewN nq := ⟨_, rfl⟩
      have hq : Below wk.heap.size wk wq := by rw [hwq]; exact blw_drewN (Below.refl _ _) _
      rw [← hwq]
      have k0 := cell_below hq hc0
      have k1 := cell_below hq hc1
      have k2 := cell_below hq hp0
      have k3 := cell_below hq hp1
      have k4 : wq.frozen? ⟨w.heap.size, 0, none⟩ = false := (hq.frozen (p := ⟨w.heap.size, 0, none⟩) (World.block_lt_of_cell? _ _ hc0)).trans hf0
      have hO : Only [w.heap.size] wk ((wq.setCell ⟨w.heap.size, 0, none⟩ (.int .i64 (plusZ c z.c))).drew) := ((Only.of_below hq).setCell (by simp) _).drew
      have HPN := Lib.hid (show PInv w x Z (i + 1) (.slice (some ⟨gg, 0, none⟩) ol cap) placed (plusZ c z.c) O ol ((wq.setCell ⟨w.heap.size, 0, none⟩ (.int .i64 (plusZ c z.c))).drew) from
        ⟨HN.out, by omega, HR.out.only hO (by simp; omega), World.cell?_setCell_same _ _ _ k0, (World.cell?_setCell_other _ _ _ _ (by simp)).trans k1, by
          show (wq.setCell _ _).frozen? _ = false
          simp [k4], ((HB.out.trans (hq.mono HB.out.size)).setCell (by simp) _).drew⟩)
      clear hwq hc0 hc1 hf0 hp0 hp1 hq hO
      go_wp2
      (refine wp_region_still_tail 9 (by kernel_rfl) (by kernel_rfl) ?_; simp only [List.take_succ_cons, List.take_zero, List.drop_succ_cons, List.drop_zero]; (repeat (first | still_step | still_call (still_of (sPlus_any _ _ _)))); refine wpStill_nil ?_; change wpList _ _ _ _ _ (World.drew _))
      go_wp2
      go_roundw
      case rel => exact ⟨i + 1, placed, _, O, ol, by go_num, rfl, by omega, HPN.out⟩
      case measure => (simp [intOf]; try omega)
    · have S1 := Lib.hid (SAME.out false (by simpa using hps))
      have hgpw : gp < w.heap.size := (HROW.out.lt gp (by simp [Value.ownBlock])).2
      cases placed with
      | true =>
        have HN := Lib.hid (show (O ++ [z]) ++ putAE x (Z.drop (i + 1)) c true = putAE x Z x.c false from by
          have := HEQ.out
          rw [putAE, if_neg hps, if_neg (by simp)] at this
          simpa using this)
        simp only [Bool.toNat_true] at hle
        clear hps hf0
        go_wp2
        go_quiet ((go_at_call 154; exact quiet_qt (S1.out _)))
        obtain ⟨wp, hwp⟩ : ∃ W, W = wk.drewN nq := ⟨_, rfl⟩
        have hp9 : Below wk.heap.size wk wp := by rw [hwp]; exact blw_drewN (Below.refl _ _) _
        rw [← hwp]
        clear hwp
        have m0 := cell_below hp9 hc0
        have m1 := cell_below hp9 hc1
        have m2 := cell_below hp9 hp0
        have m3 := cell_below hp9 hp1
        clear hc0 hc1 hp0 hp1
        go_wp2
        go_quiet (fail)
        obtain ⟨wq, hwq⟩ : ∃ W, W = wp.drewN nq := ⟨_, rfl⟩
        have hq : Below wk.heap.size wk wq := by rw [hwq]; exact blw_drewN hp9 _
        rw [← hwq]
        have k0 := cell_below (show Below wp.heap.size wp wq from by rw [hwq]; exact blw_drewN (Below.refl _ _) _) m0
        have k1 := cell_below (show Below wp.heap.size wp wq from by rw [hwq]; exact blw_drewN (Below.refl _ _) _) m1
        have k2 := cell_below (show Below wp.heap.size wp wq from by rw [hwq]; exact blw_drewN (Below.refl _ _) _) m2
        have k3 := cell_below (show Below wp.heap.size wp wq from by rw [hwq]; exact blw_drewN (Below.refl _ _) _) m3
        have HQ := Lib.hid hq
        have HRQ := Lib.hid (HR.out.below hq)
        clear hwq m0 m1 m2 m3 hq
        have HRQ8 := Lib.hid (HRQ.out.row)
        have HPU8 := Lib.hid (fun (w' : World) (g' c' : Nat) (hown : w'.ownsRow 0 56 2 (.slice (some ⟨g', 0, none⟩) (ol + 1) c') (ol + 1) (rowS _ ++ [.int .i64 z.c, z.v])) (hgrow : (wq.alloc (.cells #[.int .i64 z.c, z.v] 56)).grownBy w' (some gg)) (hat : some gg = some g' ∨ g' = wq.heap.size + 1) =>
          HRQ.out.push (y := z) ((Below.refl _ _).alloc (Nat.le_refl _) _) hown hgrow (hat.elim (fun h => .inl (Option.some.inj h)) (fun h => .inr (by omega))))
        go_wp2_with (first | (at_builtin; refine wpList_append_lies _ rfl _ _ _ rfl 0 56 i0 _ 2 32 Tryz.underlying24 hi hz0 hz1 hz2 rfl (by omega) (.slice (some ⟨gg, 0, none⟩) ol cap) ol _ (by rfl) (HRQ8.out.alloc _) ⟨wq.heap.size, 0, none⟩ 1 1 [.int .i64 z.c, z.v] (by rfl) (by rfl) (World.news_of_block (cs := #[.int .i64 z.c, z.v]) (t := 56) (fr := (0, 0)) (heap_alloc_new _ _)) (by simp [Value.oneCell']) (by omega) (by unfold maxLen; omega) (by omega) (by simp) (wq.heap.size + 1) (by simp) ?_; intro g8 cap8 w8 hown1 hgrow hat hlt1; obtain ⟨hr1, ho1⟩ := HPU8.out w8 g8 cap8 hown1 hgrow hat; have HR8 := Lib.hid hr1; have HO8 := Lib.hid ho1; clear hown1 hgrow hat hr1 ho1))
        have HPN := Lib.hid (HP.out.step (placed' := true) HQ.out HO8.out (by simpa using hgg) HR8.out HN.out (by simp; omega))
        clear k0 k1 k2 k3
        go_roundw
        case rel => exact ⟨i + 1, true, c, _, ol + 1, by go_num, rfl, by omega, HPN.out⟩
        case measure => (simp [intOf]; try omega)
      | false =>
        simp only [Bool.toNat_false] at hle
        cases hl : ltL z.ps x.ps with
        | false =>
          have L1 := Lib.hid (LESS.out false hl)
          have HN := Lib.hid (show (O ++ [z]) ++ putAE x (Z.drop (i + 1)) c false = putAE x Z x.c false from by
            have := HEQ.out
            rw [putAE, if_neg hps, if_neg (by simp [hl])] at this
            simpa using this)
          clear hps hl hf0
          go_wp2
          go_quiet ((go_at_call 154; exact quiet_qt (S1.out _)))
          obtain ⟨wp, hwp⟩ : ∃ W, W = wk.drewN nq := ⟨_, rfl⟩
          have hp9 : Below wk.heap.size wk wp := by rw [hwp]; exact blw_drewN (Below.refl _ _) _
          rw [← hwp]
          clear hwp
          have m0 := cell_below hp9 hc0
          have m1 := cell_below hp9 hc1
          have m2 := cell_below hp9 hp0
          have m3 := cell_below hp9 hp1
          clear hc0 hc1 hp0 hp1
          go_wp2
          go_quiet ((go_at_call 133; exact quiet_qt (L1.out _ hp9 _)))
          obtain ⟨wq, hwq⟩ : ∃ W, W = wp.drewN nq := ⟨_, rfl⟩
          have hq : Below wk.heap.size wk wq := by rw [hwq]; exact blw_drewN hp9 _
          rw [← hwq]
          have k0 := cell_below (show Below wp.heap.size wp wq from by rw [hwq]; exact blw_drewN (Below.refl _ _) _) m0
          have k1 := cell_below (show Below wp.heap.size wp wq from by rw [hwq]; exact blw_drewN (Below.refl _ _) _) m1
          have k2 := cell_below (show Below wp.heap.size wp wq from by rw [hwq]; exact blw_drewN (Below.refl _ _) _) m2
          have k3 := cell_below (show Below wp.heap.size wp wq from by rw [hwq]; exact blw_drewN (Below.refl _ _) _) m3
          have HQ := Lib.hid hq
          have HRQ := Lib.hid (HR.out.below hq)
          clear hwq m0 m1 m2 m3 hq
          have HRQ8 := Lib.hid (HRQ.out.row)
          have HPU8 := Lib.hid (fun (w' : World) (g' c' : Nat) (hown : w'.ownsRow 0 56 2 (.slice (some ⟨g', 0, none⟩) (ol + 1) c') (ol + 1) (rowS _ ++ [.int .i64 z.c, z.v])) (hgrow : (wq.alloc (.cells #[.int .i64 z.c, z.v] 56)).grownBy w' (some gg)) (hat : some gg = some g' ∨ g' = wq.heap.size + 1) =>
            HRQ.out.push (y := z) ((Below.refl _ _).alloc (Nat.le_refl _) _) hown hgrow (hat.elim (fun h => .inl (Option.some.inj h)) (fun h => .inr (by omega))))
          go_wp2_with (first | (at_builtin; refine wpList_append_lies _ rfl _ _ _ rfl 0 56 i0 _ 2 32 Tryz.underlying24 hi hz0 hz1 hz2 rfl (by omega) (.slice (some ⟨gg, 0, none⟩) ol cap) ol _ (by rfl) (HRQ8.out.alloc _) ⟨wq.heap.size, 0, none⟩ 1 1 [.int .i64 z.c, z.v] (by rfl) (by rfl) (World.news_of_block (cs := #[.int .i64 z.c, z.v]) (t := 56) (fr := (0, 0)) (heap_alloc_new _ _)) (by simp [Value.oneCell']) (by omega) (by unfold maxLen; omega) (by omega) (by simp) (wq.heap.size + 1) (by simp) ?_; intro g8 cap8 w8 hown1 hgrow hat hlt1; obtain ⟨hr1, ho1⟩ := HPU8.out w8 g8 cap8 hown1 hgrow hat; have HR8 := Lib.hid hr1; have HO8 := Lib.hid ho1; clear hown1 hgrow hat hr1 ho1))
          have HPN := Lib.hid (HP.out.step (placed' := false) HQ.out HO8.out (by simpa using hgg) HR8.out HN.out (by simp; omega))
          clear k0 k1 k2 k3
          go_roundw
          case rel => exact ⟨i + 1, false, c, _, ol + 1, by go_num, rfl, by omega, HPN.out⟩
          case measure => (simp [intOf]; try omega)
        | true =>
          have L1 := Lib.hid (LESS.out true hl)
          have HN := Lib.hid (show (O ++ [{ x with c := c }] ++ [z]) ++ putAE x (Z.drop (i + 1)) c true = putAE x Z x.c false from by
            have := HEQ.out
            rw [putAE, if_neg hps, if_pos ⟨rfl, hl⟩] at this
            simpa using this)
          clear hps hl hf0
          go_wp2
          go_quiet ((go_at_call 154; exact quiet_qt (S1.out _)))
          obtain ⟨wp, hwp⟩ : ∃ W, W = wk.drewN nq := ⟨_, rfl⟩
          have hp9 : Below wk.heap.size wk wp := by rw [hwp]; exact blw_drewN (Below.refl _ _) _
          rw [← hwp]
          clear hwp
          have m0 := cell_below hp9 hc0
          have m1 := cell_below hp9 hc1
          have m2 := cell_below hp9 hp0
          have m3 := cell_below hp9 hp1
          clear hc0 hc1 hp0 hp1
          go_wp2
          go_quiet ((go_at_call 133; exact quiet_qt (L1.out _ hp9 _)))
          obtain ⟨wq, hwq⟩ : ∃ W, W = wp.drewN nq := ⟨_, rfl⟩
          have hq : Below wk.heap.size wk wq := by rw [hwq]; exact blw_drewN hp9 _
          rw [← hwq]
          have k0 := cell_below (show Below wp.heap.size wp wq from by rw [hwq]; exact blw_drewN (Below.refl _ _) _) m0
          have k1 := cell_below (show Below wp.heap.size wp wq from by rw [hwq]; exact blw_drewN (Below.refl _ _) _) m1
          have k2 := cell_below (show Below wp.heap.size wp wq from by rw [hwq]; exact blw_drewN (Below.refl _ _) _) m2
          have k3 := cell_below (show Below wp.heap.size wp wq from by rw [hwq]; exact blw_drewN (Below.refl _ _) _) m3
          have HQ := Lib.hid hq
          have HRQ := Lib.hid (HR.out.below hq)
          clear hwq m0 m1 m2 m3 hq
          have HRQ8 := Lib.hid (HRQ.out.row)
          have HPU8 := Lib.hid (fun (w' : World) (g' c' : Nat) (hown : w'.ownsRow 0 56 2 (.slice (some ⟨g', 0, none⟩) (ol + 1) c') (ol + 1) (rowS _ ++ [.int .i64 c, x.v])) (hgrow : (wq.alloc (.cells #[.int .i64 c, x.v] 56)).grownBy w' (some gg)) (hat : some gg = some g' ∨ g' = wq.heap.size + 1) => HRQ.out.push (y := { x with c := c }) ((Below.refl _ _).alloc (Nat.le_refl _) _) hown hgrow (hat.elim (fun h => .inl (Option.some.inj h)) (fun h => .inr (by omega))))
          go_wp2_with (first | (at_builtin; refine wpList_append_lies _ rfl _ _ _ rfl 0 56 i0 _ 2 32 Tryz.underlying24 hi hz0 hz1 hz2 rfl (by omega) (.slice (some ⟨gg, 0, none⟩) ol cap) ol _ (by rfl) (HRQ8.out.alloc _) ⟨wq.heap.size, 0, none⟩ 1 1 [.int .i64 c, x.v] (by rfl) (by rfl) (World.news_of_block (cs := #[.int .i64 c, x.v]) (t := 56) (fr := (0, 0)) (heap_alloc_new _ _)) (by simp [Value.oneCell']) (by omega) (by unfold maxLen; omega) (by omega) (by simp) (wq.heap.size + 1) (by simp) ?_; intro g8 cap8 w8 hown1 hgrow hat hlt1; obtain ⟨hr1, ho1⟩ := HPU8.out w8 g8 cap8 hown1 hgrow hat; have HR8 := Lib.hid hr1; have HO8 := Lib.hid ho1; have k4 := cell_only ho1 (by simp; omega) k2; have k5 := cell_only ho1 (by simp; omega) k3; have HRQ9 := Lib.hid (HR8.out.row); have HPU9 := Lib.hid (fun (w' : World) (g' c' : Nat) (hown : w'.ownsRow 0 56 2 (.slice (some ⟨g', 0, none⟩) ((ol + 1) + 1) c') ((ol + 1) + 1) (rowS _ ++ [.int .i64 z.c, z.v])) (hgrow : (w8.alloc (.cells #[.int .i64 z.c, z.v] 56)).grownBy w' (some g8)) (hat : some g8 = some g' ∨ g' = w8.heap.size + 1) => HR8.out.push (y := z) ((Below.refl _ _).alloc (Nat.le_refl _) _) hown hgrow (hat.elim (fun h => .inl (Option.some.inj h)) (fun h => .inr (by omega)))); clear hown1 hgrow hat hr1 ho1) | (at_builtin; refine wpList_append_lies _ rfl _ _ _ rfl 0 56 i0 _ 2 32 Tryz.underlying24 hi hz0 hz1 hz2 rfl (by omega) (.slice (some ⟨g8, 0, none⟩) (ol + 1) cap8) (ol + 1) _ (by rfl) (HRQ9.out.alloc _) ⟨w8.heap.size, 0, none⟩ 1 1 [.int .i64 z.c, z.v] (by rfl) (by rfl) (World.news_of_block (cs := #[.int .i64 z.c, z.v]) (t := 56) (fr := (0, 0)) (heap_alloc_new _ _)) (by simp [Value.oneCell']) (by omega) (by unfold maxLen; omega) (by omega) (by simp) (w8.heap.size + 1) (by simp) ?_; intro g9 cap9 w9 hown1 hgrow hat hlt1; obtain ⟨hr1, ho1⟩ := HPU9.out w9 g9 cap9 hown1 hgrow hat; have HR9 := Lib.hid hr1; have HO9 := Lib.hid ho1; clear hown1 hgrow hat hr1 ho1))
          clear k0 k1 k2 k3
          have hg8 : w.heap.size < g8 := by
            obtain ⟨g', c', hv, hg⟩ := HR8.out.shape
            injection hv with e1 e2 e3
            simp at e1
            omega
          have HPN := Lib.hid (HP.out.step (placed' := true) HQ.out ((HO8.out.mono (fp' := [gg, g8]) (by simp)).trans (HO9.out.mono (by simp))) (by simp; omega) HR9.out (by simpa using HN.out) (by simp; omega))
          clear hg8 k4 k5
          go_roundw
          case rel => exact ⟨i + 1, true, c, _, ol + 1 + 1, by go_num, rfl, by omega, HPN.out⟩
          case measure => (simp [intOf]; try omega)
end Go.Proofs.YtbcjhpgkodeoeaaGreatDoor
