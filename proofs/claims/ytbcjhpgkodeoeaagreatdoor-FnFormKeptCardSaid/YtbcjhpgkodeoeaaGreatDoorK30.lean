/- The texts Step, FormL in one: each says at its head what it proves. Conditions: as said there. -/
import Derived.Test.YtbcjhpgkodeoeaaGreatDoorK29
import Derived.Test.YtbcjhpgkodeoeaaGreatDoorK27
import Derived.Test.YtbcjhpgkodeoeaaGreatDoorK16
import Derived.Test.YtbcjhpgkodeoeaaGreatDoorK28
set_option linter.unusedSimpArgs false
set_option linter.unusedVariables false
/- StepAlong of the program. Conditions: lengths of slices up to 2^20. -/
namespace Go.Proofs.YtbcjhpgkodeoeaaGreatDoor
open Go.RowKit Go.Sort

def stepL (t : TabZ) (f : FldZ) (xs : List (List Int)) : List (List Int) :=
  if fpOkB f xs && tabOkB t then turnZ (atAll (turnZ xs f.dim.toNat) (roundsZ f.parts (turnZ xs f.dim.toNat) (rowZ t.A t.B.length) t.B.length (zAll t.B.length f.dim.toNat xs.length) xs.length) t.B t.B.length) xs.length else []
theorem box3_at {w W : World} {e : Nat} {a b c : Value} (hb : Below (w.alloc (.cells #[a, b, c] e)).heap.size (w.alloc (.cells #[a, b, c] e)) W) : W.cell? ⟨w.heap.size, 0, none⟩ = some a ∧ W.cell? ⟨w.heap.size, 1, none⟩ = some b ∧ W.cell? ⟨w.heap.size, 2, none⟩ = some c := by
  have hlt : w.heap.size < (w.alloc (.cells #[a, b, c] e)).heap.size := by simp
  refine ⟨(hb.cell (p := ⟨w.heap.size, 0, none⟩) hlt).trans ?_, (hb.cell (p := ⟨w.heap.size, 1, none⟩) hlt).trans ?_, (hb.cell (p := ⟨w.heap.size, 2, none⟩) hlt).trans ?_⟩ <;> simp
theorem three_cells {w : World} {b : Nat} {a c d : Value} (h : w.cell? ⟨b, 0, none⟩ = some a ∧ w.cell? ⟨b, 1, none⟩ = some c ∧ w.cell? ⟨b, 2, none⟩ = some d) : ∀ (j : Nat) v, [a, c, d][j]? = some v → w.cell? ⟨b, j, none⟩ = some v := by
  intro j v hj
  match j, hj with
  | 0, hj => simp at hj; rw [← hj]; exact h.1
  | 1, hj => simp at hj; rw [← hj]; exact h.2.1
  | 2, hj => simp at hj; rw [← hj]; exact h.2.2

theorem atAll_row {ys : List (List Int)} {size : Nat} (h : AllJ size ys) (vals : List (List (List Int))) (row : List Int) (st : Nat) : ∀ z ∈ atAll ys vals row st, z.length = size := fun z hz => by
  have := atAll_ok h vals row st
  exact (this z hz).1

set_option maxRecDepth 100000 in
set_option maxHeartbeats 6400000 in
theorem step_any (vt vf vx : Value) (t : TabZ) (f : FldZ) (xs : List (List Int)) (w : World) (ht : RdTab w vt t) (hf : RdFld w vf f) (hx : RdII w vx xs) (hfit : ∀ p ∈ f.parts, ∀ m ∈ p, Fit_Mon m) :
    Calls Tryz.prog 12 #[vt, vf, vx] w (Gives (fun w' v fp => OwnII 35 3 w' v (stepL t f xs) fp) w) := by
  have hnone : ∀ W, Below w.heap.size w W → (fpOkB f xs && tabOkB t) = false → Gives (fun w' v fp => OwnII 35 3 w' v (stepL t f xs) fp) w (.returned (.slice none 0 0)) W := by
    intro W hW hd
    refine ⟨_, [], rfl, ?_, by simp, hW⟩
    rw [stepL, hd]
    exact ⟨[], [], World.ownsRow_nil _ _ _ _, by simp, rfl, rfl, by simp⟩
  obtain ⟨vA, vB, rfl, hIt, hA, hB⟩ := ht
  obtain ⟨vP, rfl, hI, hp⟩ := hf
  obtain ⟨ad1, len, cap, rfl, hl, hlc1, hcm1, h1'⟩ := rdS_open hx
  obtain ⟨adp, lenp, capp, rfl⟩ := rdMss_slice hp
  obtain ⟨aA, lA, cA, rfl⟩ := rdI_slice hA
  obtain ⟨aB, lB, cB, rfl⟩ := rdI_slice hB
  obtain ⟨W1, hW1⟩ : ∃ W, W = w.alloc (.cells #[.int .i64 t.stages, .slice aA lA cA, .slice aB lB cB] 37) := ⟨_, rfl⟩
  obtain ⟨W, hW⟩ : ∃ W, W = W1.alloc (.cells #[.int .i64 f.dim, .slice adp lenp capp] 30) := ⟨_, rfl⟩
  have hb01 : Below w.heap.size w W1 := hW1 ▸ (Below.refl _ _).alloc (Nat.le_refl _) _
  have hb1W : Below W1.heap.size W1 W := hW ▸ (Below.refl _ _).alloc (Nat.le_refl _) _
  have hb0 : Below w.heap.size w W := hb01.trans (hb1W.mono hb01.size)
  have hsz1 : W1.heap.size = w.heap.size + 1 := by rw [hW1]; simp
  have hT := box3_at (w := w) (W := W) (e := 37) (a := .int .i64 t.stages) (b := .slice aA lA cA) (c := .slice aB lB cB) (by rw [← hW1]; exact hb1W)
  have hF := box_at (w := W1) (W := W) (e := 30) (a := .int .i64 f.dim) (b := .slice adp lenp capp) (by rw [← hW]; exact Below.refl _ _)
  rw [hsz1] at hF
  have hfW : RdFld W (.agg #[.int .i64 f.dim, .slice adp lenp capp]) f := ⟨_, rfl, hI, rdMss_mono hb0 hp⟩
  have hxW := rdII_mono hb0 h1'
  have htW : RdTab W (.agg #[.int .i64 t.stages, .slice aA lA cA, .slice aB lB cB]) t := ⟨_, _, rfl, hIt, rdI_mono hb0 hA, rdI_mono hb0 hB⟩
  have HW := Lib.hid hW
  have HW1 := Lib.hid hW1
  have HL := Lib.hid hl
  have HTW := Lib.hid htW
  obtain ⟨hT0, hT1, hT2⟩ := hT
  obtain ⟨hF0, hF1, _, _⟩ := hF
  clear hW hW1 hx hl hsz1 hb01 hb1W
  cases hk : fpOkB f xs with
  | false =>
    have HN := Lib.hid (fun W hW => hnone W hW (by rw [hk]; rfl))
    clear hnone
    go_enter Tryz.func12, Tryz.ntmps12
    go_wp2_with fail
    rw [← HW1.out, ← HW.out]
    refine (fpOk_eq _ _ f xs W hfW hxW hfit hk).mono ?_
    rintro e w1 ⟨rfl, hb2⟩
    go_wp2
    go_ret
    exact HN.out _ (hb0.trans (hb2.mono hb0.size))
  | true =>
  cases hto : tabOkB t with
  | false =>
    have HN := Lib.hid (fun W hW => hnone W hW (by rw [hk, hto]; rfl))
    clear hnone
    go_enter Tryz.func12, Tryz.ntmps12
    go_wp2_with fail
    rw [← HW1.out, ← HW.out]
    refine (fpOk_eq _ _ f xs W hfW hxW hfit hk).mono ?_
    rintro e w1 ⟨rfl, hb2⟩
    have hT0a := cell_below hb2 hT0
    have hT1a := cell_below hb2 hT1
    have hT2a := cell_below hb2 hT2
    have hbw1 := hb0.trans (hb2.mono hb0.size)
    go_wp2_with fail
    refine (tabOk_eq _ t _ (rdTab_mono hb2 HTW.out) hto).mono ?_
    rintro e w2 ⟨rfl, hb3⟩
    go_wp2
    go_ret
    exact HN.out _ (hbw1.trans (hb3.mono hbw1.size))
  | true =>
    obtain ⟨n, f1, f2, f3, f4, f5, f6⟩ := fpOk_facts hk
    obtain ⟨q1, q2, q3, q4⟩ := pathOk_facts f6
    have htok := turn_ok f6
    rw [HL.out] at q1 q2 htok
    have hE : stepL t f xs = turnZ (atAll (turnZ xs n) (roundsZ f.parts (turnZ xs n) (rowZ t.A t.B.length) t.B.length (zAll t.B.length n len) len) t.B t.B.length) len := by
      rw [stepL, hk, hto, f1, HL.out]; simp
    have HE := Lib.hid hE
    have F1 := Lib.hid f1
    have F2 := Lib.hid f2
    have F5 := Lib.hid f5
    have Q3 := Lib.hid q3
    have TOK := Lib.hid htok
    have HK := Lib.hid hk
    have HTO := Lib.hid hto
    rw [f1] at hF0
    clear hE f1 f2 f5 f6 q3 q4 htok hnone hk hto
    go_enter Tryz.func12, Tryz.ntmps12
    go_wp2_with fail
    rw [← HW1.out, ← HW.out]
    refine (fpOk_eq _ _ f xs W hfW hxW hfit HK.out).mono ?_
    rintro e w1 ⟨rfl, hb2⟩
    have hT0a := cell_below hb2 hT0
    have hT1a := cell_below hb2 hT1
    have hT2a := cell_below hb2 hT2
    have hF0a := cell_below hb2 hF0
    have hF1a := cell_below hb2 hF1
    have HBW1 := Lib.hid (hb0.trans (hb2.mono hb0.size))
    have htW1 := rdTab_mono hb2 HTW.out
    clear hb2 hT0 hT1 hT2 hF0 hF1 hb0
    go_wp2_with fail
    refine (tabOk_eq _ t _ htW1 HTO.out).mono ?_
    rintro e w2 ⟨rfl, hb3⟩
    have hS0 : w2.cell? ⟨w.heap.size, 0, none⟩ = some (.int .i64 t.stages) ∧ w2.cell? ⟨w.heap.size, 1, none⟩ = some (.slice aA lA cA) ∧ w2.cell? ⟨w.heap.size, 2, none⟩ = some (.slice aB lB cB) ∧ w2.cell? ⟨w.heap.size + 1, 0, none⟩ = some (.int .i64 (n : Int)) ∧ w2.cell? ⟨w.heap.size + 1, 1, none⟩ = some (.slice adp lenp capp) :=
      ⟨cell_below hb3 hT0a, cell_below hb3 hT1a, cell_below hb3 hT2a, cell_below hb3 hF0a, cell_below hb3 hF1a⟩
    have HS0 := Lib.hid hS0
    have HBW2 := Lib.hid (HBW1.out.trans (hb3.mono HBW1.out.size))
    have HS := Lib.hid (fun (x : World) (hx : Below w2.heap.size w2 x) => show x.cell? ⟨w.heap.size, 0, none⟩ = some (.int .i64 t.stages) ∧ x.cell? ⟨w.heap.size, 1, none⟩ = some (.slice aA lA cA) ∧ x.cell? ⟨w.heap.size, 2, none⟩ = some (.slice aB lB cB) ∧ x.cell? ⟨w.heap.size + 1, 0, none⟩ = some (.int .i64 (n : Int)) ∧ x.cell? ⟨w.heap.size + 1, 1, none⟩ = some (.slice adp lenp capp) from
      ⟨cell_below hx HS0.out.1, cell_below hx HS0.out.2.1, cell_below hx HS0.out.2.2.1, cell_below hx HS0.out.2.2.2.1, cell_below hx HS0.out.2.2.2.2⟩)
    have hdr : Below w2.heap.size w2 w2.drew := (Below.refl _ _).drew
    have hal : Below w2.heap.size w2 ((w2.alloc (.cells #[.int .i64 t.stages, .slice aA lA cA, .slice aB lB cB] 37)).drew) := ((Below.refl _ _).alloc (Nat.le_refl _) _).drew
    have JX := Lib.hid (fun (x : World) (hx : Below w2.heap.size w2 x) => jets_at (.slice ad1 len cap) xs n (n : Int) x rfl (rdII_mono (HBW2.out.trans (hx.mono HBW2.out.size)) h1') (by omega) (by rw [HL.out]; exact q2) Q3.out)
    have RP := Lib.hid (fun (x : World) (b : Nat) (hx : Below w2.heap.size w2 x) (hc : x.cell? ⟨b, 0, none⟩ = some (.int .i64 t.stages) ∧ x.cell? ⟨b, 1, none⟩ = some (.slice aA lA cA) ∧ x.cell? ⟨b, 2, none⟩ = some (.slice aB lB cB)) =>
      repeat_any b 1 n t [.int .i64 t.stages, .slice aA lA cA, .slice aB lB cB] x rfl (by simp [Value.oneCell']) (three_cells hc) ⟨_, _, rfl, hIt, rdI_mono (HBW2.out.trans (hx.mono HBW2.out.size)) hA, rdI_mono (HBW2.out.trans (hx.mono HBW2.out.size)) hB⟩ (Nat.le_refl _) f3 f4 (by decide))
    have SJ := Lib.hid (fun (x : World) (vo vy : Value) (hx : Below w2.heap.size w2 x) (ho : RdTabs x vo (List.replicate n t)) (hy : RdII x vy (turnZ xs n)) =>
      stepJets_any vo (.agg #[.int .i64 (n : Int), .slice adp lenp capp]) vy t f (turnZ xs n) n len x ho ⟨_, by rw [F1.out], F1.out ▸ hI, rdMss_mono (HBW2.out.trans (hx.mono HBW2.out.size)) hp⟩ hy HTO.out F2.out F5.out f3 f4 q1 q2 (turnZ_len _ _) TOK.out)
    clear hT0a hT1a hT2a hF0a hF1a hS0 hb3 htW1 hfW hxW
    go_wp2
    go_region_held3 (fun w' => w'.cell? ⟨w.heap.size, 0, none⟩ = some (.int .i64 t.stages) ∧ w'.cell? ⟨w.heap.size, 1, none⟩ = some (.slice aA lA cA) ∧ w'.cell? ⟨w.heap.size, 2, none⟩ = some (.slice aB lB cB) ∧ w'.cell? ⟨w.heap.size + 1, 0, none⟩ = some (.int .i64 (n : Int)) ∧ w'.cell? ⟨w.heap.size + 1, 1, none⟩ = some (.slice adp lenp capp)) (first | exact HS.out _ hdr | exact HS.out _ hal | exact HS.out _ hBF | exact HS.out _ hra | exact HS.out _ hrb | exact HS.out _ hbq | exact HS.out _ hbs | exact HS.out _ hbp) (first
      | (go_at_call 61; first | ((with_reducible refine (JX.out _ hra).mono ?_); rintro e wb ⟨pj, fpj, rfl, hopj, hfpj, hbb⟩; have hBF := hra.trans (hbb.mono hra.size); have hTF := rdTabs_mono hbb hta; have hYF := ownII_rd hopj) | ((with_reducible refine (JX.out _ hal).mono ?_); rintro e wb ⟨pj, fpj, rfl, hopj, hfpj, hbb⟩; have hrb := hal.trans (hbb.mono hal.size); have hbx := box3_at (w := w2) (e := 37) (a := .int .i64 t.stages) (b := .slice aA lA cA) (c := .slice aB lB cB) (((Below.refl _ _).drew).trans (hbb.mono (Nat.le_refl _))); have hYp := ownII_rd hopj) | ((with_reducible refine (JX.out _ hdr).mono ?_); rintro e wb ⟨pj, fpj, rfl, hopj, hfpj, hbb⟩; have hrb := hdr.trans (hbb.mono hdr.size); have hYp := ownII_rd hopj))
      | (go_at_call 60; first | ((with_reducible refine (RP.out _ _ hrb hbx).mono ?_); rintro e wa ⟨pt, rfl, hta, hba⟩; have hBF := hrb.trans (hba.mono hrb.size); have hTF := hta; have hYF := rdII_mono hba hYp) | ((with_reducible refine (RP.out _ wb.heap.size (hrb.alloc hrb.size _) (box3_at (w := wb) (Below.refl _ _))).mono ?_); rintro e wa ⟨pt, rfl, hta, hba⟩; have hBF := (hrb.alloc hrb.size _).trans (hba.mono (hrb.alloc hrb.size _).size); have hTF := hta; have hYF := rdII_mono (((Below.refl wb.heap.size wb).alloc (Nat.le_refl _) _).trans (hba.mono (by simp))) hYp) | ((with_reducible refine (RP.out _ w2.heap.size hal (box3_at (w := w2) ((Below.refl _ _).drew))).mono ?_); rintro e wa ⟨pt, rfl, hta, hba⟩; have hra := hal.trans (hba.mono hal.size)))
      | (go_at_call 59; (with_reducible refine (SJ.out _ _ _ hBF hTF hYF).mono ?_); rintro e ws ⟨ps, rfl, hrs, hbs0⟩; have hbs := hBF.trans (hbs0.mono hBF.size))
      | (go_at_call 58; (with_reducible refine (points_at _ _ len _ _ rfl hrs (by omega) (by rw [atAll_len, turnZ_len]; omega) (atAll_row TOK.out _ _ _)).mono ?_); rintro e wp ⟨pp, fpp, rfl, hopp, hfpp, hbp0⟩; have hbp := hbs.trans (hbp0.mono hbs.size)))
    all_goals (
      have hF := HBW2.out.trans (hbp.mono HBW2.out.size)
      have HP := Lib.hid hopp
      have HFP := Lib.hid (show ∀ b ∈ fpp, w.heap.size ≤ b from fun b hb => by have h1 := hfpp b hb; have h2 := hbs.size; have h3 := HBW2.out.size; omega)
      have HBF := Lib.hid hF
      obtain ⟨adz, lz, cz, rfl, _, _, _, _⟩ := rdS_open (ownII_rd hopp)
      clear hopp hfpp hF
      go_wp2
      go_ret
      exact ⟨_, fpp, rfl, by rw [HE.out]; exact HP.out, HFP.out, HBF.out⟩)
end Go.Proofs.YtbcjhpgkodeoeaaGreatDoor

/- Symplectic steps of the tangents of a polynomial's field keep the form, and so do exact ones; for lists of numbers. Plain: no program's step stands here. -/
namespace Go.Proofs.YtbcjhpgkodeoeaaGreatDoor
open Go.RowKit Go.Sort

/-- a path that begins in one point and does not move -/
def still (yA : List Int) (M : Nat) : List (List Int) := yA :: List.replicate M (List.replicate 4 0)
theorem still_len (yA : List Int) (M : Nat) : (still yA M).length = M + 1 := by simp [still]
theorem still_at (yA : List Int) (M k : Nat) (i : Nat) : atZ (atL (still yA M) k) i = if k = 0 then atZ yA i else 0 := by
  cases k with
  | zero => rfl
  | succ k =>
    rw [if_neg (by omega)]
    show atZ ((List.replicate M (List.replicate 4 0))[k]?.getD []) i = 0
    rw [List.getElem?_replicate]
    split
    · exact atZ_rep _ _
    · rfl
theorem col_still (yA : List Int) (M i : Nat) : se (colZ (still yA M) i) = on (atZ yA i) := by
  funext k
  show atZ (colZ (still yA M) i) k = _
  by_cases hk : k < (still yA M).length
  · rw [col_at hk, still_at]
    rfl
  · unfold atZ on
    rw [List.getElem?_eq_none (by rw [colZ_len]; omega), if_neg (by rw [still_len] at hk; omega)]
    rfl
theorem vse_turn {X : List (List Int)} {n i : Nat} (h : i < n) : vse (turnZ X n) i = se (colZ X i) := by
  unfold vse
  rw [turn_at h]
/-- the tangents of a path -/
def tanT (X : List (List Int)) : List (List Int) := X.map fun y => y.drop 2
theorem tanT_len (X : List (List Int)) : (tanT X).length = X.length := List.length_map _
theorem col_tanT (X : List (List Int)) (i : Nat) : colZ (tanT X) i = colZ X (2 + i) := by
  simp only [tanT, colZ, List.map_map]
  refine List.map_congr_left fun y _ => ?_
  show (y.drop 2)[i]?.getD 0 = y[2 + i]?.getD 0
  rw [List.getElem?_drop]
/-- N rows of four numbers -/
def Row4 (N : Nat) (X : List (List Int)) : Prop := X.length = N ∧ ∀ y ∈ X, y.length = 4 ∧ Nums y
theorem row4_tan {N : Nat} {X : List (List Int)} (h : Row4 N X) : ∀ y ∈ tanT X, y.length = 2 ∧ Nums y := fun y hy => by
  obtain ⟨x, hx, rfl⟩ := List.mem_map.1 hy
  obtain ⟨h1, h2⟩ := h.2 x hx
  exact ⟨by rw [List.length_drop, h1], fun z hz => h2 z (List.mem_of_mem_drop hz)⟩
theorem row4_hd {N : Nat} {X : List (List Int)} (h : Row4 N X) (h1 : 1 ≤ N) : hdL (tanT X) = 2 := by
  cases X with
  | nil => have := h.1; simp at this; omega
  | cons x X =>
    show (x.drop 2).length = 2
    rw [List.length_drop, (h.2 x (by simp)).1]
theorem row4_ok {N : Nat} {X : List (List Int)} (h : Row4 N X) (h1 : 1 ≤ N) (h7 : N ≤ 7) : pathOkB (tanT X) 2 = true := by
  rw [pathOkB_all (by rw [tanT_len, h.1]; exact h1) (by rw [tanT_len, h.1]; exact h7), List.all_eq_true]
  intro y hy
  obtain ⟨e1, e2⟩ := row4_tan h y hy
  simp only [rowOkB, e1, List.all_eq_true]
  refine Bool.and_eq_true_iff.2 ⟨by decide, List.all_eq_true.2 fun z hz => ?_⟩
  have := e2 z hz
  simp [isNumB]; omega
theorem sf_yes {N : Nat} {X Y : List (List Int)} (hX : Row4 N X) (hY : Row4 N Y) (h1 : 1 ≤ N) (h7 : N ≤ 7) : sfOkB (tanT X) (tanT Y) = true := by
  unfold sfOkB
  rw [row4_hd hX h1]
  have e1 := row4_ok hX h1 h7
  have e2 := row4_ok hY h1 h7
  have e3 : decide ((tanT X).length ≠ 0 ∧ (tanT X).length = (tanT Y).length) = true := by
    rw [tanT_len, tanT_len, hX.1, hY.1]
    simp; omega
  rw [e3]
  simp [e1, e2]
theorem sf_len {N : Nat} {X Y : List (List Int)} (hX : Row4 N X) (hY : Row4 N Y) (h1 : 1 ≤ N) (h7 : N ≤ 7) : (sympFormL (tanT X) (tanT Y)).length = N ∧ Nums (sympFormL (tanT X) (tanT Y)) := by
  rw [sympFormL, if_pos (sf_yes hX hY h1 h7)]
  exact ⟨by rw [sfZ_len, tanT_len, hX.1], sfZ_nums _ _ _ _⟩
theorem sf_ser {N : Nat} {X Y : List (List Int)} (hX : Row4 N X) (hY : Row4 N Y) (h1 : 1 ≤ N) (h7 : N ≤ 7) :
    Sm N (se (sympFormL (tanT X) (tanT Y))) (fun k => cv (se (colZ X 2)) (se (colZ Y 3)) k - cv (se (colZ X 3)) (se (colZ Y 2)) k) := by
  rw [sympFormL, if_pos (sf_yes hX hY h1 h7), row4_hd hX h1]
  show Sm N (se (sfStep (tanT X) (tanT Y) 1 (List.replicate (tanT X).length 0) 0)) _
  rw [sfStep, col_tanT, col_tanT, col_tanT, col_tanT]
  have hl : (tanT X).length = N := by rw [tanT_len, hX.1]
  have a1 := se_add (addJ (List.replicate (tanT X).length 0) (mulZ (colZ X (2 + 0)) (colZ Y (2 + (1 + 0)))) 1) (mulZ (colZ X (2 + (1 + 0))) (colZ Y (2 + 0))) (-1)
  have a2 := se_add (List.replicate (tanT X).length 0) (mulZ (colZ X (2 + 0)) (colZ Y (2 + (1 + 0)))) 1
  have a3 := se_mul (colZ X (2 + 0)) (colZ Y (2 + (1 + 0)))
  have a4 := se_mul (colZ X (2 + (1 + 0))) (colZ Y (2 + 0))
  rw [addJ_len, List.length_replicate, hl] at a1
  rw [List.length_replicate, hl] at a2
  rw [colZ_len, hX.1] at a3 a4
  intro k hk
  rw [hl]
  have b1 := a1 k hk
  have b2 := a2 k hk
  have b3 := a3 k hk
  have b4 := a4 k hk
  have b0 : se (List.replicate N 0) k = 0 := atZ_rep N k
  have c1 := res_add (res_add (rfl : resZ (se (List.replicate N 0) k) = _) (res_mul (c := 1) b3)) (res_mul (c := -1) b4)
  refine b1.trans ?_
  show resZ (se _ k + -1 * se _ k) = _
  have d1 : resZ (se (addJ (List.replicate N 0) (mulZ (colZ X (2 + 0)) (colZ Y (2 + (1 + 0)))) 1) k) = resZ (se (List.replicate N 0) k + 1 * se (mulZ (colZ X (2 + 0)) (colZ Y (2 + (1 + 0)))) k) := b2
  refine (res_add d1 rfl).trans (c1.trans ?_)
  rw [b0]
  congr 1
  show 0 + 1 * cv (se (colZ X 2)) (se (colZ Y 3)) k + -1 * cv (se (colZ X 3)) (se (colZ Y 2)) k = cv (se (colZ X 2)) (se (colZ Y 3)) k - cv (se (colZ X 3)) (se (colZ Y 2)) k
  omega
theorem nums_ext {N : Nat} {a b : List Int} (ha : a.length = N) (hb : b.length = N) (na : Nums a) (nb : Nums b) (h : Sm N (se a) (se b)) : a = b := by
  refine List.ext_getElem? fun k => ?_
  by_cases hk : k < N
  · have h1 := h k hk
    have h2 := numsZ_at na k
    have h3 := numsZ_at nb k
    have h4 : atZ a k = atZ b k := by
      have h5 : resZ (atZ a k) = resZ (atZ b k) := h1
      rwa [res_num h2, res_num h3] at h5
    unfold atZ at h4
    rw [List.getElem?_eq_getElem (by omega), List.getElem?_eq_getElem (by omega)] at h4 ⊢
    exact congrArg some h4
  · rw [List.getElem?_eq_none (by omega), List.getElem?_eq_none (by omega)]
end Go.Proofs.YtbcjhpgkodeoeaaGreatDoor
