/- The texts Step, FormL, FormT, GauT, ParP, ParN, ParD, ParC, ParW in one: each says at its head what it proves. Conditions: as said there. -/
import Derived.Lib.SplitLaws
import Derived.Test.YtbcjhpgkodeoeaaGreatDoorN40
import Derived.Test.YtbcjhpgkodeoeaaGreatDoorN38
import Derived.Test.YtbcjhpgkodeoeaaGreatDoorN29
import Derived.Test.YtbcjhpgkodeoeaaGreatDoorN26
import Derived.Test.YtbcjhpgkodeoeaaGreatDoorN31
import Derived.Test.YtbcjhpgkodeoeaaGreatDoorN19
import Derived.Test.YtbcjhpgkodeoeaaGreatDoorN02
set_option linter.unusedSimpArgs false
set_option linter.unusedVariables false
/- StepAlong of the program. Conditions: lengths of slices up to 2^20. -/
namespace Go.Proofs.YtbcjhpgkodeoeaaGreatDoor
open Go.RowKit Go.Sort

def stepL (t : TabZ) (f : FldZ) (xs : List (List Int)) : List (List Int) :=
  if fpOkB f xs && tabOkB t then turnZ (atAll (turnZ xs f.dim.toNat) (roundsZ f.parts (turnZ xs f.dim.toNat) (rowZ t.A t.B.length) t.B.length (zAll t.B.length f.dim.toNat xs.length) xs.length) t.B t.B.length) xs.length else []
theorem box3_at {w W : World} {e : Nat} {a b c : Value} (hb : Below (w.alloc (.cells #[a, b, c] e)).heap.size (w.alloc (.cells #[a, b, c] e)) W) : W.cell? ⟨w.heap.size, 0, none⟩ = some a ∧ W.cell? ⟨w.heap.size, 1, none⟩ = some b ∧ W.cell? ⟨w.heap.size, 2, none⟩ = some c := by
  have hlt : w.heap.size < (w.alloc (.cells #[a, b, c] e)).heap.size := by simp
  refine ⟨(hb.cell (p := ⟨w.heap.size, 0, none⟩) hlt).trans ?_, (hb.cell (p := ⟨w.heap.size, 1, none⟩) hlt).trans ?_, (hb.cell (p := ⟨w.heap.size, 2, none⟩) hlt).trans ?_⟩ <;> simp
theorem three_cells {w : World} {b : Nat} {a c d : Value} (h : w.cell? ⟨b, 0, none⟩ = some a ∧ w.cell? ⟨b, 1, none⟩ = some c ∧ w.cell? ⟨b, 2, none⟩ = some d) : ∀ (j : Nat) v, [a, c, d][j]? = some v → w.cell? ⟨b, j, none⟩ = some v := by
  intro j v hj
  match j, hj with
  | 0, hj => simp at hj; rw [← hj]; exact h.1
  | 1, hj => simp at hj; rw [← hj]; exact h.2.1
  | 2, hj => simp at hj; rw [← hj]; exact h.2.2

theorem atAll_row {ys : List (List Int)} {size : Nat} (h : AllJ size ys) (vals : List (List (List Int))) (row : List Int) (st : Nat) : ∀ z ∈ atAll ys vals row st, z.length = size := fun z hz => by
  have := atAll_ok h vals row st
  exact (this z hz).1

set_option maxRecDepth 100000 in
set_option maxHeartbeats 6400000 in
theorem step_any (vt vf vx : Value) (t : TabZ) (f : FldZ) (xs : List (List Int)) (w : World) (ht : RdTab w vt t) (hf : RdFld w vf f) (hx : RdII w vx xs) (hfit : ∀ p ∈ f.parts, ∀ m ∈ p, Fit_Mon m) :
    Calls Tryz.prog 12 #[vt, vf, vx] w (Gives (fun w' v fp => OwnII 35 3 w' v (stepL t f xs) fp) w) := by
  have hnone : ∀ W, Below w.heap.size w W → (fpOkB f xs && tabOkB t) = false → Gives (fun w' v fp => OwnII 35 3 w' v (stepL t f xs) fp) w (.returned (.slice none 0 0)) W := by
    intro W hW hd
    refine ⟨_, [], rfl, ?_, by simp, hW⟩
    rw [stepL, hd]
    exact ⟨[], [], World.ownsRow_nil _ _ _ _, by simp, rfl, rfl, by simp⟩
  obtain ⟨vA, vB, rfl, hIt, hA, hB⟩ := ht
  obtain ⟨vP, rfl, hI, hp⟩ := hf
  obtain ⟨ad1, len, cap, rfl, hl, hlc1, hcm1, h1'⟩ := rdS_open hx
  obtain ⟨adp, lenp, capp, rfl⟩ := rdMss_slice hp
  obtain ⟨aA, lA, cA, rfl⟩ := rdI_slice hA
  obtain ⟨aB, lB, cB, rfl⟩ := rdI_slice hB
  obtain ⟨W1, hW1⟩ : ∃ W, W = w.alloc (.cells #[.int .i64 t.stages, .slice aA lA cA, .slice aB lB cB] 37) := ⟨_, rfl⟩
  obtain ⟨W, hW⟩ : ∃ W, W = W1.alloc (.cells #[.int .i64 f.dim, .slice adp lenp capp] 30) := ⟨_, rfl⟩
  have hb01 : Below w.heap.size w W1 := hW1 ▸ (Below.refl _ _).alloc (Nat.le_refl _) _
  have hb1W : Below W1.heap.size W1 W := hW ▸ (Below.refl _ _).alloc (Nat.le_refl _) _
  have hb0 : Below w.heap.size w W := hb01.trans (hb1W.mono hb01.size)
  have hsz1 : W1.heap.size = w.heap.size + 1 := by rw [hW1]; simp
  have hT := box3_at (w := w) (W := W) (e := 37) (a := .int .i64 t.stages) (b := .slice aA lA cA) (c := .slice aB lB cB) (by rw [← hW1]; exact hb1W)
  have hF := box_at (w := W1) (W := W) (e := 30) (a := .int .i64 f.dim) (b := .slice adp lenp capp) (by rw [← hW]; exact Below.refl _ _)
  rw [hsz1] at hF
  have hfW : RdFld W (.agg #[.int .i64 f.dim, .slice adp lenp capp]) f := ⟨_, rfl, hI, rdMss_mono hb0 hp⟩
  have hxW := rdII_mono hb0 h1'
  have htW : RdTab W (.agg #[.int .i64 t.stages, .slice aA lA cA, .slice aB lB cB]) t := ⟨_, _, rfl, hIt, rdI_mono hb0 hA, rdI_mono hb0 hB⟩
  have HW := Lib.hid hW
  have HW1 := Lib.hid hW1
  have HL := Lib.hid hl
  have HTW := Lib.hid htW
  obtain ⟨hT0, hT1, hT2⟩ := hT
  obtain ⟨hF0, hF1, _, _⟩ := hF
  clear hW hW1 hx hl hsz1 hb01 hb1W
  cases hk : fpOkB f xs with
  | false =>
    have HN := Lib.hid (fun W hW => hnone W hW (by rw [hk]; rfl))
    clear hnone
    go_enter Tryz.func12, Tryz.ntmps12
    go_wp2_with fail
    rw [← HW1.out, ← HW.out]
    refine (fpOk_eq _ _ f xs W hfW hxW hfit hk).mono ?_
    rintro e w1 ⟨rfl, hb2⟩
    go_wp2
    go_ret
    exact HN.out _ (hb0.trans (hb2.mono hb0.size))
  | true =>
  cases hto : tabOkB t with
  | false =>
    have HN := Lib.hid (fun W hW => hnone W hW (by rw [hk, hto]; rfl))
    clear hnone
    go_enter Tryz.func12, Tryz.ntmps12
    go_wp2_with fail
    rw [← HW1.out, ← HW.out]
    refine (fpOk_eq _ _ f xs W hfW hxW hfit hk).mono ?_
    rintro e w1 ⟨rfl, hb2⟩
    have hT0a := cell_below hb2 hT0
    have hT1a := cell_below hb2 hT1
    have hT2a := cell_below hb2 hT2
    have hbw1 := hb0.trans (hb2.mono hb0.size)
    go_wp2_with fail
    refine (tabOk_eq _ t _ (rdTab_mono hb2 HTW.out) hto).mono ?_
    rintro e w2 ⟨rfl, hb3⟩
    go_wp2
    go_ret
    exact HN.out _ (hbw1.trans (hb3.mono hbw1.size))
  | true =>
    obtain ⟨n, f1, f2, f3, f4, f5, f6⟩ := fpOk_facts hk
    obtain ⟨q1, q2, q3, q4⟩ := pathOk_facts f6
    have htok := turn_ok f6
    rw [HL.out] at q1 q2 htok
    have hE : stepL t f xs = turnZ (atAll (turnZ xs n) (roundsZ f.parts (turnZ xs n) (rowZ t.A t.B.length) t.B.length (zAll t.B.length n len) len) t.B t.B.length) len := by
      rw [stepL, hk, hto, f1, HL.out]; simp
    have HE := Lib.hid hE
    have F1 := Lib.hid f1
    have F2 := Lib.hid f2
    have F5 := Lib.hid f5
    have Q3 := Lib.hid q3
    have TOK := Lib.hid htok
    have HK := Lib.hid hk
    have HTO := Lib.hid hto
    rw [f1] at hF0
    clear hE f1 f2 f5 f6 q3 q4 htok hnone hk hto
    go_enter Tryz.func12, Tryz.ntmps12
    go_wp2_with fail
    rw [← HW1.out, ← HW.out]
    refine (fpOk_eq _ _ f xs W hfW hxW hfit HK.out).mono ?_
    rintro e w1 ⟨rfl, hb2⟩
    have hT0a := cell_below hb2 hT0
    have hT1a := cell_below hb2 hT1
    have hT2a := cell_below hb2 hT2
    have hF0a := cell_below hb2 hF0
    have hF1a := cell_below hb2 hF1
    have HBW1 := Lib.hid (hb0.trans (hb2.mono hb0.size))
    have htW1 := rdTab_mono hb2 HTW.out
    clear hb2 hT0 hT1 hT2 hF0 hF1 hb0
    go_wp2_with fail
    refine (tabOk_eq _ t _ htW1 HTO.out).mono ?_
    rintro e w2 ⟨rfl, hb3⟩
    have hS0 : w2.cell? ⟨w.heap.size, 0, none⟩ = some (.int .i64 t.stages) ∧ w2.cell? ⟨w.heap.size, 1, none⟩ = some (.slice aA lA cA) ∧ w2.cell? ⟨w.heap.size, 2, none⟩ = some (.slice aB lB cB) ∧ w2.cell? ⟨w.heap.size + 1, 0, none⟩ = some (.int .i64 (n : Int)) ∧ w2.cell? ⟨w.heap.size + 1, 1, none⟩ = some (.slice adp lenp capp) :=
      ⟨cell_below hb3 hT0a, cell_below hb3 hT1a, cell_below hb3 hT2a, cell_below hb3 hF0a, cell_below hb3 hF1a⟩
    have HS0 := Lib.hid hS0
    have HBW2 := Lib.hid (HBW1.out.trans (hb3.mono HBW1.out.size))
    have HS := Lib.hid (fun (x : World) (hx : Below w2.heap.size w2 x) => show x.cell? ⟨w.heap.size, 0, none⟩ = some (.int .i64 t.stages) ∧ x.cell? ⟨w.heap.size, 1, none⟩ = some (.slice aA lA cA) ∧ x.cell? ⟨w.heap.size, 2, none⟩ = some (.slice aB lB cB) ∧ x.cell? ⟨w.heap.size + 1, 0, none⟩ = some (.int .i64 (n : Int)) ∧ x.cell? ⟨w.heap.size + 1, 1, none⟩ = some (.slice adp lenp capp) from
      ⟨cell_below hx HS0.out.1, cell_below hx HS0.out.2.1, cell_below hx HS0.out.2.2.1, cell_below hx HS0.out.2.2.2.1, cell_below hx HS0.out.2.2.2.2⟩)
    have hdr : Below w2.heap.size w2 w2.drew := (Below.refl _ _).drew
    have hal : Below w2.heap.size w2 ((w2.alloc (.cells #[.int .i64 t.stages, .slice aA lA cA, .slice aB lB cB] 37)).drew) := ((Below.refl _ _).alloc (Nat.le_refl _) _).drew
    have JX := Lib.hid (fun (x : World) (hx : Below w2.heap.size w2 x) => jets_at (.slice ad1 len cap) xs n (n : Int) x rfl (rdII_mono (HBW2.out.trans (hx.mono HBW2.out.size)) h1') (by omega) (by rw [HL.out]; exact q2) Q3.out)
    have RP := Lib.hid (fun (x : World) (b : Nat) (hx : Below w2.heap.size w2 x) (hc : x.cell? ⟨b, 0, none⟩ = some (.int .i64 t.stages) ∧ x.cell? ⟨b, 1, none⟩ = some (.slice aA lA cA) ∧ x.cell? ⟨b, 2, none⟩ = some (.slice aB lB cB)) =>
      repeat_any b 1 n t [.int .i64 t.stages, .slice aA lA cA, .slice aB lB cB] x rfl (by simp [Value.oneCell']) (three_cells hc) ⟨_, _, rfl, hIt, rdI_mono (HBW2.out.trans (hx.mono HBW2.out.size)) hA, rdI_mono (HBW2.out.trans (hx.mono HBW2.out.size)) hB⟩ (Nat.le_refl _) f3 f4 (by decide))
    have SJ := Lib.hid (fun (x : World) (vo vy : Value) (hx : Below w2.heap.size w2 x) (ho : RdTabs x vo (List.replicate n t)) (hy : RdII x vy (turnZ xs n)) =>
      stepJets_any vo (.agg #[.int .i64 (n : Int), .slice adp lenp capp]) vy t f (turnZ xs n) n len x ho ⟨_, by rw [F1.out], F1.out ▸ hI, rdMss_mono (HBW2.out.trans (hx.mono HBW2.out.size)) hp⟩ hy HTO.out F2.out F5.out f3 f4 q1 q2 (turnZ_len _ _) TOK.out)
    clear hT0a hT1a hT2a hF0a hF1a hS0 hb3 htW1 hfW hxW
    go_wp2
    go_region_held3 (fun w' => w'.cell? ⟨w.heap.size, 0, none⟩ = some (.int .i64 t.stages) ∧ w'.cell? ⟨w.heap.size, 1, none⟩ = some (.slice aA lA cA) ∧ w'.cell? ⟨w.heap.size, 2, none⟩ = some (.slice aB lB cB) ∧ w'.cell? ⟨w.heap.size + 1, 0, none⟩ = some (.int .i64 (n : Int)) ∧ w'.cell? ⟨w.heap.size + 1, 1, none⟩ = some (.slice adp lenp capp)) (first | exact HS.out _ hdr | exact HS.out _ hal | exact HS.out _ hBF | exact HS.out _ hra | exact HS.out _ hrb | exact HS.out _ hbq | exact HS.out _ hbs | exact HS.out _ hbp) (first
      | (go_at_call 61; first | ((with_reducible refine (JX.out _ hra).mono ?_); rintro e wb ⟨pj, fpj, rfl, hopj, hfpj, hbb⟩; have hBF := hra.trans (hbb.mono hra.size); have hTF := rdTabs_mono hbb hta; have hYF := ownII_rd hopj) | ((with_reducible refine (JX.out _ hal).mono ?_); rintro e wb ⟨pj, fpj, rfl, hopj, hfpj, hbb⟩; have hrb := hal.trans (hbb.mono hal.size); have hbx := box3_at (w := w2) (e := 37) (a := .int .i64 t.stages) (b := .slice aA lA cA) (c := .slice aB lB cB) (((Below.refl _ _).drew).trans (hbb.mono (Nat.le_refl _))); have hYp := ownII_rd hopj) | ((with_reducible refine (JX.out _ hdr).mono ?_); rintro e wb ⟨pj, fpj, rfl, hopj, hfpj, hbb⟩; have hrb := hdr.trans (hbb.mono hdr.size); have hYp := ownII_rd hopj))
      | (go_at_call 60; first | ((with_reducible refine (RP.out _ _ hrb hbx).mono ?_); rintro e wa ⟨pt, rfl, hta, hba⟩; have hBF := hrb.trans (hba.mono hrb.size); have hTF := hta; have hYF := rdII_mono hba hYp) | ((with_reducible refine (RP.out _ wb.heap.size (hrb.alloc hrb.size _) (box3_at (w := wb) (Below.refl _ _))).mono ?_); rintro e wa ⟨pt, rfl, hta, hba⟩; have hBF := (hrb.alloc hrb.size _).trans (hba.mono (hrb.alloc hrb.size _).size); have hTF := hta; have hYF := rdII_mono (((Below.refl wb.heap.size wb).alloc (Nat.le_refl _) _).trans (hba.mono (by simp))) hYp) | ((with_reducible refine (RP.out _ w2.heap.size hal (box3_at (w := w2) ((Below.refl _ _).drew))).mono ?_); rintro e wa ⟨pt, rfl, hta, hba⟩; have hra := hal.trans (hba.mono hal.size)))
      | (go_at_call 59; (with_reducible refine (SJ.out _ _ _ hBF hTF hYF).mono ?_); rintro e ws ⟨ps, rfl, hrs, hbs0⟩; have hbs := hBF.trans (hbs0.mono hBF.size))
      | (go_at_call 58; (with_reducible refine (points_at _ _ len _ _ rfl hrs (by omega) (by rw [atAll_len, turnZ_len]; omega) (atAll_row TOK.out _ _ _)).mono ?_); rintro e wp ⟨pp, fpp, rfl, hopp, hfpp, hbp0⟩; have hbp := hbs.trans (hbp0.mono hbs.size)))
    all_goals (
      have hF := HBW2.out.trans (hbp.mono HBW2.out.size)
      have HP := Lib.hid hopp
      have HFP := Lib.hid (show ∀ b ∈ fpp, w.heap.size ≤ b from fun b hb => by have h1 := hfpp b hb; have h2 := hbs.size; have h3 := HBW2.out.size; omega)
      have HBF := Lib.hid hF
      obtain ⟨adz, lz, cz, rfl, _, _, _, _⟩ := rdS_open (ownII_rd hopp)
      clear hopp hfpp hF
      go_wp2
      go_ret
      exact ⟨_, fpp, rfl, by rw [HE.out]; exact HP.out, HFP.out, HBF.out⟩)
end Go.Proofs.YtbcjhpgkodeoeaaGreatDoor

/- Symplectic steps of the tangents of a polynomial's field keep the form, and so do exact ones; for lists of numbers. Plain: no program's step stands here. -/
namespace Go.Proofs.YtbcjhpgkodeoeaaGreatDoor
open Go.RowKit Go.Sort

theorem vse_turn {X : List (List Int)} {n i : Nat} (h : i < n) : vse (turnZ X n) i = se (colZ X i) := by
  unfold vse
  rw [turn_at h]
theorem nums_ext {N : Nat} {a b : List Int} (ha : a.length = N) (hb : b.length = N) (na : Nums a) (nb : Nums b) (h : Sm N (se a) (se b)) : a = b := by
  refine List.ext_getElem? fun k => ?_
  by_cases hk : k < N
  · have h1 := h k hk
    have h2 := numsZ_at na k
    have h3 := numsZ_at nb k
    have h4 : atZ a k = atZ b k := by
      have h5 : resZ (atZ a k) = resZ (atZ b k) := h1
      rwa [res_num h2, res_num h3] at h5
    unfold atZ at h4
    rw [List.getElem?_eq_getElem (by omega), List.getElem?_eq_getElem (by omega)] at h4 ⊢
    exact congrArg some h4
  · rw [List.getElem?_eq_none (by omega), List.getElem?_eq_none (by omega)]
end Go.Proofs.YtbcjhpgkodeoeaaGreatDoor

/- Symplectic steps of the tangents of a polynomial's field keep the form, and so do exact ones: what the law FnFormKept compares. Plain: no program's step stands here. -/
namespace Go.Proofs.YtbcjhpgkodeoeaaGreatDoor
open Go.RowKit Go.Sort

theorem col_turn {M : List (List Int)} {N i : Nat} (hi : i < M.length) : Sm N (se (colZ (turnZ M N) i)) (vse M i) := fun k hk => by
  show resZ (atZ (colZ (turnZ M N) i) k) = resZ (atZ (atL M i) k)
  rw [col_at (by rw [turnZ_len]; exact hk), turn_at hk, col_at hi]
theorem zAll_cube (st n N : Nat) : Cube st n N (zAll st n N) := by
  refine ⟨by simp [zAll], fun s i hs hi => ?_⟩
  simp [atLL, atL, zAll, zRow, zJ, hs, hi]

/-- the two parts of the field -/
def hamQ (h : List MonZ) (i : Nat) : List MonZ := if i = 0 then partL 1 1 h else partL 0 (-1) h
structure TanOk (h : List MonZ) (g : FldZ) : Prop where
  dim : g.dim = 4
  parts : g.parts = tanP 2 [partL 1 1 h, partL 0 (-1) h]
  len : g.parts.length = 4
  fine : ∀ p ∈ g.parts, ∀ m ∈ p, MonFine 4 m
  fine2 : ∀ p ∈ [partL 1 1 h, partL 0 (-1) h], ∀ m ∈ p, MonFine 2 m
  ok : fldOkB g = true
theorem TanOk.base {h : List MonZ} {g : FldZ} (H : TanOk h g) (Y : Vec) {i : Nat} (hi : i < 2) : (∃ q, g.parts[i]? = some q ∧ pv Y q = pv Y (hamQ h i)) ∧ ∃ q, g.parts[2 + i]? = some q ∧ ∀ N, Sm N (pv Y q) (ssum (fun j => cv (pv Y (partL j 1 (hamQ h i))) (Y (2 + j))) 2) := by
  rw [H.parts]
  have hj : [partL 1 1 h, partL 0 (-1) h][i]? = some (hamQ h i) := by
    have : i = 0 ∨ i = 1 := by omega
    rcases this with rfl | rfl <;> rfl
  exact pv_tanP Y (n := 2) rfl H.fine2 hj
theorem TanOk.pows {h : List MonZ} {g : FldZ} (H : TanOk h g) {i : Nat} (hi : i < 2) : ∀ m ∈ hamQ h i, m.pows.length = 2 := fun m hm => by
  have : i = 0 ∨ i = 1 := by omega
  rcases this with rfl | rfl
  · exact (H.fine2 _ (by simp [hamQ]) m hm).2.1
  · exact (H.fine2 _ (by simp [hamQ]) m hm).2.1

/-- A tableau whose numbers are symplectic. -/
def SympT (t : TabZ) : Prop := ∀ i j, i < t.B.length → j < t.B.length → resZ (atZ t.B i * atZ t.A (i * t.B.length + j) + atZ t.B j * atZ t.A (j * t.B.length + i)) = resZ (atZ t.B i * atZ t.B j)
end Go.Proofs.YtbcjhpgkodeoeaaGreatDoor

/- Gauss's tableaus are tableaus and symplectic. Conditions: none. -/
namespace Go.Proofs.YtbcjhpgkodeoeaaGreatDoor
open Go.RowKit

theorem gauT_ok {s : Nat} (h1 : 1 ≤ s) (h3 : s ≤ 3) : tabOkB (gauT s) = true := by
  rcases three_of h1 h3 with rfl | rfl | rfl <;> decide
def sympC (t : TabZ) : Bool := (List.range t.B.length).all fun i => (List.range t.B.length).all fun j => decide (resZ (atZ t.B i * atZ t.A (i * t.B.length + j) + atZ t.B j * atZ t.A (j * t.B.length + i)) = resZ (atZ t.B i * atZ t.B j))
theorem sympC_of {t : TabZ} (h : sympC t = true) : SympT t := by
  intro i j hi hj
  simp only [sympC, List.all_eq_true, List.mem_range, decide_eq_true_eq] at h
  exact h i hi j hj
theorem gauT_symp {s : Nat} (h1 : 1 ≤ s) (h3 : s ≤ 3) : SympT (gauT s) := by
  refine sympC_of ?_
  rcases three_of h1 h3 with rfl | rfl | rfl <;> decide +kernel
end Go.Proofs.YtbcjhpgkodeoeaaGreatDoor

/- Numbers read from texts, in plain lists: both ways of reading answer alike. Conditions: none. -/
namespace Go.Proofs.YtbcjhpgkodeoeaaGreatDoor
open Go.RowKit Go.Sort

def isDig (b : UInt8) : Bool := decide (48 ≤ b.toNat ∧ b.toNat ≤ 57)
/-- Digits read on from a number; -1 for another text. -/
def digGo : Int → List UInt8 → Int
  | n, [] => n
  | n, b :: l => if isDig b = true then digGo (10 * n + ((b.toNat : Int) - 48)) l else -1
def digI (l : List UInt8) : Int := if l.length = 0 ∨ 10 < l.length ∨ (1 < l.length ∧ l[0]? = some 48) then -1 else digGo 0 l

end Go.Proofs.YtbcjhpgkodeoeaaGreatDoor

/- Numbers read from texts, in plain lists: both ways of reading answer alike. Conditions: none. -/
namespace Go.Proofs.YtbcjhpgkodeoeaaGreatDoor
open Go.RowKit Go.Sort

theorem split_miss {s sep : List UInt8} (h : Lib.index s sep = -1) : Lib.split s sep = [s] := by rw [Lib.split, Lib.count_miss h]; rfl
theorem pow_ten {k : Nat} (h : k ≤ 10) : (10 : Int) ^ k ≤ 10000000000 := by
  have h1 : (10 : Nat) ^ k ≤ 10 ^ 10 := Nat.pow_le_pow_right (by decide) h
  have h2 : (10 : Int) ^ k = ((10 ^ k : Nat) : Int) := by simp
  rw [h2]
  omega
/-- What the program reads, or -1. -/
def numI (s : List UInt8) : Int :=
  if Lib.hasPrefix s [35] = true then digI (s.drop 1)
  else if digI (Lib.cut (Lib.trimPrefix s [45]) [47]).1 < 0 ∨ (if (Lib.cut (Lib.trimPrefix s [45]) [47]).2.2 = true then digI (Lib.cut (Lib.trimPrefix s [45]) [47]).2.1 else 1) < 1 then -1
  else if (Lib.trimPrefix s [45]).length < s.length then (-(fracZ (digI (Lib.cut (Lib.trimPrefix s [45]) [47]).1) (if (Lib.cut (Lib.trimPrefix s [45]) [47]).2.2 = true then digI (Lib.cut (Lib.trimPrefix s [45]) [47]).2.1 else 1))) % 1000000271
  else fracZ (digI (Lib.cut (Lib.trimPrefix s [45]) [47]).1) (if (Lib.cut (Lib.trimPrefix s [45]) [47]).2.2 = true then digI (Lib.cut (Lib.trimPrefix s [45]) [47]).2.1 else 1)
def okI (s : List UInt8) : Bool := decide (0 ≤ numI s ∧ fmtT (numI s) = s)
theorem frac_bd (a b : Int) : 0 ≤ fracZ a b ∧ fracZ a b ≤ 1000000270 := timesZ_bd _ _
end Go.Proofs.YtbcjhpgkodeoeaaGreatDoor

/- Digits read: both programs. Conditions: texts of at most a million bytes. -/
namespace Go.Proofs.YtbcjhpgkodeoeaaGreatDoor
open Go.RowKit Go.Sort

theorem str_at {s : ByteArray} {l : List UInt8} (hs : s = ByteArray.mk l.toArray) {i : Nat} {b : UInt8} (hb : l[i]? = some b) : ∃ h : i < s.size, s[i]'h = b := by
  subst hs
  obtain ⟨hi, rfl⟩ := List.getElem?_eq_some_iff.1 hb
  exact ⟨by simpa [ByteArray.size] using hi, by simp [ByteArray.getElem_eq_getElem_data]⟩
theorem str_size {s : ByteArray} {l : List UInt8} (hs : s = ByteArray.mk l.toArray) : s.size = l.length := by subst hs; simp [ByteArray.size]

theorem digGo_step {a : Int} {b : UInt8} {r : List UInt8} {x : Int} (hx : (b.toNat : Int) = x) (h : 48 ≤ x ∧ x ≤ 57) : digGo a (b :: r) = digGo (10 * a + (x - 48)) r := by
  rw [digGo, if_pos (by simp [isDig]; omega), hx]
theorem digGo_stop {a : Int} {b : UInt8} {r : List UInt8} {x : Int} (hx : (b.toNat : Int) = x) (h : ¬ (48 ≤ x ∧ x ≤ 57)) : digGo a (b :: r) = -1 := by
  rw [digGo, if_neg (by simp [isDig]; omega)]
theorem drop_at {l : List UInt8} {i : Nat} {b : UInt8} (h : l[i]? = some b) : l.drop i = b :: l.drop (i + 1) := by
  obtain ⟨hi, rfl⟩ := List.getElem?_eq_some_iff.1 h
  exact List.drop_eq_getElem_cons hi
theorem u8_in {x : Int} (h : 48 ≤ x ∧ x ≤ 57) : IntKind.u8.wrap (x - 48) = x - 48 := by
  unfold IntKind.wrap
  simp [IntKind.bits, IntKind.signed]
  omega
/-- How far digits have been read. -/
structure DigAt (l : List UInt8) (n : Nat) (a : Int) (i : Nat) : Prop where
  eq : digGo 0 l = digGo a (l.drop i)
  lo : 0 ≤ a
  hi : a < 10 ^ i
theorem digAt_zero (l : List UInt8) (n : Nat) : DigAt l n 0 0 := ⟨rfl, by decide, by decide⟩
theorem DigAt.bd {l : List UInt8} {n i : Nat} {a : Int} (h : DigAt l n a i) (hi : i ≤ 10) : a < 10000000000 := by
  have h1 := h.hi
  have h2 := pow_ten hi
  omega
theorem DigAt.next {l : List UInt8} {n i : Nat} {a x : Int} {b : UInt8} (h : DigAt l n a i) (hb : l[i]? = some b) (hx : (b.toNat : Int) = x) (hd : 48 ≤ x ∧ x ≤ 57) : DigAt l n (10 * a + (x - 48)) (i + 1) := by
  refine ⟨by rw [h.eq, drop_at hb, digGo_step hx hd], by have := h.lo; omega, ?_⟩
  have := h.hi
  rw [Int.pow_succ]
  omega

set_option maxRecDepth 100000 in
set_option maxHeartbeats 800000 in
theorem readDec_any (l : List UInt8) (s : ByteArray) (hs : s = ByteArray.mk l.toArray) (w : World) : Calls Tryz.prog 142 #[.string s] w fun e w' => e = .returned (.int .i64 (digI l)) ∧ w = w' := by
  have hsz := str_size hs
  obtain ⟨n, hn⟩ : ∃ n, l.length = n := ⟨_, rfl⟩
  rw [hn] at hsz
  have HS := Lib.hid hs
  have HN := Lib.hid hn
  by_cases h0 : n = 0
  · have HE := Lib.hid (show digI l = -1 from by rw [digI, if_pos (Or.inl (by omega))])
    clear hs hn
    go_enter Tryz.func142, Tryz.ntmps142
    go_wp2
    go_ret
    exact ⟨ret_int HE.out.symm, rfl⟩
  by_cases h10 : 10 < n
  · have HE := Lib.hid (show digI l = -1 from by rw [digI, if_pos (Or.inr (Or.inl (by omega)))])
    clear hs hn
    go_enter Tryz.func142, Tryz.ntmps142
    go_wp2
    go_ret
    exact ⟨ret_int HE.out.symm, rfl⟩
  obtain ⟨c, hc⟩ : ∃ c, l[0]? = some c := ⟨_, List.getElem?_eq_getElem (by omega)⟩
  obtain ⟨y, hy⟩ : ∃ y : Int, (c.toNat : Int) = y := ⟨_, rfl⟩
  obtain ⟨hi0, hs0⟩ := str_at hs hc
  have hyb : (s[0]'hi0).toNat = c.toNat := by rw [hs0]
  by_cases h48 : 1 < n ∧ y = 48
  · have HE := Lib.hid (show digI l = -1 from by
      rw [digI, if_pos (Or.inr (Or.inr ⟨by omega, by rw [hc]; congr 1; exact UInt8.toNat_inj.1 (by have := h48.2; simp; omega)⟩))])
    obtain ⟨h1, h2⟩ := h48
    subst h2
    clear hs hn hc hs0
    go_enter Tryz.func142, Tryz.ntmps142
    go_wp2
    go_ret
    exact ⟨ret_int HE.out.symm, rfl⟩
  · have HE := Lib.hid (show digI l = digGo 0 l from by
      rw [digI, if_neg (fun h => by
        rcases h with h | h | ⟨h1, h2⟩
        · omega
        · omega
        · rw [hc] at h2
          injection h2 with h2
          exact h48 ⟨by omega, by rw [← hy, h2]; rfl⟩)])
    have e0 : ((n : Int) == 0) = false := by simp; omega
    have e10 : ¬ ((10 : Int) < n) := by omega
    by_cases h1 : 1 < n
    · have e1 : (1 : Int) < n := by omega
      have hy48 : (y == 48) = false := by simp; omega
      clear hs hn hc hs0 h48
      go_enter Tryz.func142, Tryz.ntmps142
      go_wp2
      go_loopw [3, 25] (fun sa si wr => ∃ (a : Int) (i : Nat), sa = .int .i64 a ∧ si = .int .i64 i ∧ i ≤ n ∧ DigAt l n a i ∧ w = wr) (fun _ si _ => n - (intOf si).toNat)
      case atStart => exact ⟨0, 0, rfl, rfl, Nat.zero_le _, digAt_zero _ _, rfl⟩
      case round =>
        obtain ⟨wk, rfl⟩ : ∃ W, W = wr := ⟨_, rfl⟩
        obtain ⟨a, i, rfl, rfl, hi, hD, rfl⟩ := hrel
        have hDb := hD.bd (by omega)
        have hD0 := hD.lo
        by_cases hlt : i < n
        case neg =>
          obtain rfl : i = n := by omega
          have HR := Lib.hid (show digGo 0 l = a from by rw [hD.eq, List.drop_of_length_le (by rw [HN.out]; exact Nat.le_refl _)]; rfl)
          clear hD
          go_wp2
          go_ret
          exact ⟨ret_int (HE.out.trans HR.out).symm, rfl⟩
        case pos =>
          obtain ⟨b, hb⟩ : ∃ b, l[i]? = some b := ⟨_, List.getElem?_eq_getElem (by rw [HN.out]; exact hlt)⟩
          obtain ⟨x, hx⟩ : ∃ x : Int, (b.toNat : Int) = x := ⟨_, rfl⟩
          obtain ⟨hi', hsb⟩ := str_at HS.out hb
          have hxb : (s[i]'hi').toNat = b.toNat := by rw [hsb]
          have hx0 : 0 ≤ x := by omega
          have hx2 : x ≤ 255 := by have := b.toNat_lt; omega
          have hiI : (i : Int) < n := by omega
          have hsI : (i : Int) < s.size := by omega
          by_cases hd : 48 ≤ x ∧ x ≤ 57
          · have HD := Lib.hid (hD.next hb hx hd)
            have hu8 := u8_in hd
            obtain ⟨hd1, hd2⟩ := hd
            have hw1 : IntKind.i64.wrap (10 * a) = 10 * a := IntWalk.i64_in _ (by omega)
            have hw2 : IntKind.i64.wrap (10 * a + (x - 48)) = 10 * a + (x - 48) := IntWalk.i64_in _ (by omega)
            have hw3 : IntKind.i64.wrap (x - 48) = x - 48 := IntWalk.i64_in _ (by omega)
            clear hD hb hsb
            go_wp2
            go_roundw
            case rel => exact ⟨10 * a + (x - 48), i + 1, rfl, by go_num, by omega, HD.out, by first | trivial | rfl⟩
            case measure => (simp [intOf]; try omega)
          · have HX := Lib.hid (show digGo 0 l = -1 from by rw [hD.eq, drop_at hb, digGo_stop hx hd])
            by_cases hd1 : x < 48
            · clear hD hb hsb hd
              go_wp2
              go_ret
              exact ⟨ret_int (HE.out.trans HX.out).symm, rfl⟩
            · have hd2 : 57 < x := by omega
              clear hD hb hsb hd
              go_wp2
              go_ret
              exact ⟨ret_int (HE.out.trans HX.out).symm, rfl⟩
    · have e1 : ¬ ((1 : Int) < n) := by omega
      clear hs hn hc hs0 h48
      go_enter Tryz.func142, Tryz.ntmps142
      go_wp2
      go_loopw [3, 25] (fun sa si wr => ∃ (a : Int) (i : Nat), sa = .int .i64 a ∧ si = .int .i64 i ∧ i ≤ n ∧ DigAt l n a i ∧ w = wr) (fun _ si _ => n - (intOf si).toNat)
      case atStart => exact ⟨0, 0, rfl, rfl, Nat.zero_le _, digAt_zero _ _, rfl⟩
      case round =>
        obtain ⟨wk, rfl⟩ : ∃ W, W = wr := ⟨_, rfl⟩
        obtain ⟨a, i, rfl, rfl, hi, hD, rfl⟩ := hrel
        have hDb := hD.bd (by omega)
        have hD0 := hD.lo
        by_cases hlt : i < n
        case neg =>
          obtain rfl : i = n := by omega
          have HR := Lib.hid (show digGo 0 l = a from by rw [hD.eq, List.drop_of_length_le (by rw [HN.out]; exact Nat.le_refl _)]; rfl)
          clear hD
          go_wp2
          go_ret
          exact ⟨ret_int (HE.out.trans HR.out).symm, rfl⟩
        case pos =>
          obtain ⟨b, hb⟩ : ∃ b, l[i]? = some b := ⟨_, List.getElem?_eq_getElem (by rw [HN.out]; exact hlt)⟩
          obtain ⟨x, hx⟩ : ∃ x : Int, (b.toNat : Int) = x := ⟨_, rfl⟩
          obtain ⟨hi', hsb⟩ := str_at HS.out hb
          have hxb : (s[i]'hi').toNat = b.toNat := by rw [hsb]
          have hx0 : 0 ≤ x := by omega
          have hx2 : x ≤ 255 := by have := b.toNat_lt; omega
          have hiI : (i : Int) < n := by omega
          have hsI : (i : Int) < s.size := by omega
          by_cases hd : 48 ≤ x ∧ x ≤ 57
          · have HD := Lib.hid (hD.next hb hx hd)
            have hu8 := u8_in hd
            obtain ⟨hd1, hd2⟩ := hd
            have hw1 : IntKind.i64.wrap (10 * a) = 10 * a := IntWalk.i64_in _ (by omega)
            have hw2 : IntKind.i64.wrap (10 * a + (x - 48)) = 10 * a + (x - 48) := IntWalk.i64_in _ (by omega)
            have hw3 : IntKind.i64.wrap (x - 48) = x - 48 := IntWalk.i64_in _ (by omega)
            clear hD hb hsb
            go_wp2
            go_roundw
            case rel => exact ⟨10 * a + (x - 48), i + 1, rfl, by go_num, by omega, HD.out, by first | trivial | rfl⟩
            case measure => (simp [intOf]; try omega)
          · have HX := Lib.hid (show digGo 0 l = -1 from by rw [hD.eq, drop_at hb, digGo_stop hx hd])
            by_cases hd1 : x < 48
            · clear hD hb hsb hd
              go_wp2
              go_ret
              exact ⟨ret_int (HE.out.trans HX.out).symm, rfl⟩
            · have hd2 : 57 < x := by omega
              clear hD hb hsb hd
              go_wp2
              go_ret
              exact ⟨ret_int (HE.out.trans HX.out).symm, rfl⟩
end Go.Proofs.YtbcjhpgkodeoeaaGreatDoor

/- Texts cut at signs: the reference. Conditions: texts of at most a million bytes. -/
namespace Go.Proofs.YtbcjhpgkodeoeaaGreatDoor
open Go.RowKit Go.Sort

/-- How far a text has been cut. -/
structure CutAt (l sep : List UInt8) (i from_ : Nat) (O : List (List UInt8)) : Prop where
  eq : Lib.split l sep = O ++ Lib.split (l.drop from_) sep
  no : ∀ j, from_ ≤ j → j < i → Lib.occAt l sep j = false
theorem occ_drop (l sep : List UInt8) (a j : Nat) : Lib.occAt (l.drop a) sep j = Lib.occAt l sep (a + j) := by
  unfold Lib.occAt
  rw [List.drop_drop]
theorem CutAt.done {l sep : List UInt8} {i f : Nat} {O : List (List UInt8)} (h : CutAt l sep i f O) (hs : sep ≠ []) (hi : l.length < i + sep.length) : Lib.split l sep = O ++ [l.drop f] := by
  have hx : Lib.index (l.drop f) sep = -1 := by
    refine Lib.index_none fun j hj => ?_
    rw [occ_drop]
    by_cases hji : f + j < i
    · exact h.no _ (by omega) hji
    · cases ho : Lib.occAt l sep (f + j) with
      | false => rfl
      | true =>
        rcases Lib.occAt_room ho with h1 | h1
        · omega
        · exact absurd h1 hs
  rw [h.eq, split_miss hx]
theorem str_cut {s : ByteArray} {l : List UInt8} (hs : s = ByteArray.mk l.toArray) (a b : Nat) : Value.string (s.extract a b) = txt ((l.drop a).take (b - a)) := by
  have h : (s.extract a b).data.toList = (l.drop a).take (b - a) := by
    rw [Lib.extract_data, hs]
  unfold txt
  congr 1
  apply ByteArray.ext
  rw [← h]
theorem split_len (l sep : List UInt8) : (Lib.split l sep).length ≤ l.length + 2 := by
  have h1 : ∀ (k : Nat) (s : List UInt8), (Lib.splitK sep 0 k s).length ≤ k + 1 := by
    intro k
    induction k with
    | zero => intro s; simp [Lib.splitK]
    | succ k ih =>
      intro s
      unfold Lib.splitK
      split
      · simp
      · have := ih (s.drop ((Lib.index s sep).toNat + sep.length))
        simp only [List.length_cons]; omega
  have h2 := Lib.count_le l sep
  have h3 := h1 (Lib.count l sep) l
  unfold Lib.split
  omega
theorem CutAt.len {l sep : List UInt8} {i f : Nat} {O : List (List UInt8)} (h : CutAt l sep i f O) : O.length ≤ l.length + 2 := by
  have h1 := split_len l sep
  rw [h.eq, List.length_append] at h1
  omega
/-- What cutting leaves: a new row of texts. -/
def Words (w : World) (xs : List (List UInt8)) : Ending → World → Prop := fun e w' => ∃ g cap n, e = .returned (.slice (some ⟨g, 0, none⟩) n cap) ∧ RowT w w' (.slice (some ⟨g, 0, none⟩) n cap) xs n

end Go.Proofs.YtbcjhpgkodeoeaaGreatDoor

/- Numbers read from texts: both programs. Conditions: texts of at most a million bytes. -/
namespace Go.Proofs.YtbcjhpgkodeoeaaGreatDoor
open Go.RowKit Go.Sort

/-- The number read, or 0. -/
def numV (l : List UInt8) : Int := if okI l = true then numI l else 0
theorem numV_no {l : List UInt8} (h : okI l = false) : okI l = false ∧ numV l = 0 := ⟨h, by rw [numV, h]; rfl⟩
theorem fmt_cmp {x s : ByteArray} {n : Int} {l : List UInt8} (hx : txt (fmtT n) = .string x) (hs : s = ByteArray.mk l.toArray) : (x.toList == s.toList) = decide (fmtT n = l) := by
  unfold txt at hx
  injection hx with hx
  rw [← hx, hs, ByteArray.toList_mk, ByteArray.toList_mk, Bool.eq_iff_iff, beq_iff_eq, decide_eq_true_eq]
theorem txt_inj {u : ByteArray} {l : List UInt8} (h : Value.string u = txt l) : u = ByteArray.mk l.toArray := by
  unfold txt at h
  injection h

/-- A word of a row of texts. -/
theorem RowT.at {w wr : World} {g n cap : Nat} {xs : List (List UInt8)} (h : RowT w wr (.slice (some ⟨g, 0, none⟩) n cap) xs n) {i : Nat} {x : List UInt8} {y : ByteArray} (hx : xs[i]? = some x) (hy : y = ByteArray.mk x.toArray) : wr.cell? ⟨g, i, none⟩ = some (.string y) := by
  have hi := (List.getElem?_eq_some_iff.1 hx).1
  have hl := h.len
  rw [h.row.cellAt i (by omega), List.getElem?_map, hx, hy]
  rfl

end Go.Proofs.YtbcjhpgkodeoeaaGreatDoor
