/- PolynomialAlong of the program and of the reference. Conditions: lengths of slices up to 2^20. -/
import Derived.Test.YtdaaamdighojdaaSDer
import Derived.Test.YtdaaamdighojdaaJetAt
import Derived.Test.YtdaaamdighojdaaSPoly
import Derived.Test.YtdaaamdighojdaaStepP
set_option linter.unusedSimpArgs false
set_option linter.unusedVariables false
namespace Go.Proofs.Ytdaaamdighojdaa
open Go.RowKit Go.Sort

def paOkB (p : List MonZ) (xs : List (List Int)) : Bool := decide (xs.length ≠ 0) && (pathOkB xs (hdL xs) && polyOkB p (hdL xs))
def polyAlongL (p : List MonZ) (xs : List (List Int)) : List Int := if paOkB p xs then dervL p (turnZ xs (hdL xs)) [] else []

theorem turn_ok {xs : List (List Int)} {n : Nat} (h : pathOkB xs n = true) : AllJ xs.length (turnZ xs n) := by
  intro x hx
  simp only [turnZ, List.mem_map] at hx
  obtain ⟨i, _, rfl⟩ := hx
  exact ⟨colZ_len _ _, colZ_nums (pathOk_facts h).2.2.2 i⟩
theorem hdL_turn {xs : List (List Int)} {n : Nat} (h : 0 < n) : hdL (turnZ xs n) = xs.length := by rw [hdL_at, turn_at h, colZ_len]
theorem fine_coef {p : List MonZ} {n : Nat} (h : ∀ m ∈ p, MonFine n m) : ∀ m ∈ p, 0 ≤ m.coef ∧ m.coef ≤ 1000000270 ∧ 0 ≤ degZ m.pows := fun m hm => ⟨(h m hm).1.1, (h m hm).1.2, (h m hm).2.2.1⟩

set_option maxRecDepth 100000 in
set_option maxHeartbeats 1600000 in
theorem pAlong_any (vp vx : Value) (p : List MonZ) (xs : List (List Int)) (w : World) (hp : RdMs w vp p) (hx : RdII w vx xs) (hfit : ∀ m ∈ p, Fit_Mon m) (hh : hdL xs ≤ 1048576) :
    Calls Try.prog 37 #[vp, vx] w (Gives (fun w' v fp => OwnI 3 w' v (polyAlongL p xs) fp) w) := by
  have hnone : ∀ W, Below w.heap.size w W → paOkB p xs = false → Gives (fun w' v fp => OwnI 3 w' v (polyAlongL p xs) fp) w (.returned (.slice none 0 0)) W := by
    intro W hW hd
    refine ⟨_, [], rfl, ?_, by simp, hW⟩
    rw [polyAlongL, hd]
    exact ⟨World.ownsRow_nil _ _ _ _, rfl, by simp⟩
  obtain ⟨ad1, len1, cap1, rfl, hl1, hlc1, hcm1, h1'⟩ := rdS_open hp
  obtain ⟨ad, len, cap, rfl, hl, hlc, hcm, h'⟩ := rdS_open hx
  clear hp hx
  by_cases hz : len = 0
  · subst hz
    have HN := Lib.hid (hnone w (Below.refl _ _) (by rw [List.eq_nil_of_length_eq_zero hl]; rfl))
    clear hnone hl hl1
    go_enter Try.func37, Try.ntmps37
    go_wp2
    go_ret
    exact HN.out
  obtain ⟨b, off, ad', n, cap', x0, rfl, hx0, hcc, h6, h7, h8, h9, hbs⟩ := rdII_get h' (k := 0) (by omega)
  have hhd : hdL xs = n := by
    cases xs with
    | nil => simp at hx0
    | cons y ys =>
      simp only [List.getElem?_cons_zero, Option.some.injEq] at hx0
      subst hx0
      exact h6
  have hdd : paOkB p xs = (pathOkB xs n && polyOkB p n) := by simp [paOkB, hl, hz, hhd]
  have hzb : ((len : Int) == 0) = false := by simp; omega
  have hzp : (0 : Int) < len := by omega
  simp only [Nat.add_zero] at hcc
  rw [hhd] at hh
  have HL := Lib.hid hl
  have HL1 := Lib.hid hl1
  have HDD := Lib.hid hdd
  have HHD := Lib.hid hhd
  clear hl hl1 hdd hhd hx0 h6
  cases hok : pathOkB xs n with
  | false =>
    have HN := Lib.hid (hnone w (Below.refl _ _) (by rw [HDD.out, hok]; rfl))
    clear hnone
    go_enter Try.func37, Try.ntmps37
    go_wp2_with (go_at_call 63; ((with_reducible refine (pathOk_any _ xs _ _ h').mono ?_); rintro e w' ⟨rfl, rfl⟩; rw [hok]))
    go_ret
    exact HN.out
  | true =>
  cases hpk : polyOkB p n with
  | false =>
    have HN := Lib.hid (fun W hW => hnone W hW (by rw [HDD.out, hok, hpk]; rfl))
    clear hnone
    go_enter Try.func37, Try.ntmps37
    go_wp2_with (first
      | (go_at_call 63; ((with_reducible refine (pathOk_any _ xs _ _ h').mono ?_); rintro e w' ⟨rfl, rfl⟩; rw [hok]))
      | (go_at_call 72; ((with_reducible refine (polyOk_eq _ p _ _ h1' hfit hpk).mono ?_); rintro e w1 ⟨rfl, hb1⟩)))
    go_ret
    exact HN.out _ hb1
  | true =>
  obtain ⟨q1, q2, q3, q4⟩ := pathOk_facts hok
  obtain ⟨r1, r2, r3, r4⟩ := polyOk_facts hpk
  have htok := turn_ok hok
  rw [HL.out] at q1 q2 htok
  have hE : polyAlongL p xs = derL p (turnZ xs n) [] len := by
    rw [polyAlongL, HDD.out, hok, hpk, HHD.out, derL_nil (by rw [hdL_turn (by omega), HL.out]) (fine_coef r4)]
    rfl
  have HE := Lib.hid hE
  have Q3 := Lib.hid q3
  have R4 := Lib.hid r4
  have TOK := Lib.hid htok
  clear hnone hE q3 q4 r4 htok
  go_enter Try.func37, Try.ntmps37
  go_wp2_with (first
    | (go_at_call 63; ((with_reducible refine (pathOk_any _ xs _ _ h').mono ?_); rintro e w' ⟨rfl, rfl⟩; rw [hok]))
    | (go_at_call 72; ((with_reducible refine (polyOk_eq _ p _ _ h1' hfit hpk).mono ?_); rintro e w1 ⟨rfl, hb1⟩; have hcc1 := cell_below hb1 hcc))
    | (go_at_call 64; ((with_reducible refine (jets_any _ xs n _ (rdII_mono hb1 h') (by omega) (by rw [HL.out]; omega) Q3.out).mono ?_); rintro e w2 ⟨vy, fy, rfl, hoy, hfy, hby⟩; have hb2 := hb1.trans (hby.mono hb1.size)))
    | (go_at_call 83; ((with_reducible refine (derived_any _ _ _ p (turnZ xs n) [] n len _ (rdMs_mono hb2 h1') (ownII_rd hoy) (rdIII_nil _) r3 R4.out r1 r2 q1 q2 (turnZ_len _ _) TOK.out (by simp) (by simp)).mono ?_); rintro e w3 ⟨vr, fr, rfl, hor, hfr, hbr⟩; have hb3 := hb2.trans (hbr.mono hb2.size))))
  go_ret
  exact ⟨_, fr, rfl, by rw [HE.out]; exact hor, fun b hb => by { have := hfr b hb; have := hb2.size; omega }, hb3⟩

set_option maxRecDepth 100000 in
set_option maxHeartbeats 1600000 in
theorem sPAlong_any (vp vx : Value) (p : List MonZ) (xs : List (List Int)) (w : World) (hp : RdMs w vp p) (hx : RdII w vx xs) (hh : hdL xs ≤ 1048576) :
    Calls Try.prog 36 #[vp, vx] w (Gives (fun w' v fp => OwnI 3 w' v (polyAlongL p xs) fp) w) := by
  have hnone : ∀ W, Below w.heap.size w W → paOkB p xs = false → Gives (fun w' v fp => OwnI 3 w' v (polyAlongL p xs) fp) w (.returned (.slice none 0 0)) W := by
    intro W hW hd
    refine ⟨_, [], rfl, ?_, by simp, hW⟩
    rw [polyAlongL, hd]
    exact ⟨World.ownsRow_nil _ _ _ _, rfl, by simp⟩
  obtain ⟨ad1, len1, cap1, rfl, hl1, hlc1, hcm1, h1'⟩ := rdS_open hp
  obtain ⟨ad, len, cap, rfl, hl, hlc, hcm, h'⟩ := rdS_open hx
  clear hp hx
  by_cases hz : len = 0
  · subst hz
    have HN := Lib.hid (hnone w (Below.refl _ _) (by rw [List.eq_nil_of_length_eq_zero hl]; rfl))
    clear hnone hl hl1
    go_enter Try.func36, Try.ntmps36
    go_wp2
    go_ret
    exact HN.out
  obtain ⟨b, off, ad', n, cap', x0, rfl, hx0, hcc, h6, h7, h8, h9, hbs⟩ := rdII_get h' (k := 0) (by omega)
  have hhd : hdL xs = n := by
    cases xs with
    | nil => simp at hx0
    | cons y ys =>
      simp only [List.getElem?_cons_zero, Option.some.injEq] at hx0
      subst hx0
      exact h6
  have hdd : paOkB p xs = (pathOkB xs n && polyOkB p n) := by simp [paOkB, hl, hz, hhd]
  have hzb : ((len : Int) == 0) = false := by simp; omega
  have hzp : (0 : Int) < len := by omega
  simp only [Nat.add_zero] at hcc
  rw [hhd] at hh
  have HL := Lib.hid hl
  have HL1 := Lib.hid hl1
  have HDD := Lib.hid hdd
  have HHD := Lib.hid hhd
  clear hl hl1 hdd hhd hx0 h6
  cases hok : pathOkB xs n with
  | false =>
    have HN := Lib.hid (hnone w (Below.refl _ _) (by rw [HDD.out, hok]; rfl))
    clear hnone
    go_enter Try.func36, Try.ntmps36
    go_wp2_with (go_at_call 59; ((with_reducible refine (sPathOk_any _ xs _ _ h').mono ?_); rintro e w' ⟨rfl, rfl⟩; rw [hok]))
    go_ret
    exact HN.out
  | true =>
  cases hpk : polyOkB p n with
  | false =>
    have HN := Lib.hid (fun W hW => hnone W hW (by rw [HDD.out, hok, hpk]; rfl))
    clear hnone
    go_enter Try.func36, Try.ntmps36
    go_wp2_with (first
      | (go_at_call 59; ((with_reducible refine (sPathOk_any _ xs _ _ h').mono ?_); rintro e w' ⟨rfl, rfl⟩; rw [hok]))
      | (go_at_call 69; ((with_reducible refine (qt_below (sPolyOk_eq _ p _ _ h1' hpk)).mono ?_); rintro e w1 ⟨rfl, hb1⟩)))
    go_ret
    exact HN.out _ hb1
  | true =>
  obtain ⟨q1, q2, q3, q4⟩ := pathOk_facts hok
  obtain ⟨r1, r2, r3, r4⟩ := polyOk_facts hpk
  have htok := turn_ok hok
  rw [HL.out] at q1 q2 htok
  have hE : polyAlongL p xs = dervL p (turnZ xs n) [] := by rw [polyAlongL, HDD.out, hok, hpk, HHD.out]; rfl
  have HE := Lib.hid hE
  have Q3 := Lib.hid q3
  have R4 := Lib.hid r4
  have TOK := Lib.hid htok
  have HTH := Lib.hid (hdL_turn (xs := xs) (n := n) (by omega))
  have hlen0 : 0 < len := q1
  clear hnone hE q3 q4 r4 htok
  obtain ⟨i0, hi, hz0, hz1, hz2⟩ := info_parts Try.info_int
  have hib : i0.bytes * len ≤ 281474976710656 := by rw [hz2]; omega
  go_enter Try.func36, Try.ntmps36
  go_wp2_with (first
    | (go_at_call 59; ((with_reducible refine (sPathOk_any _ xs _ _ h').mono ?_); rintro e w' ⟨rfl, rfl⟩; rw [hok]))
    | (go_at_call 69; ((with_reducible refine (qt_below (sPolyOk_eq _ p _ _ h1' hpk)).mono ?_); rintro e w1 ⟨rfl, hb1⟩; have hcc1 := cell_below hb1 hcc))
    | (go_at_call 60; ((with_reducible refine (l8Turn_any _ xs n _ (rdII_mono hb1 h') (by rw [HL.out]; exact hlen0) (by omega) (by rw [HL.out]; omega) Q3.out).mono ?_); rintro e w2 ⟨vy, fy, rfl, hoy, hfy, hby⟩; have hb2 := hb1.trans (hby.mono hb1.size)))
    | (at_make; refine wpList_make_full _ rfl _ _ 24 rfl 0 3 i0 (.int .i64 0) 1 Try.underlying24 hi hz0 hz1 .i64 .i64 _ _ len rfl rfl rfl rfl hib (by unfold maxLen; omega) (Nat.zero_le _) ?_; intro w3 hown3 hgrow3))
  have hm0 : (madeCells (Value.int .i64 0).cells (len * 1)).toList = (List.replicate len (0 : Int)).map (Value.int .i64) := by
    rw [Nat.mul_one, List.map_replicate]; exact toList_madeCells_one _ _
  rw [hm0] at hown3
  have hbl : Below w2.heap.size w2 w3 := (Below.refl _ _).grown hgrow3 (Nat.le_refl _) (fun k hk => by cases hk)
  have HO3 := Lib.hid (show OwnI 3 w3 (.slice (some ⟨w2.heap.size, 0, none⟩) len len) (dervP p (turnZ xs n) [] 0) [w2.heap.size] from ⟨by rw [dervP, HTH.out, List.length_replicate, HL.out]; exact hown3, rfl, fun z hz => i64_of_bd (dervP_nums p _ _ 0 z hz)⟩)
  have hyr : RdII w2 vy (turnZ xs n) := ownII_rd hoy
  have HB3 := Lib.hid hbl
  have HB2 := Lib.hid hb2
  obtain ⟨ady, ly, capy, rfl, _, _, _, hyr2⟩ := rdS_open hyr
  clear hm0 hown3 hgrow3 hbl hoy hyr hib hby
  go_loopw [6, 7] (fun u i wr => ∃ (k : Nat) (f : List Nat), k ≤ len1 ∧ i = .int .i64 k ∧ OwnI 3 wr u (dervP p (turnZ xs n) [] k) f ∧ (∀ b ∈ f, w2.heap.size ≤ b) ∧ Below w2.heap.size w2 wr) (fun _ i _ => len1 - (intOf i).toNat)
  case atStart => exact ⟨0, _, Nat.zero_le _, rfl, HO3.out, by simp, HB3.out⟩
  case round =>
    obtain ⟨wq, rfl⟩ : ∃ W, W = wr := ⟨_, rfl⟩
    obtain ⟨k, f2, hk, rfl, ho2, hf2, hbq⟩ := hrel
    clear HO3 HB3
    have hwq := HB2.out.trans (hbq.mono HB2.out.size)
    by_cases hlt : k < len1
    case neg =>
      obtain rfl : k = len1 := by omega
      go_wp2
      go_ret
      exact ⟨_, f2, rfl, by rw [HE.out, dervL, HL1.out]; exact ho2, fun b hb => by { have := hf2 b hb; have := HB2.out.size; omega }, hwq⟩
    obtain ⟨b5, o5, adm, lenm, capm, m, rfl, hm, hc0, hc1, hIm, h61, h71, h81, h91, _⟩ := rdMs_get (rdMs_mono hwq h1') hlt
    obtain ⟨⟨hm0, hm1⟩, hmn, hmd, hmp⟩ := R4.out m (List.mem_of_getElem? hm)
    have hdr : Below wq.heap.size wq wq.drew := (Below.refl _ _).drew
    have I1 := Lib.hid (l8One_any [] _ _ (.slice none 0 0) m.pows (turnZ xs n) n len wq.drew (rdI_mono hdr h91) (rdII_mono (hbq.trans (hdr.mono hbq.size)) hyr2) (rdIII_nil _) hmn hmp r1 r2 q1 q2 (turnZ_len _ _) TOK.out (by simp))
    have hE : dervP p (turnZ xs n) [] (k + 1) = addJ (dervP p (turnZ xs n) [] k) (oneL (turnZ xs n) [] m.pows) m.coef := by rw [dervP, hm]; rfl
    have HE1 := Lib.hid hE
    have HO2 := Lib.hid ho2
    have HBQ := Lib.hid hbq
    have hol := oneL_len (turnZ xs n) [] m.pows
    rw [HTH.out, HL.out] at hol
    have HOL := Lib.hid hol
    obtain ⟨adz, lz, cz, rfl, _, _, _, _, _, _⟩ := ownI_open ho2
    clear hm hmn hmp h61 h91 hE ho2 hf2 hbq hwq hol
    go_wp2
    go_region_law (go_simp; first | (go_at_call 82; (with_reducible refine (I1.out).mono ?_); rintro e wa ⟨p1, fp1, rfl, hop1, hfp1, hba⟩; have hra := hdr.trans (hba.mono hdr.size); have hc0a := cell_below hra hc0) | (go_at_call 61; have A1 := l8Add_any _ _ (dervP p (turnZ xs n) [] k) (oneL (turnZ xs n) [] m.pows) m.coef _ (ownI_rd (ownI_only HO2.out (Only.of_below (fp := []) hra) (by simp))) (ownI_rd hop1) (by rw [dervP_len, HTH.out, HL.out, HOL.out]; exact Nat.le_refl _) (by rw [dervP_len, HTH.out, HL.out]; omega); (with_reducible refine A1.mono ?_); rintro e wb ⟨p2, fp2, rfl, hop2, hfp2, hbb⟩))
    all_goals (
      have hrb := hra.trans (hbb.mono hra.size)
      have hf3 : ∀ b ∈ fp2, w2.heap.size ≤ b := fun b hb' => by { have := hfp2 b hb'; have := hra.size; have := HBQ.out.size; omega }
      have HO4 := Lib.hid hop2
      have HRB := Lib.hid (HBQ.out.trans (hrb.mono HBQ.out.size))
      have HF3 := Lib.hid hf3
      clear hop1 hop2 hba hbb hrb hra A1 hfp1 hfp2 hc0a I1 hf3
      go_wp2
      go_roundw
      case rel => exact ⟨k + 1, fp2, by omega, by go_num, by rw [HE1.out]; exact HO4.out, HF3.out, HRB.out⟩
      case measure => simp [intOf]; omega)
end Go.Proofs.Ytdaaamdighojdaa
