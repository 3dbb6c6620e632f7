/- The texts FOk, Fine, CanP, Path in one: each says at its head what it proves. Conditions: as said there. -/
import Derived.Test.YtbcjhpgkodeoeaaG10
import Derived.Test.YtbcjhpgkodeoeaaG09
import Derived.Test.YtbcjhpgkodeoeaaG02
import Derived.Test.YtbcjhpgkodeoeaaG03
set_option linter.unusedSimpArgs false
set_option linter.unusedVariables false
/- The tests on fields, of the program and of the reference: what they return. Conditions: polynomials whose powers have at most 1048576 elements. -/
namespace Go.Proofs.Ytbcjhpgkodeoeaa
open Go.RowKit Go.Sort

def fldOkB (f : FldZ) : Bool := dimB f.dim && decide ((f.parts.length : Int) = f.dim) && f.parts.all (polyOkB · f.dim)
theorem fldOkB_dim {f : FldZ} (h : dimB f.dim = false) : fldOkB f = false := by simp [fldOkB, h]
theorem fldOkB_len {f : FldZ} (h : (f.parts.length : Int) ≠ f.dim) : fldOkB f = false := by simp [fldOkB, h]
theorem fldOkB_all {f : FldZ} (h1 : dimB f.dim = true) (h2 : (f.parts.length : Int) = f.dim) : fldOkB f = f.parts.all (polyOkB · f.dim) := by simp [fldOkB, h1, h2]

theorem polyOk_eq {b : Bool} (v : Value) (xs : List MonZ) (dim : Int) (w : World) (h : RdMs w v xs) (hfit : ∀ m ∈ xs, Fit_Mon m) (hb : polyOkB xs dim = b) :
    Calls Try.prog 53 #[v, .int .i64 dim] w fun e w' => e = .returned (.bool b) ∧ Below w.heap.size w w' := hb ▸ polyOk_any v xs dim w h hfit
set_option maxHeartbeats 1600000 in
theorem fldOk_any (v : Value) (f : FldZ) (w : World) (h : RdFld w v f) (hfit : ∀ p ∈ f.parts, ∀ m ∈ p, Fit_Mon m) :
    Calls Try.prog 33 #[v] w fun e w' => e = .returned (.bool (fldOkB f)) ∧ Below w.heap.size w w' := by
  obtain ⟨vP, rfl, hI, hp⟩ := h
  obtain ⟨W, hW⟩ : ∃ W, W = w.alloc (.cells #[.int .i64 f.dim, vP] 29) := ⟨_, rfl⟩
  have hb0 : Below w.heap.size w W := hW ▸ (Below.refl _ _).alloc (Nat.le_refl _) _
  have hpW := rdMss_mono hb0 hp
  obtain ⟨ad, len, cap, rfl, hl, hlc, hcm, h'⟩ := rdS_open hpW
  have HL := Lib.hid hl
  have HF := Lib.hid hfit
  have hsz : W.heap.size = w.heap.size + 1 := by rw [hW]; simp
  have hd0 : W.cell? ⟨w.heap.size, 0, none⟩ = some (.int .i64 f.dim) := by rw [hW]; simp
  have hd1 : W.cell? ⟨w.heap.size, 1, none⟩ = some (.slice ad len cap) := by rw [hW]; simp
  have HW := Lib.hid hW
  have HSZ := Lib.hid hsz
  have HB0 := Lib.hid hb0
  clear hl hfit hp hpW hsz hW
  cases hdim : dimB f.dim with
  | false =>
    have HP := Lib.hid (fldOkB_dim hdim)
    go_enter Try.func33, Try.ntmps33
    go_wp2_with (go_at_call 52; ((with_reducible refine (isDim_eq hdim _).mono ?_); rintro e w' ⟨rfl, rfl⟩))
    go_ret
    exact ⟨ret_bool HP.out.symm, by rw [← HW.out]; exact hb0⟩
  | true =>
  by_cases hld : (len : Int) = f.dim
  case neg =>
    have hldb : ((len : Int) != f.dim) = true := by simpa using hld
    have HP := Lib.hid (fldOkB_len (f := f) (by rw [HL.out]; exact hld))
    clear hld
    go_enter Try.func33, Try.ntmps33
    go_wp2_with (go_at_call 52; ((with_reducible refine (isDim_eq hdim _).mono ?_); rintro e w' ⟨rfl, rfl⟩))
    go_ret
    exact ⟨ret_bool HP.out.symm, by rw [← HW.out]; exact hb0⟩
  have hldb : ((len : Int) != f.dim) = false := by simpa using hld
  have HP := Lib.hid (fldOkB_all hdim (by rw [HL.out]; exact hld))
  clear hld
  go_enter Try.func33, Try.ntmps33
  go_wp2_with (go_at_call 52; ((with_reducible refine (isDim_eq hdim _).mono ?_); rintro e w' ⟨rfl, rfl⟩))
  rw [← HW.out]
  go_loopw [20] (fun i wr => ∃ k : Nat, k ≤ len ∧ i = .int .i64 k ∧ (f.parts.take k).all (polyOkB · f.dim) = true ∧ Below W.heap.size W wr) (fun i _ => len - (intOf i).toNat)
  case atStart => exact ⟨0, Nat.zero_le _, rfl, by simp, Below.refl _ _⟩
  case round =>
    obtain ⟨k, hk, rfl, ha, hbw⟩ := hrel
    have HA := Lib.hid ha
    clear ha
    have h'r := rdMss_mono hbw h'
    have hc0 : wr.cell? ⟨w.heap.size, 0, none⟩ = some (.int .i64 f.dim) := (hbw.cell (p := ⟨w.heap.size, 0, none⟩) (by rw [HSZ.out]; simp)).trans hd0
    by_cases hlt : k < len
    case neg =>
      go_wp2
      go_ret
      exact ⟨ret_bool (by rw [HP.out]; exact (all_done (by rw [HL.out]; omega) HA.out).symm), HB0.out.trans (hbw.mono HB0.out.size)⟩
    obtain ⟨b, off, ad', len', cap', x, rfl, hx, hcx, h6, h7, h8, h9, hbs⟩ := rdMss_get h'r hlt
    have HX := Lib.hid hx
    have hfx : ∀ m ∈ x, Fit_Mon m := HF.out x (List.mem_of_getElem? hx)
    clear hx h6
    cases hok : polyOkB x f.dim with
    | true =>
      go_wp2_with fail
      refine (polyOk_eq _ x _ _ h9 hfx hok).mono ?_
      rintro e w1 ⟨rfl, hb1⟩
      go_wp2
      go_roundw
      case rel => exact ⟨k + 1, by omega, by go_num, all_snoc HX.out HA.out hok, hbw.trans (hb1.mono hbw.size)⟩
      case measure => simp [intOf]; omega
    | false =>
      go_wp2_with fail
      refine (polyOk_eq _ x _ _ h9 hfx hok).mono ?_
      rintro e w1 ⟨rfl, hb1⟩
      have hbx := hbw.trans (hb1.mono hbw.size)
      go_wp2
      go_ret
      exact ⟨ret_bool (by rw [HP.out]; exact (all_false HX.out hok).symm), HB0.out.trans (hbx.mono HB0.out.size)⟩
theorem fldOk_eq {b : Bool} (v : Value) (f : FldZ) (w : World) (h : RdFld w v f) (hfit : ∀ p ∈ f.parts, ∀ m ∈ p, Fit_Mon m) (hb : fldOkB f = b) :
    Calls Try.prog 33 #[v] w fun e w' => e = .returned (.bool b) ∧ Below w.heap.size w w' := hb ▸ fldOk_any v f w h hfit

end Go.Proofs.Ytbcjhpgkodeoeaa

/- What a valid polynomial or field holds. Conditions: none. -/
namespace Go.Proofs.Ytbcjhpgkodeoeaa
open Go.RowKit Go.Sort

/-- What the walk needs of a monomial. -/
def MonFine (n : Nat) (m : MonZ) : Prop := (0 ≤ m.coef ∧ m.coef ≤ 1000000270) ∧ m.pows.length = n ∧ 0 ≤ degZ m.pows ∧ ∀ x ∈ m.pows, 0 ≤ x ∧ x ≤ 5
theorem polyOk_facts {p : List MonZ} {n : Nat} (h : polyOkB p n = true) : 1 ≤ n ∧ n ≤ 6 ∧ p.length ≤ 12 ∧ ∀ m ∈ p, MonFine n m := by
  simp only [polyOkB, Bool.and_eq_true, decide_eq_true_eq, List.all_eq_true, List.mem_range, dimB] at h
  obtain ⟨⟨⟨h1, h2⟩, h3⟩, h4⟩ := h
  refine ⟨by omega, by omega, h3, fun m hm => ?_⟩
  obtain ⟨i, hi, rfl⟩ := List.getElem_of_mem hm
  have h5 := h4 i hi
  have hm' : monOkB (n : Int) p[i] = true := by
    cases hb : monOkB (n : Int) p[i] with
    | true => rfl
    | false => rw [stepOk_mon (List.getElem?_eq_getElem hi) hb] at h5; exact absurd h5 (by simp)
  simp only [monOkB, Bool.and_eq_true, decide_eq_true_eq, isNumB] at hm'
  obtain ⟨⟨⟨h6, h7⟩, h8⟩, h9, h10⟩ := hm'
  refine ⟨by omega, by omega, h9, fun x hx => ?_⟩
  unfold degZ at h9
  split at h9
  · rename_i hall
    have := List.all_eq_true.1 hall x hx
    simpa [powIn] using this
  · omega
theorem fldOk_parts {f : FldZ} (h : fldOkB f = true) : ∃ n : Nat, f.dim = n ∧ f.parts.length = n ∧ 1 ≤ n ∧ n ≤ 6 ∧ ∀ p ∈ f.parts, p.length ≤ 12 ∧ ∀ m ∈ p, MonFine n m := by
  simp only [fldOkB, Bool.and_eq_true, decide_eq_true_eq, dimB, List.all_eq_true] at h
  obtain ⟨⟨⟨h1, h2⟩, h3⟩, h4⟩ := h
  refine ⟨f.parts.length, h3.symm, rfl, by omega, by omega, fun p hp => ?_⟩
  have h5 := h4 p hp
  rw [← h3] at h5
  have := polyOk_facts h5
  exact ⟨this.2.2.1, this.2.2.2⟩
end Go.Proofs.Ytbcjhpgkodeoeaa

/- A polynomial whose monomials are put in order passes the test on polynomials. Plain: no program's step stands here. -/
namespace Go.Proofs.Ytbcjhpgkodeoeaa

/-- n variables, a degree of at most d -/
def MonIn (n : Nat) (d : Int) (m : MonZ) : Prop := m.pows.length = n ∧ (∀ x ∈ m.pows, 0 ≤ x) ∧ m.pows.sum ≤ d
theorem sum_ge {ps : List Int} (h : ∀ x ∈ ps, 0 ≤ x) : 0 ≤ ps.sum ∧ ∀ x ∈ ps, x ≤ ps.sum := by
  induction ps with
  | nil => simp
  | cons p ps ih =>
    obtain ⟨h1, h2⟩ := ih (fun x hx => h x (by simp [hx]))
    have h0 := h p (by simp)
    refine ⟨by rw [List.sum_cons]; omega, fun x hx => ?_⟩
    rw [List.sum_cons]
    rcases List.mem_cons.1 hx with rfl | hx
    · omega
    · have := h2 x hx; omega
theorem degZ_in {n : Nat} {m : MonZ} (h : MonIn n 5 m) : 0 ≤ degZ m.pows ∧ degZ m.pows ≤ 5 := by
  obtain ⟨_, h2, h3⟩ := h
  obtain ⟨h4, h5⟩ := sum_ge h2
  have : m.pows.all powIn = true := by
    simp only [List.all_eq_true, powIn, decide_eq_true_eq]
    intro x hx
    have h6 := h2 x hx
    have h7 := h5 x hx
    omega
  unfold degZ
  rw [if_pos this]
  omega
theorem polyOk_canon {p : List MonZ} {n : Nat} (h1 : 1 ≤ n) (h6 : n ≤ 6) (hc : Canon p) (hl : p.length ≤ 12) (hm : ∀ m ∈ p, MonIn n 5 m) : polyOkB p n = true := by
  rw [polyOkB_all (by simp [dimB]; omega) hl, List.all_eq_true]
  intro i hi
  have hi : i < p.length := by simpa using hi
  have hx : p[i]? = some p[i] := List.getElem?_eq_getElem hi
  have hmem : p[i] ∈ p := List.getElem_mem _
  have hn := hc.2.1 _ hmem
  have hd := degZ_in (hm _ hmem)
  have hmon : monOkB (n : Int) p[i] = true := by
    simp only [monOkB, Bool.and_eq_true, decide_eq_true_eq]
    exact ⟨⟨⟨hc.2.2 _ hmem, isNumB_yes hn.1 (by omega)⟩, by rw [(hm _ hmem).1]⟩, hd⟩
  unfold stepOkB
  rw [hx]
  simp only [hmon, Bool.true_and, Bool.or_eq_true, decide_eq_true_eq]
  by_cases h0 : i = 0
  · exact .inl h0
  · refine .inr ?_
    have hy : p[i - 1]? = some p[i - 1] := List.getElem?_eq_getElem (by omega)
    rw [hy]
    exact List.pairwise_iff_getElem.1 hc.1 (i - 1) i (by omega) hi (by omega)
end Go.Proofs.Ytbcjhpgkodeoeaa

/- The tests on paths, of the program and of the reference: what they return. Conditions: none. -/
namespace Go.Proofs.Ytbcjhpgkodeoeaa
open Go.RowKit

def rowOkB (dim : Int) (y : List Int) : Bool := decide ((y.length : Int) = dim) && y.all isNumB
def pathOkB (xs : List (List Int)) (dim : Int) : Bool := decide (1 ≤ xs.length ∧ xs.length ≤ 7) && xs.all (rowOkB dim)

theorem rowOkB_len {dim : Int} {y : List Int} (h : (y.length : Int) ≠ dim) : rowOkB dim y = false := by simp [rowOkB, h]
theorem rowOkB_all {dim : Int} {y : List Int} (h : (y.length : Int) = dim) : rowOkB dim y = y.all isNumB := by simp [rowOkB, h]
theorem pathOkB_len {dim : Int} {xs : List (List Int)} (h : ¬ (1 ≤ xs.length ∧ xs.length ≤ 7)) : pathOkB xs dim = false := by
  unfold pathOkB; rw [decide_eq_false h]; rfl
theorem pathOkB_all {dim : Int} {xs : List (List Int)} (h0 : 1 ≤ xs.length) (h1 : xs.length ≤ 7) : pathOkB xs dim = xs.all (rowOkB dim) := by
  unfold pathOkB; rw [decide_eq_true ⟨h0, h1⟩]; rfl

set_option maxHeartbeats 800000 in
theorem pathOk_any (v : Value) (xs : List (List Int)) (dim : Int) (w : World) (h : RdII w v xs) :
    Calls Try.prog 18 #[v, .int .i64 dim] w fun e w' => e = .returned (.bool (pathOkB xs dim)) ∧ w = w' := by
  obtain ⟨ad, len, cap, rfl, hl, hlc, hcm, h'⟩ := rdS_open h
  have hlen := Lib.hid hl
  clear h hl
  by_cases h0 : len = 0
  · subst h0
    go_enter Try.func18, Try.ntmps18
    go_wp2
    go_ret
    exact ⟨ret_bool (pathOkB_len (by rw [hlen.out]; omega)).symm, rfl⟩
  by_cases h7 : 7 < len
  · go_enter Try.func18, Try.ntmps18
    go_wp2
    go_ret
    exact ⟨ret_bool (pathOkB_len (by rw [hlen.out]; omega)).symm, rfl⟩
  have hgt : 1 ≤ len := by omega
  have hle : len ≤ 7 := by omega
  clear h0 h7
  have HF := Lib.hid (pathOkB_all (dim := dim) (xs := xs) (by rw [hlen.out]; exact hgt) (by rw [hlen.out]; exact hle))
  have hz : ((len : Int) == 0) = false := by simp; omega
  have hz7 : decide (7 < (len : Int)) = false := by simp; omega
  go_enter Try.func18, Try.ntmps18
  go_wp2
  go_loop [17] (fun i => ∃ k : Nat, k ≤ len ∧ i = .int .i64 k ∧ (xs.take k).all (rowOkB dim) = true) (fun i => len - (intOf i).toNat)
  case atStart => exact ⟨0, Nat.zero_le _, rfl, by simp⟩
  case round =>
    obtain ⟨k, hk, rfl, ha⟩ := hrel
    have HA := Lib.hid ha
    clear ha
    by_cases hlt : k < len
    · obtain ⟨b, off, ad', len', cap', x, rfl, hx, hcc, h6, h7, h8, h9, hbs⟩ := rdII_get h' hlt
      have HX := Lib.hid hx
      have H6 := Lib.hid h6
      clear hx h6
      by_cases hd : (len' : Int) = dim
      · have HR := Lib.hid (rowOkB_all (dim := dim) (y := x) (by rw [H6.out]; exact hd))
        subst hd
        cases hp : x.all isNumB
        · have HP := Lib.hid hp
          go_wp2_with (go_at_call 34; ((with_reducible refine (allNumbers_any _ x _ h9).mono ?_); rintro e w' ⟨rfl, rfl⟩))
          go_ret
          exact ⟨ret_bool (by rw [HF.out]; exact (all_false HX.out (HR.out.trans HP.out)).symm), rfl⟩
        · have HP := Lib.hid hp
          go_wp2_with (go_at_call 34; ((with_reducible refine (allNumbers_any _ x _ h9).mono ?_); rintro e w' ⟨rfl, rfl⟩))
          go_round
          case rel => exact ⟨k + 1, by omega, by go_num, all_snoc HX.out HA.out (HR.out.trans HP.out)⟩
          case measure => simp [intOf]; omega
      · have HR := Lib.hid (rowOkB_len (dim := dim) (y := x) (by rw [H6.out]; exact hd))
        go_wp2
        go_ret
        exact ⟨ret_bool (by rw [HF.out]; exact (all_false HX.out HR.out).symm), rfl⟩
    · go_wp2
      go_ret
      exact ⟨ret_bool (by rw [HF.out]; exact (all_done (by rw [hlen.out]; omega) HA.out).symm), rfl⟩

end Go.Proofs.Ytbcjhpgkodeoeaa
