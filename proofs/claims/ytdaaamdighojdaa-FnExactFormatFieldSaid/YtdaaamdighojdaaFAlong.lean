/- Derivatives of fields along directions, of the program and of the reference. Conditions: valid fields, a few directions. -/
import Derived.Test.YtdaaamdighojdaaDer
import Derived.Test.YtdaaamdighojdaaOne
set_option linter.unusedSimpArgs false
set_option linter.unusedVariables false
namespace Go.Proofs.Ytdaaamdighojdaa
open Go.RowKit Go.Sort

theorem fldOk_facts {f : FldZ} (h : fldOkB f = true) : ∃ n : Nat, f.dim = n ∧ f.parts.length = n ∧ 1 ≤ n ∧ n ≤ 6 ∧ ∀ p ∈ f.parts, p.length ≤ 12 ∧ ∀ m ∈ p, MonFine n m := by
  simp only [fldOkB, Bool.and_eq_true, decide_eq_true_eq, List.all_eq_true, dimB] at h
  obtain ⟨⟨h1, h2⟩, h3⟩ := h
  refine ⟨f.parts.length, h2.symm, rfl, by omega, by omega, fun p hp => ?_⟩
  have h4 := h3 p hp
  rw [← h2] at h4
  obtain ⟨_, _, h5, h6⟩ := polyOk_facts h4
  exact ⟨h5, h6⟩
def fldD (parts : List (List MonZ)) (ys : List (List Int)) (al : List (List (List Int))) (size : Nat) : List (List Int) := parts.map fun p => derL p ys al size
def fldE (parts : List (List MonZ)) (ys : List (List Int)) (al : List (List (List Int))) : List (List Int) := parts.map fun p => dervL p ys al

set_option maxRecDepth 100000 in
set_option maxHeartbeats 3200000 in
theorem fieldAlong_any (vf vy va : Value) (f : FldZ) (ys : List (List Int)) (al : List (List (List Int))) (n size : Nat) (w : World) (hf : RdFld w vf f) (hy : RdII w vy ys) (ha : RdIII w va al)
    (hfl : f.parts.length = n) (hfp : ∀ p ∈ f.parts, p.length ≤ 12 ∧ ∀ m ∈ p, MonFine n m) (hn1 : 1 ≤ n) (hn6 : n ≤ 6) (hs1 : 1 ≤ size) (hs7 : size ≤ 7) (hyl : ys.length = n) (hyj : AllJ size ys) (hal : al.length ≤ 8) (haj : ∀ a ∈ al, a.length = n ∧ AllJ size a) :
    Calls Try.prog 92 #[vf, vy, va] w (Gives (fun w' v fp => OwnII 78 3 w' v (fldD f.parts ys al size) fp) w) := by
  obtain ⟨vP, rfl, hI, hp⟩ := hf
  obtain ⟨ad2, len2, cap2, rfl, hl2, hlc2, hcm2, h2'⟩ := rdS_open hy
  obtain ⟨ad3, len3, cap3, rfl, hl3, hlc3, hcm3, h3'⟩ := rdS_open ha
  obtain ⟨W0, hW0⟩ : ∃ W, W = w.alloc (.cells #[.int .i64 f.dim, vP] 37) := ⟨_, rfl⟩
  obtain ⟨W, hW⟩ : ∃ W, W = W0.alloc (.cells #[] 78) := ⟨_, rfl⟩
  have hb0 : Below w.heap.size w W0 := hW0 ▸ (Below.refl _ _).alloc (Nat.le_refl _) _
  have hsz0 : W0.heap.size = w.heap.size + 1 := by rw [hW0]; simp
  have hbW : Below w.heap.size w W := hW ▸ hb0.alloc (by omega) _
  obtain ⟨ad, len, cap, rfl, hl, hlc, hcm, h'⟩ := rdS_open hp
  have hd1 : W0.cell? ⟨w.heap.size, 1, none⟩ = some (.slice ad len cap) := by rw [hW0]; simp
  have hd1W : W.cell? ⟨w.heap.size, 1, none⟩ = some (.slice ad len cap) := by rw [hW, hW0]; simp
  obtain rfl : n = len := by omega
  have HO0 := Lib.hid (show OwnII 78 3 W (.slice (some ⟨w.heap.size + 1, 0, none⟩) 0 0) [] [w.heap.size + 1] from ⟨[], [], by
    have := World.ownsRow_lit (base := 0) (e := 78) (size := 1) W0 #[] 0 (Nat.zero_le _) (Nat.zero_le _) rfl
    rw [hW, ← hsz0]; simpa using this, by simp, rfl, rfl, by simp⟩)
  have HL := Lib.hid hl
  have HFP := Lib.hid hfp
  have HYL := Lib.hid hyl
  have HYJ := Lib.hid hyj
  have HAL := Lib.hid (hl3 ▸ hal)
  have HAL2 := Lib.hid hal
  have HAJ := Lib.hid haj
  have HBW := Lib.hid hbW
  have HW := Lib.hid hW
  have HW0 := Lib.hid hW0
  clear hp hy ha hl hl2 hl3 hfl hfp hyl hyj hal haj hW hW0 hb0 hsz0 hd1 hbW
  obtain ⟨j1, hj1, hw0, hw1, hw2⟩ := info_parts Try.info_jet
  go_enter Try.func92, Try.ntmps92
  go_wp2
  rw [← HW0.out, ← HW.out]
  go_loopw [7, 14] (fun u i wr => ∃ (k : Nat) (fs : List Nat), k ≤ n ∧ i = .int .i64 k ∧ OwnII 78 3 wr u ((fldD f.parts ys al size).take k) fs ∧ (∀ b ∈ fs, w.heap.size ≤ b) ∧ Below w.heap.size w wr) (fun _ i _ => n - (intOf i).toNat)
  case atStart => exact ⟨0, [w.heap.size + 1], Nat.zero_le _, rfl, by simpa using HO0.out, by simp, HBW.out⟩
  case round =>
    obtain ⟨wk, rfl⟩ : ∃ W, W = wr := ⟨_, rfl⟩
    obtain ⟨k, fs0, hk, rfl, ho, hf, hb⟩ := hrel
    clear HO0
    have htl : (fldD f.parts ys al size).length = n := by simp [fldD, HL.out]
    by_cases hlt : k < n
    case neg =>
      obtain rfl : k = n := by omega
      rw [List.take_of_length_le (by omega)] at ho
      go_wp2
      go_ret
      exact ⟨_, fs0, rfl, ho, hf, hb⟩
    have hkl : ((fldD f.parts ys al size).take k).length = k := by rw [List.length_take]; omega
    obtain ⟨us, fs, hown, hone, hels, rfl, hnd⟩ := ho
    have HOWN := Lib.hid hown
    rw [hkl] at hown
    obtain ⟨adu, capu, rfl, hluc, hcum, _⟩ := row_open hown
    have HNU := Lib.hid hown
    have HONE := Lib.hid hone
    have HELS := Lib.hid hels
    have HND := Lib.hid hnd
    have HF := Lib.hid hf
    have HKL := Lib.hid hkl
    obtain ⟨b, off, ad', len', cap', x, rfl, hx, hcx, h6, h7, h8, h9, hbs⟩ := rdMss_get (rdMss_mono hb h') hlt
    obtain ⟨hx12, hxm⟩ := HFP.out x (List.mem_of_getElem? hx)
    have M := Lib.hid (derived_any _ _ _ x ys al n size wk h9 (rdII_mono hb h2') (rdIII_mono hb h3') hx12 hxm hn1 hn6 hs1 hs7 HYL.out HYJ.out HAL2.out HAJ.out)
    have hsn : (fldD f.parts ys al size).take (k + 1) = (fldD f.parts ys al size).take k ++ [derL x ys al size] := take_snoc (by simp [fldD, hx])
    have HSN := Lib.hid hsn
    have HB := Lib.hid hb
    clear hown hone hels hnd hf hkl htl hx hx12 hxm h6 h9 hsn hbs hb
    go_wp2_with fail
    refine (M.out).mono ?_
    rintro e wa ⟨p1, fp1, rfl, hop1, hfp1, hba⟩
    obtain ⟨adp, lenp, capp, rfl, hlp, hlpc, hcpm, hownp, _, hfe⟩ := ownI_open hop1
    have hal : Below wa.heap.size wa (wa.alloc (.cells #[.slice adp lenp capp] 78)) := (Below.refl _ _).alloc (Nat.le_refl _) _
    have HNQ := Lib.hid (ownsRow_only HNU.out (Only.of_below (fp := []) hba) (by simp))
    have HS := Lib.hid (fun (w1 : World) (gg capn : Nat) (hown1 : w1.ownsRow 0 78 1 (.slice (some ⟨gg, 0, none⟩) (k + 1) capn) (k + 1) (us.flatten ++ [.slice adp lenp capp]))
        (hgrow : (wa.alloc (.cells #[.slice adp lenp capp] 78)).grownBy w1 (Value.slice adu k capu).ownBlock) (hat : (Value.slice adu k capu).ownBlock = some gg ∨ gg = wa.heap.size + 1) =>
      ownII_push (W := w) HONE.out HELS.out HND.out HOWN.out HKL.out hop1 hfp1 HF.out HB.out hba hal hown1 hgrow (fun b hb => by
        simp [Value.ownBlock] at hb
        subst hb
        rcases hat with hat | hat
        · left; exact hat
        · right; rw [hat]; simp))
    clear hop1 hlp hfe hownp hal hfp1 hba
    go_wp2_with (first | (at_builtin; refine wpList_append_lies _ rfl _ _ _ rfl 0 78 j1 _ 1 24 Try.underlying76 hj1 hw0 hw1 hw2 rfl (by omega) (.slice adu k capu) k _ (by rfl) (HNQ.out.alloc _) ⟨wa.heap.size, 0, none⟩ 1 1 [.slice adp lenp capp] (by rfl) (by rfl) (World.news_of_block (cs := #[.slice adp lenp capp]) (t := 78) (fr := (0, 0)) (heap_alloc_new wa _)) (by simp [Value.oneCell']) (by omega) (by unfold maxLen; omega) (by omega) (by simp) (wa.heap.size + 1) (by simp) ?_; intro gg capn w1 hown1 hgrow hat hlt1; obtain ⟨f', hP1, hP2, hP3⟩ := HS.out w1 gg capn hown1 hgrow hat; have HPP := Lib.hid hP1))
    all_goals (
      go_roundw
      case rel => exact ⟨k + 1, f', by omega, by go_num, by rw [HSN.out]; exact HPP.out, hP2, hP3⟩
      case measure => simp [intOf]; omega)
end Go.Proofs.Ytdaaamdighojdaa
