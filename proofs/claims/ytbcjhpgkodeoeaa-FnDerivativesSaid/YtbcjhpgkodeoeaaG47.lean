/- The texts One, FAlong, SDer, JetAt in one: each says at its head what it proves. Conditions: as said there. -/
import Derived.Test.YtbcjhpgkodeoeaaG45
import Derived.Test.YtbcjhpgkodeoeaaG05
import Derived.Test.YtbcjhpgkodeoeaaG46
import Derived.Test.YtbcjhpgkodeoeaaG13
set_option linter.unusedSimpArgs false
set_option linter.unusedVariables false
/- The reference's derivative of a product of powers along vectors. Conditions: valid powers, a few vectors. -/
namespace Go.Proofs.Ytbcjhpgkodeoeaa
open Go.RowKit Go.Sort


theorem one_row {e size : Nat} {w w1 : World} (hown : w1.ownsRow 0 e 1 (.slice (some ⟨w.heap.size, 0, none⟩) size size) size (madeCells (Value.int .i64 0).cells (size * 1)).toList) (hg : w.grownBy w1 none) (hs : 1 ≤ size) :
    w1.cell? ⟨w.heap.size, 0, none⟩ = some (.int .i64 0) ∧ OwnI e (w1.setCell ⟨w.heap.size, 0, none⟩ (.int .i64 1)) (.slice (some ⟨w.heap.size, 0, none⟩) size size) (oneAt 1 size) [w.heap.size] ∧ Below w.heap.size w (w1.setCell ⟨w.heap.size, 0, none⟩ (.int .i64 1)) := by
  have hm0 : (madeCells (Value.int .i64 0).cells (size * 1)).toList = (List.replicate size (0 : Int)).map (Value.int .i64) := by
    rw [Nat.mul_one, List.map_replicate]; exact toList_madeCells_one _ _
  rw [hm0] at hown
  have hb : Below w.heap.size w w1 := (Below.refl _ _).grown hg (Nat.le_refl _) (fun k hk => by cases hk)
  have hsr := (hown.stored 0 (.int .i64 1)).1
  refine ⟨?_, ⟨?_, rfl, fun x hx => i64_of_bd (oneAt_nums (by omega) size x hx)⟩, hb.setCell (Nat.le_refl _) _⟩
  · rw [hown.cellAt 0 (by omega), List.getElem?_map, List.getElem?_replicate, if_pos (by omega)]
    rfl
  · rw [oneAt_len, oneAt, List.map_set]
    exact hsr

theorem rdIII_tail {w : World} {b off n cap : Nat} {x : List (List Int)} {xs : List (List (List Int))} (h : RdIII w (.slice (some ⟨b, off, none⟩) (n + 1) cap) (x :: xs)) {ad : Option Addr} (had : (if cap = 1 then some (⟨b, off, none⟩ : Addr) else some ⟨b, off + 1, none⟩) = ad) : RdIII w (.slice ad n (cap - 1)) xs := by
  obtain ⟨ad', cap', he, h1, h2, h3⟩ := h
  injection he with e1 e2 e3
  subst e3
  simp only [List.length_cons] at e2 h1 h3
  obtain rfl : n = xs.length := by omega
  refine ⟨_, _, rfl, by omega, by omega, fun hpos => ⟨b, off + 1, by rw [← had, if_neg (by omega)], fun i y hy => ?_⟩⟩
  obtain ⟨b', off', hb, hc⟩ := h3 (by omega)
  rw [← e1] at hb
  simp only [Option.some.injEq, Addr.mk.injEq] at hb
  obtain ⟨rfl, rfl, _⟩ := hb
  obtain ⟨us, hs, hu, hE⟩ := hc (i + 1) y (by simpa using hy)
  exact ⟨us, hs, fun j u hj => by have := hu j u hj; rwa [show off + 1 + i * 1 + j = off + (i + 1) * 1 + j by omega], hE⟩
theorem less_set {e W1h : Nat} {W w1 w2 : World} {ps : List Int} {gg n capn k : Nat} {x : Int} (hown : w2.ownsRow 0 e 1 (.slice (some ⟨gg, 0, none⟩) (0 + n) capn) (0 + n) ([] ++ ps.map (Value.int .i64))) (hb1 : Below W.heap.size W w1)
    (hg : w1.grownBy w2 (some W1h)) (h1 : W1h = W.heap.size) (hat : some W1h = some gg ∨ W.heap.size ≤ gg) (hx : ps[k]? = some x) (hx0 : 0 < x) (hx5 : x ≤ 5) (hp5 : ∀ x ∈ ps, 0 ≤ x ∧ x ≤ 5) (hn : ps.length = n) :
    w2.cell? ⟨gg, k, none⟩ = some (.int .i64 x) ∧ w2.frozen? ⟨gg, k, none⟩ = false ∧ OwnI e (w2.setCell ⟨gg, k, none⟩ (.int .i64 (x - 1))) (.slice (some ⟨gg, 0, none⟩) n capn) (ps.set k (x - 1)) [gg] ∧ Below W.heap.size W (w2.setCell ⟨gg, k, none⟩ (.int .i64 (x - 1))) := by
  rw [Nat.zero_add, List.nil_append] at hown
  have hgg : W.heap.size ≤ gg := by
    rcases hat with h | h
    · simp at h; omega
    · exact h
  have hB : Below W.heap.size W w2 := hb1.grown hg (Nat.le_trans (Nat.le_refl _) hb1.size) (fun k hk => by simp at hk; omega)
  have hk : k < ps.length := (List.getElem?_eq_some_iff.1 hx).1
  have hs := (hown.stored k (.int .i64 (x - 1))).1
  refine ⟨?_, hown.frozenAt k, ⟨by rw [List.length_set, hn, List.map_set]; exact hs, rfl, fun z hz => ?_⟩, hB.setCell hgg _⟩
  · rw [hown.cellAt k (by omega)]
    simp [hx]
  · rcases List.mem_or_eq_of_mem_set hz with hz | rfl
    · have := hp5 z hz; exact ⟨by omega, by omega⟩
    · exact ⟨by omega, by omega⟩

end Go.Proofs.Ytbcjhpgkodeoeaa

/- Derivatives of fields along directions, of the program and of the reference. Conditions: valid fields, a few directions. -/
namespace Go.Proofs.Ytbcjhpgkodeoeaa
open Go.RowKit Go.Sort

theorem fldOk_facts {f : FldZ} (h : fldOkB f = true) : ∃ n : Nat, f.dim = n ∧ f.parts.length = n ∧ 1 ≤ n ∧ n ≤ 6 ∧ ∀ p ∈ f.parts, p.length ≤ 12 ∧ ∀ m ∈ p, MonFine n m := by
  simp only [fldOkB, Bool.and_eq_true, decide_eq_true_eq, List.all_eq_true, dimB] at h
  obtain ⟨⟨h1, h2⟩, h3⟩ := h
  refine ⟨f.parts.length, h2.symm, rfl, by omega, by omega, fun p hp => ?_⟩
  have h4 := h3 p hp
  rw [← h2] at h4
  obtain ⟨_, _, h5, h6⟩ := polyOk_facts h4
  exact ⟨h5, h6⟩
def fldD (parts : List (List MonZ)) (ys : List (List Int)) (al : List (List (List Int))) (size : Nat) : List (List Int) := parts.map fun p => derL p ys al size
def fldE (parts : List (List MonZ)) (ys : List (List Int)) (al : List (List (List Int))) : List (List Int) := parts.map fun p => dervL p ys al

set_option maxRecDepth 100000 in
set_option maxHeartbeats 3200000 in
theorem fieldAlong_any (vf vy va : Value) (f : FldZ) (ys : List (List Int)) (al : List (List (List Int))) (n size : Nat) (w : World) (hf : RdFld w vf f) (hy : RdII w vy ys) (ha : RdIII w va al)
    (hfl : f.parts.length = n) (hfp : ∀ p ∈ f.parts, p.length ≤ 12 ∧ ∀ m ∈ p, MonFine n m) (hn1 : 1 ≤ n) (hn6 : n ≤ 6) (hs1 : 1 ≤ size) (hs7 : size ≤ 7) (hyl : ys.length = n) (hyj : AllJ size ys) (hal : al.length ≤ 8) (haj : ∀ a ∈ al, a.length = n ∧ AllJ size a) :
    Calls Try.prog 21 #[vf, vy, va] w (Gives (fun w' v fp => OwnII 68 3 w' v (fldD f.parts ys al size) fp) w) := by
  obtain ⟨vP, rfl, hI, hp⟩ := hf
  obtain ⟨ad2, len2, cap2, rfl, hl2, hlc2, hcm2, h2'⟩ := rdS_open hy
  obtain ⟨ad3, len3, cap3, rfl, hl3, hlc3, hcm3, h3'⟩ := rdS_open ha
  obtain ⟨W0, hW0⟩ : ∃ W, W = w.alloc (.cells #[.int .i64 f.dim, vP] 29) := ⟨_, rfl⟩
  obtain ⟨W, hW⟩ : ∃ W, W = W0.alloc (.cells #[] 68) := ⟨_, rfl⟩
  have hb0 : Below w.heap.size w W0 := hW0 ▸ (Below.refl _ _).alloc (Nat.le_refl _) _
  have hsz0 : W0.heap.size = w.heap.size + 1 := by rw [hW0]; simp
  have hbW : Below w.heap.size w W := hW ▸ hb0.alloc (by omega) _
  obtain ⟨ad, len, cap, rfl, hl, hlc, hcm, h'⟩ := rdS_open hp
  have hd1 : W0.cell? ⟨w.heap.size, 1, none⟩ = some (.slice ad len cap) := by rw [hW0]; simp
  have hd1W : W.cell? ⟨w.heap.size, 1, none⟩ = some (.slice ad len cap) := by rw [hW, hW0]; simp
  obtain rfl : n = len := by omega
  have HO0 := Lib.hid (show OwnII 68 3 W (.slice (some ⟨w.heap.size + 1, 0, none⟩) 0 0) [] [w.heap.size + 1] from ⟨[], [], by
    have := World.ownsRow_lit (base := 0) (e := 68) (size := 1) W0 #[] 0 (Nat.zero_le _) (Nat.zero_le _) rfl
    rw [hW, ← hsz0]; simpa using this, by simp, rfl, rfl, by simp⟩)
  have HL := Lib.hid hl
  have HFP := Lib.hid hfp
  have HYL := Lib.hid hyl
  have HYJ := Lib.hid hyj
  have HAL := Lib.hid (hl3 ▸ hal)
  have HAL2 := Lib.hid hal
  have HAJ := Lib.hid haj
  have HBW := Lib.hid hbW
  have HW := Lib.hid hW
  have HW0 := Lib.hid hW0
  clear hp hy ha hl hl2 hl3 hfl hfp hyl hyj hal haj hW hW0 hb0 hsz0 hd1 hbW
  obtain ⟨j1, hj1, hw0, hw1, hw2⟩ := info_parts Try.info_jet
  go_enter Try.func21, Try.ntmps21
  go_wp2
  rw [← HW0.out, ← HW.out]
  go_loopw [7, 14] (fun u i wr => ∃ (k : Nat) (fs : List Nat), k ≤ n ∧ i = .int .i64 k ∧ OwnII 68 3 wr u ((fldD f.parts ys al size).take k) fs ∧ (∀ b ∈ fs, w.heap.size ≤ b) ∧ Below w.heap.size w wr) (fun _ i _ => n - (intOf i).toNat)
  case atStart => exact ⟨0, [w.heap.size + 1], Nat.zero_le _, rfl, by simpa using HO0.out, by simp, HBW.out⟩
  case round =>
    obtain ⟨wk, rfl⟩ : ∃ W, W = wr := ⟨_, rfl⟩
    obtain ⟨k, fs0, hk, rfl, ho, hf, hb⟩ := hrel
    clear HO0
    have htl : (fldD f.parts ys al size).length = n := by simp [fldD, HL.out]
    by_cases hlt : k < n
    case neg =>
      obtain rfl : k = n := by omega
      rw [List.take_of_length_le (by omega)] at ho
      go_wp2
      go_ret
      exact ⟨_, fs0, rfl, ho, hf, hb⟩
    have hkl : ((fldD f.parts ys al size).take k).length = k := by rw [List.length_take]; omega
    obtain ⟨us, fs, hown, hone, hels, rfl, hnd⟩ := ho
    have HOWN := Lib.hid hown
    rw [hkl] at hown
    obtain ⟨adu, capu, rfl, hluc, hcum, _⟩ := row_open hown
    have HNU := Lib.hid hown
    have HONE := Lib.hid hone
    have HELS := Lib.hid hels
    have HND := Lib.hid hnd
    have HF := Lib.hid hf
    have HKL := Lib.hid hkl
    obtain ⟨b, off, ad', len', cap', x, rfl, hx, hcx, h6, h7, h8, h9, hbs⟩ := rdMss_get (rdMss_mono hb h') hlt
    obtain ⟨hx12, hxm⟩ := HFP.out x (List.mem_of_getElem? hx)
    have M := Lib.hid (derived_any _ _ _ x ys al n size wk h9 (rdII_mono hb h2') (rdIII_mono hb h3') hx12 hxm hn1 hn6 hs1 hs7 HYL.out HYJ.out HAL2.out HAJ.out)
    have hsn : (fldD f.parts ys al size).take (k + 1) = (fldD f.parts ys al size).take k ++ [derL x ys al size] := take_snoc (by simp [fldD, hx])
    have HSN := Lib.hid hsn
    have HB := Lib.hid hb
    clear hown hone hels hnd hf hkl htl hx hx12 hxm h6 h9 hsn hbs hb
    go_wp2_with fail
    refine (M.out).mono ?_
    rintro e wa ⟨p1, fp1, rfl, hop1, hfp1, hba⟩
    obtain ⟨adp, lenp, capp, rfl, hlp, hlpc, hcpm, hownp, _, hfe⟩ := ownI_open hop1
    have hal : Below wa.heap.size wa (wa.alloc (.cells #[.slice adp lenp capp] 68)) := (Below.refl _ _).alloc (Nat.le_refl _) _
    have HNQ := Lib.hid (ownsRow_only HNU.out (Only.of_below (fp := []) hba) (by simp))
    have HS := Lib.hid (fun (w1 : World) (gg capn : Nat) (hown1 : w1.ownsRow 0 68 1 (.slice (some ⟨gg, 0, none⟩) (k + 1) capn) (k + 1) (us.flatten ++ [.slice adp lenp capp]))
        (hgrow : (wa.alloc (.cells #[.slice adp lenp capp] 68)).grownBy w1 (Value.slice adu k capu).ownBlock) (hat : (Value.slice adu k capu).ownBlock = some gg ∨ gg = wa.heap.size + 1) =>
      ownII_push (W := w) HONE.out HELS.out HND.out HOWN.out HKL.out hop1 hfp1 HF.out HB.out hba hal hown1 hgrow (fun b hb => by
        simp [Value.ownBlock] at hb
        subst hb
        rcases hat with hat | hat
        · left; exact hat
        · right; rw [hat]; simp))
    clear hop1 hlp hfe hownp hal hfp1 hba
    go_wp2_with (first | (at_builtin; refine wpList_append_lies _ rfl _ _ _ rfl 0 68 j1 _ 1 24 Try.underlying47 hj1 hw0 hw1 hw2 rfl (by omega) (.slice adu k capu) k _ (by rfl) (HNQ.out.alloc _) ⟨wa.heap.size, 0, none⟩ 1 1 [.slice adp lenp capp] (by rfl) (by rfl) (World.news_of_block (cs := #[.slice adp lenp capp]) (t := 68) (fr := (0, 0)) (heap_alloc_new wa _)) (by simp [Value.oneCell']) (by omega) (by unfold maxLen; omega) (by omega) (by simp) (wa.heap.size + 1) (by simp) ?_; intro gg capn w1 hown1 hgrow hat hlt1; obtain ⟨f', hP1, hP2, hP3⟩ := HS.out w1 gg capn hown1 hgrow hat; have HPP := Lib.hid hP1))
    all_goals (
      go_roundw
      case rel => exact ⟨k + 1, f', by omega, by go_num, by rw [HSN.out]; exact HPP.out, hP2, hP3⟩
      case measure => simp [intOf]; omega)
end Go.Proofs.Ytbcjhpgkodeoeaa

/- The reference's derivative of a field along vectors. Conditions: valid fields, a few vectors. -/
namespace Go.Proofs.Ytbcjhpgkodeoeaa
open Go.RowKit Go.Sort

end Go.Proofs.Ytbcjhpgkodeoeaa

/- Jets of a path, the number of coordinates in any spelling. Conditions: as for the jets. -/
namespace Go.Proofs.Ytbcjhpgkodeoeaa
open Go.RowKit Go.Sort

theorem jets_at (v : Value) (xs : List (List Int)) (n : Nat) (nz : Int) (w : World) (hz : nz = (n : Int)) (h : RdII w v xs) (hn : n ≤ 2097152) (hx7 : xs.length ≤ 7) (hrow : ∀ y ∈ xs, y.length = n) :
    Calls Try.prog 19 #[v, .int .i64 nz] w (Gives (fun w' v fp => OwnII 68 3 w' v (turnZ xs n) fp) w) := by
  subst hz
  exact jets_any v xs n w h hn hx7 hrow

end Go.Proofs.Ytbcjhpgkodeoeaa
