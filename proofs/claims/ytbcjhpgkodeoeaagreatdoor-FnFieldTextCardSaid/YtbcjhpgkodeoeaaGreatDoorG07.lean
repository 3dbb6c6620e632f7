/- The texts SortP, ElsP, SPoly, Same in one: each says at its head what it proves. Conditions: as said there. -/
import Derived.Test.YtbcjhpgkodeoeaaGreatDoorG06
set_option linter.unusedSimpArgs false
set_option linter.unusedVariables false
/- Sorting by insertion and by merging in place, in plain lists. Conditions: none. -/
namespace Go.Proofs.YtbcjhpgkodeoeaaGreatDoor
open Go.RowKit Go.Sort

/-- A monomial in a row: its number, the value that holds its powers, the powers, and their blocks. -/
structure ElS where
  c : Int
  ad : Option Addr
  l : Nat
  k : Nat
  ps : List Int
  f : List Nat
abbrev ElS.v (x : ElS) : Value := .slice x.ad x.l x.k
def encS (x : ElS) : List Value := [.int .i64 x.c, x.v]
def rowS (X : List ElS) : List Value := (X.map encS).flatten
def monS (x : ElS) : MonZ := ⟨x.c, x.ps⟩
theorem rowS_append (X Y : List ElS) : rowS (X ++ Y) = rowS X ++ rowS Y := by simp [rowS]
theorem rowS_cons (x : ElS) (Y : List ElS) : rowS (x :: Y) = [.int .i64 x.c, x.v] ++ rowS Y := by simp [rowS, encS]
theorem rowS_length : ∀ X : List ElS, (rowS X).length = X.length * 2
  | [] => rfl
  | x :: X => by rw [rowS_cons, List.length_append, rowS_length X]; simp; omega
theorem rowS_at : ∀ {X : List ElS} {k : Nat} {x : ElS}, X[k]? = some x → (rowS X)[k * 2]? = some (.int .i64 x.c) ∧ (rowS X)[k * 2 + 1]? = some x.v
  | [], _, _, h => by simp at h
  | y :: X, 0, x, h => by
    simp at h
    subst h
    simp [rowS_cons]
  | y :: X, k + 1, x, h => by
    have ih := rowS_at (X := X) (k := k) (x := x) (by simpa using h)
    rw [rowS_cons, show (k + 1) * 2 = k * 2 + 2 by omega]
    refine ⟨?_, ?_⟩
    · rw [List.getElem?_append_right (by simp)]
      simpa using ih.1
    · rw [List.getElem?_append_right (by simp)]
      simpa using ih.2
theorem rowS_set : ∀ {X : List ElS} {k : Nat} {x y : ElS}, X[k]? = some x → ((rowS X).set (k * 2) (.int .i64 y.c)).set (k * 2 + 1) y.v = rowS (X.set k y)
  | [], _, _, _, h => by simp at h
  | z :: X, 0, x, y, _ => by simp [rowS_cons]
  | z :: X, k + 1, x, y, h => by
    have ih := rowS_set (X := X) (k := k) (x := x) (y := y) (by simpa using h)
    rw [rowS_cons, show (k + 1) * 2 = k * 2 + 2 by omega, List.set_cons_succ, rowS_cons, List.set_append_right _ _ (by simp), List.set_append_right _ _ (by simp)]
    simp only [List.length_cons, List.length_nil]
    rw [show k * 2 + 2 - (0 + 1 + 1) = k * 2 by omega, show k * 2 + 2 + 1 - (0 + 1 + 1) = k * 2 + 1 by omega, ih]

/-- x may stand ahead of y. -/
def leS (a b : ElS) : Prop := ltL a.ps b.ps = false
/-- x must stand ahead of y. -/
def ltS (a b : ElS) : Bool := ltL b.ps a.ps
theorem leS_of_not {a b : ElS} (h : ltS b a = false) : leS a b := h
theorem leS_of_lt {a b : ElS} (h : ltS a b = true) : leS a b := by
  unfold leS
  cases h2 : ltL a.ps b.ps with
  | false => rfl
  | true =>
    have := ltL_trans h2 h
    rw [ltL_irr] at this
    cases this
theorem leS_trans {a b c : ElS} (h : leS a b) (k : leS b c) : leS a c := by
  unfold leS at *
  cases h1 : ltL a.ps c.ps with
  | false => rfl
  | true =>
    cases h2 : ltL c.ps b.ps with
    | true => rw [ltL_trans h1 h2] at h; cases h
    | false => rw [← ltL_tri k h2] at h1; rw [h1] at h; cases h
def SrtS (X : List ElS) : Prop := X.Pairwise leS
theorem srt_nil : SrtS [] := List.Pairwise.nil
theorem srt_one (x : ElS) : SrtS [x] := by simp [SrtS]
theorem srt_append {X Y : List ElS} : SrtS (X ++ Y) ↔ SrtS X ∧ SrtS Y ∧ ∀ x ∈ X, ∀ y ∈ Y, leS x y := List.pairwise_append
theorem srt_take {X : List ElS} (h : SrtS X) (k : Nat) : SrtS (X.take k) := List.Pairwise.sublist (List.take_sublist _ _) h
theorem srt_drop {X : List ElS} (h : SrtS X) (k : Nat) : SrtS (X.drop k) := List.Pairwise.sublist (List.drop_sublist _ _) h
theorem srt_at {X : List ElS} (h : SrtS X) {i j : Nat} {x y : ElS} (hi : X[i]? = some x) (hj : X[j]? = some y) (hij : i < j) : leS x y := by
  obtain ⟨h1, rfl⟩ := List.getElem?_eq_some_iff.1 hi
  obtain ⟨h2, rfl⟩ := List.getElem?_eq_some_iff.1 hj
  exact List.pairwise_iff_getElem.1 h i j h1 h2 hij

/-- An element put into its place. -/
theorem ins_done {S1 S2 : List ElS} {x : ElS} (h : SrtS (S1 ++ S2)) (h2 : ∀ y ∈ S2, ltS x y = true) (h1 : S1 = [] ∨ ∃ T y, S1 = T ++ [y] ∧ ltS x y = false) : SrtS (S1 ++ x :: S2) := by
  rw [srt_append] at h
  rw [srt_append]
  refine ⟨h.1, List.pairwise_cons.2 ⟨fun y hy => leS_of_lt (h2 y hy), h.2.1⟩, fun a ha b hb => ?_⟩
  have hax : leS a x := by
    rcases h1 with rfl | ⟨T, y, rfl, hy⟩
    · cases ha
    · rw [List.mem_append] at ha
      rcases ha with ha | ha
      · exact leS_trans ((srt_append.1 h.1).2.2 a ha y (by simp)) (leS_of_not hy)
      · simp at ha; subst ha; exact leS_of_not hy
  simp at hb
  rcases hb with rfl | hb
  · exact hax
  · exact leS_trans hax (leS_of_lt (h2 b hb))

/-- Two halves that were sorted, each merged out of parts of two sorted lists. -/
theorem merge_done {L1 L2 R1 R2 S1 S2 : List ElS} (hL : SrtS (L1 ++ L2)) (hR : SrtS (R1 ++ R2)) (h1 : L1 = [] ∨ R2 = [] ∨ ∃ x y, L1[L1.length - 1]? = some x ∧ R2[0]? = some y ∧ leS x y)
    (h2 : L2 = [] ∨ R1 = [] ∨ ∃ x y, R1[R1.length - 1]? = some x ∧ L2[0]? = some y ∧ leS x y) (p1 : S1.Perm (L1 ++ R1)) (p2 : S2.Perm (L2 ++ R2)) (s1 : SrtS S1) (s2 : SrtS S2) :
    SrtS (S1 ++ S2) ∧ (S1 ++ S2).Perm ((L1 ++ L2) ++ (R1 ++ R2)) := by
  rw [srt_append] at hL hR
  have key : ∀ (A B : List ElS) (x y : ElS), SrtS A → SrtS B → A[A.length - 1]? = some x → B[0]? = some y → leS x y → ∀ a ∈ A, ∀ b ∈ B, leS a b := by
    intro A B x y hA hB hx hy hxy a ha b hb
    obtain ⟨i, hi, rfl⟩ := List.getElem_of_mem ha
    obtain ⟨j, hj, rfl⟩ := List.getElem_of_mem hb
    have hax : leS A[i] y := by
      by_cases hil : i = A.length - 1
      · subst hil
        rw [List.getElem?_eq_getElem hi] at hx
        simp at hx
        rw [hx]; exact hxy
      · exact leS_trans (srt_at hA (List.getElem?_eq_getElem hi) hx (by omega)) hxy
    by_cases hj0 : j = 0
    · subst hj0
      rw [List.getElem?_eq_getElem hj] at hy
      simp at hy
      rw [hy]; exact hax
    · exact leS_trans hax (srt_at hB hy (List.getElem?_eq_getElem hj) (by omega))
  refine ⟨srt_append.2 ⟨s1, s2, fun a ha b hb => ?_⟩, ?_⟩
  · rw [p1.mem_iff, List.mem_append] at ha
    rw [p2.mem_iff, List.mem_append] at hb
    rcases ha with ha | ha <;> rcases hb with hb | hb
    · exact hL.2.2 a ha b hb
    · rcases h1 with rfl | rfl | ⟨x, y, hx, hy, hxy⟩
      · cases ha
      · cases hb
      · exact key L1 R2 x y hL.1 hR.2.1 hx hy hxy a ha b hb
    · rcases h2 with rfl | rfl | ⟨x, y, hx, hy, hxy⟩
      · cases hb
      · cases ha
      · exact key R1 L2 x y hR.1 hL.2.1 hx hy hxy a ha b hb
    · exact hR.2.2 a ha b hb
  · refine (p1.append p2).trans ?_
    rw [List.append_assoc, List.append_assoc]
    refine List.Perm.append_left _ ?_
    rw [← List.append_assoc, ← List.append_assoc]
    exact List.Perm.append_right _ List.perm_append_comm

theorem at_mid {A C : List ElS} {x : ElS} {k : Nat} (hk : A.length = k) : (A ++ x :: C)[k]? = some x := by subst hk; simp
theorem set_mid' {A C : List ElS} {x y : ElS} {k : Nat} (hk : A.length = k) : (A ++ x :: C).set k y = A ++ y :: C := by subst hk; simp
end Go.Proofs.YtbcjhpgkodeoeaaGreatDoor

/- Rows of monomials of the call's own, element by element. Conditions: none. -/
namespace Go.Proofs.YtbcjhpgkodeoeaaGreatDoor
open Go.RowKit Go.Sort

def keepE (X : List ElS) : List ElS := X.filter fun x => decide (x.c ≠ 0)
theorem keepE_snoc (X : List ElS) (x : ElS) : keepE (X ++ [x]) = keepE X ++ if x.c = 0 then [] else [x] := by
  by_cases h : x.c = 0 <;> simp [keepE, h]

-- a row of monomials of the call's own, element by element
theorem ownEls_S {e : Nat} {w : World} : ∀ {us : List (List Value)} {xs : List MonZ} {fs : List Nat}, OwnEls (OElMon e) w us xs fs →
    ∃ X : List ElS, X.map monS = xs ∧ rowS X = us.flatten ∧ fs = X.flatMap ElS.f ∧ ∀ x ∈ X, I64 x.c ∧ OwnI e w x.v x.ps x.f
  | [], [], fs, h => ⟨[], rfl, rfl, h, fun x hx => by cases hx⟩
  | [], _ :: _, _, h => by simp [OwnEls] at h
  | _ :: _, [], _, h => by simp [OwnEls] at h
  | u :: us, m :: xs, fs, h => by
    obtain ⟨f, fs', rfl, ⟨vP, rfl, hI, ho⟩, h2⟩ := h
    obtain ⟨X, h3, h4, h5, h6⟩ := ownEls_S h2
    obtain ⟨ad, l, k, rfl, _⟩ := ownI_open ho
    refine ⟨⟨m.coef, ad, l, k, m.pows, f⟩ :: X, by simp [monS, h3], by rw [rowS_cons, h4, List.flatten_cons], by simp [h5], fun x hx => ?_⟩
    rw [List.mem_cons] at hx
    rcases hx with rfl | hx
    · exact ⟨hI, ho⟩
    · exact h6 x hx
theorem s_ownEls {e : Nat} {w : World} : ∀ {X : List ElS}, (∀ x ∈ X, I64 x.c ∧ OwnI e w x.v x.ps x.f) → OwnEls (OElMon e) w (X.map encS) (X.map monS) (X.flatMap ElS.f)
  | [], _ => rfl
  | x :: X, h => ⟨x.f, X.flatMap ElS.f, by simp, ⟨x.v, rfl, (h x (by simp)).1, (h x (by simp)).2⟩, s_ownEls (fun y hy => h y (by simp [hy]))⟩
theorem s_ownMs {e2 e : Nat} {w : World} {v : Value} {X : List ElS} (hr : w.ownsRow 0 e2 2 v X.length (rowS X)) (h : ∀ x ∈ X, I64 x.c ∧ OwnI e w x.v x.ps x.f) (hn : (v.ownBlock.toList ++ X.flatMap ElS.f).Nodup) :
    OwnMs e2 e w v (X.map monS) (v.ownBlock.toList ++ X.flatMap ElS.f) :=
  ⟨X.map encS, X.flatMap ElS.f, by rw [List.length_map]; exact hr, fun u hu => by
    obtain ⟨x, _, rfl⟩ := List.mem_map.1 hu
    rfl, s_ownEls h, rfl, hn⟩

theorem fresh_only {fp : List Nat} {w w' : World} {g' : Nat} (h : Only (g' :: fp) w w') (hg : w.heap.size ≤ g') : Only fp w w' :=
  ⟨h.os, h.tape, h.output, h.size, fun k hk hn => h.block k hk (by simp only [List.mem_cons, not_or]; exact ⟨by omega, hn⟩)⟩

theorem keepE_map (X : List ElS) : (keepE X).map monS = keptL (X.map monS) := by
  unfold keepE keptL
  rw [List.filter_map]
  rfl
theorem sub_flat {Y X : List ElS} (h : Y.Sublist X) : (Y.flatMap ElS.f).Sublist (X.flatMap ElS.f) := by
  induction h with
  | slnil => exact List.Sublist.refl _
  | cons a _ ih => rw [List.flatMap_cons]; exact ih.trans (List.sublist_append_right _ _)
  | cons_cons a _ ih => rw [List.flatMap_cons, List.flatMap_cons]; exact ih.append_left _
theorem keepE_sub (X : List ElS) : ((keepE X).flatMap ElS.f).Sublist (X.flatMap ElS.f) := sub_flat List.filter_sublist
end Go.Proofs.YtbcjhpgkodeoeaaGreatDoor

/- The reference's tests on polynomials: what they return. Conditions: powers of at most 1048576 elements. -/
namespace Go.Proofs.YtbcjhpgkodeoeaaGreatDoor
open Go.RowKit Go.Sort

theorem l1In_eq {n lo hi : Int} {b : Bool} (h : inB n lo hi = b) (w : World) : Calls Tryz.prog 131 #[.int .i64 n, .int .i64 lo, .int .i64 hi] w fun e w' => e = .returned (.bool b) ∧ w = w' := h ▸ l1In_any n lo hi w
theorem sIsNumber_eq {n : Int} {b : Bool} (h : isNumB n = b) (w : World) : Calls Tryz.prog 132 #[.int .i64 n] w fun e w' => e = .returned (.bool b) ∧ w = w' := h ▸ sIsNumber_any n w
theorem l2Less_eq {c : Bool} (va vb : Value) (xs ys : List Int) (w : World) (ha : RdI w va xs) (hb : RdI w vb ys) (h : ltL xs ys = c) :
    Calls Tryz.prog 133 #[va, vb] w (Qt (.bool c) w) := h ▸ l2Less_any va vb xs ys w ha hb
theorem inB_dim (dim : Int) : inB dim 1 6 = dimB dim := rfl
theorem inB_pow (p : Int) : inB p 0 5 = powIn p := rfl
theorem stepOk_less {dim : Int} {xs : List MonZ} {k : Nat} {m m' : MonZ} (hm : xs[k]? = some m) (hk : 0 < k) (hm' : xs[k - 1]? = some m') (h : ltL m.pows m'.pows = false) : stepOkB dim xs k = false := by
  have : ¬ k = 0 := by omega
  simp [stepOkB, hm, h, hm', this]
theorem degZ_bad {ps : List Int} {k : Nat} {x : Int} (h : ps[k]? = some x) (hx : powIn x = false) : degZ ps = -1 := by
  rw [degZ, if_neg]; rw [all_false h hx]; simp

set_option maxRecDepth 100000 in
set_option maxHeartbeats 3200000 in
theorem sPolyOk_any (v : Value) (xs : List MonZ) (dim : Int) (w : World) (h : RdMs w v xs) :
    Calls Tryz.prog 79 #[v, .int .i64 dim] w (Qt (.bool (polyOkB xs dim)) w) := by
  obtain ⟨ad, len, cap, rfl, hl, hlc, hcm, h'⟩ := rdS_open h
  have HL := Lib.hid hl
  clear h hl
  cases hdim : dimB dim with
  | false =>
    have hdimI : inB dim 1 6 = false := hdim
    have HP := Lib.hid (polyOkB_dim (xs := xs) hdim)
    go_enter Tryz.func79, Tryz.ntmps79
    go_wp2_with (go_at_call 131; ((with_reducible refine (l1In_eq hdimI _).mono ?_); rintro e w' ⟨rfl, rfl⟩))
    go_ret
    exact ⟨ret_bool HP.out.symm, 0, rfl⟩
  | true =>
  have hdimI : inB dim 1 6 = true := hdim
  by_cases h12 : 12 < len
  · have HP := Lib.hid (polyOkB_len (xs := xs) (dim := dim) (by rw [HL.out]; exact h12))
    go_enter Tryz.func79, Tryz.ntmps79
    go_wp2_with (go_at_call 131; ((with_reducible refine (l1In_eq hdimI _).mono ?_); rintro e w' ⟨rfl, rfl⟩))
    go_ret
    exact ⟨ret_bool HP.out.symm, 0, rfl⟩
  have hle : (len : Int) ≤ 12 := by omega
  have hle' : decide (12 < (len : Int)) = false := by simp; omega
  have HP := Lib.hid (polyOkB_all (xs := xs) hdim (by rw [HL.out]; omega))
  have hdd : 1 ≤ dim ∧ dim ≤ 6 := by simpa [dimB] using hdim
  have hdd0 := hdd.1
  have hdd1 := hdd.2
  clear h12 hdd
  go_enter Tryz.func79, Tryz.ntmps79
  go_wp2_with (go_at_call 131; ((with_reducible refine (l1In_eq hdimI _).mono ?_); rintro e w' ⟨rfl, rfl⟩))
  go_loopw [5] (fun i wr => ∃ k : Nat, k ≤ len ∧ i = .int .i64 k ∧ (List.range k).all (stepOkB dim xs) = true ∧ ∃ m, wr = w.drewN m) (fun i _ => len - (intOf i).toNat)
  case atStart => exact ⟨0, Nat.zero_le _, rfl, by simp, 0, rfl⟩
  case round =>
    obtain ⟨k, hk, rfl, ha, nd, hwr⟩ := hrel
    have HA := Lib.hid ha
    have h'r : RdMs wr (.slice ad len cap) xs := by rw [hwr]; exact rdMs_mono (blw_drewN (Below.refl _ _) nd) h'
    have HW := Lib.hid hwr
    clear ha hwr
    by_cases hlt : k < len
    case neg =>
      go_wp2
      go_ret
      obtain rfl : k = len := by omega
      exact ⟨ret_bool (by rw [HP.out, HL.out, HA.out]), _, HW.out⟩
    obtain ⟨b, off, ad', len', cap', m, rfl, hm, hc0, hc1, hI, h6, h7, h8, h9, hbs⟩ := rdMs_get h'r hlt
    have HM := Lib.hid hm
    have H6 := Lib.hid h6
    clear hm h6
    have hkl : k < xs.length := by rw [HL.out]; exact hlt
    have HKL := Lib.hid hkl
    clear hkl
    cases hnum : isNumB m.coef with
    | false =>
      have HB := Lib.hid (range_bad HKL.out (stepOk_mon HM.out (monOk_num (dim := dim) hnum)))
      go_wp2
      go_quiet ((go_at_call 132; exact quiet_same (sIsNumber_eq hnum _)))
      go_wp2
      go_ret
      exact ⟨ret_bool (by rw [HP.out, HB.out]), _, by rw [HW.out, World.drewN_drewN]⟩
    | true =>
    by_cases hz : m.coef = 0
    · have HB := Lib.hid (range_bad HKL.out (stepOk_mon HM.out (monOk_coef (dim := dim) hz)))
      have hzb : (m.coef == 0) = true := by simp [hz]
      clear hz
      go_wp2
      go_quiet ((go_at_call 132; exact quiet_same (sIsNumber_eq hnum _)))
      go_wp2
      go_ret
      exact ⟨ret_bool (by rw [HP.out, HB.out]), _, by rw [HW.out, World.drewN_drewN]⟩
    have hzb : (m.coef == 0) = false := by simpa using hz
    have HZ := Lib.hid hz
    clear hz
    by_cases hld : (len' : Int) = dim
    case neg =>
      have HB := Lib.hid (range_bad HKL.out (stepOk_mon HM.out (monOk_len (dim := dim) (by rw [H6.out]; exact hld))))
      have hldb : ((len' : Int) != dim) = true := by simpa using hld
      clear hld
      go_wp2
      go_quiet ((go_at_call 132; exact quiet_same (sIsNumber_eq hnum _)))
      go_wp2
      go_ret
      exact ⟨ret_bool (by rw [HP.out, HB.out]), _, by rw [HW.out, World.drewN_drewN]⟩
    have hldb : ((len' : Int) != dim) = false := by simpa using hld
    have hldle : (len' : Int) ≤ 6 := by omega
    have HLD := Lib.hid hld
    clear hld
    by_cases hk0 : k = 0
    · have HMO := Lib.hid (show 0 ≤ degZ m.pows ∧ degZ m.pows ≤ 5 → stepOkB dim xs k = true from fun hd => by
        have hm0 := HM.out
        rw [hk0] at hm0 ⊢
        exact stepOk_zero hm0 (monOk_yes (dim := dim) HZ.out hnum (by rw [H6.out]; exact HLD.out) hd))
      have hk0b : decide (0 < k) = false := by simp; omega
      clear hk0
      go_wp2
      go_quiet ((go_at_call 132; exact quiet_same (sIsNumber_eq hnum _)))
      clear hk0b
      go_wp2
      go_loopw [6, 7] (fun n j wq => ∃ (q : Nat) (s : Int), q ≤ len' ∧ j = .int .i64 q ∧ n = .int .i64 s ∧ 0 ≤ s ∧ s ≤ 5 * q ∧ s = (m.pows.take q).sum ∧ (m.pows.take q).all powIn = true ∧ ∃ m, wq = w.drewN m) (fun _ j _ => len' - (intOf j).toNat)
      case atStart => exact ⟨0, 0, Nat.zero_le _, rfl, rfl, by omega, by omega, by simp, by simp, _, by rw [HW.out, World.drewN_drewN]⟩
      case round =>
        obtain ⟨q, s, hq, rfl, rfl, hs0, hs1, hs, hpa, nd2, hwq⟩ := hrel
        have h'q : RdMs wr (.slice (some ⟨b, off, none⟩) len cap) xs := by rw [hwq]; exact rdMs_mono (blw_drewN (Below.refl _ _) nd2) h'
        have HS := Lib.hid hs
        have HPA := Lib.hid hpa
        have HWQ := Lib.hid hwq
        clear hs hpa hwq hc0 hc1 h9
        obtain ⟨b4, off4, ad4, len4, cap4, m4, hbe, hm4, hc0, hc1, _, h64, _, _, h94, _⟩ := rdMs_get h'q hlt
        simp only [Option.some.injEq, Addr.mk.injEq] at hbe
        obtain ⟨rfl, rfl, _⟩ := hbe
        obtain rfl : m = m4 := Option.some.inj (HM.out.symm.trans hm4)
        obtain rfl : len' = len4 := by have := H6.out; omega
        clear hm4 h64
        by_cases hql : q < len'
        · obtain ⟨b3, off3, x, rfl, hx, hcx, hIx, _⟩ := rdI_get h94 hql
          have HX := Lib.hid hx
          clear hx
          have hqd : (q : Int) < dim := by rw [← HLD.out]; omega
          cases hpx : powIn x with
          | true =>
            have hpxI : inB x 0 5 = true := hpx
            have hx5 : 0 ≤ x ∧ x ≤ 5 := by simpa [powIn] using hpx
            have hx50 := hx5.1
            have hx51 := hx5.2
            clear hx5
            go_wp2_with (go_at_call 131; ((with_reducible refine (l1In_eq hpxI _).mono ?_); rintro e w' ⟨rfl, rfl⟩))
            go_roundw
            case rel => exact ⟨q + 1, s + x, by omega, by go_num, rfl, by omega, by omega, by rw [sum_snoc HX.out, ← HS.out], all_snoc HX.out HPA.out hpx, _, HWQ.out⟩
            case measure => simp [intOf]; omega
          | false =>
            have hpxI : inB x 0 5 = false := hpx
            have HB := Lib.hid (range_bad HKL.out (stepOk_mon HM.out (monOk_deg (dim := dim) (by rw [degZ_bad HX.out hpx]; omega))))
            go_wp2_with (go_at_call 131; ((with_reducible refine (l1In_eq hpxI _).mono ?_); rintro e w' ⟨rfl, rfl⟩))
            go_ret
            exact ⟨ret_bool (by rw [HP.out, HB.out]), _, HWQ.out⟩
        · obtain rfl : q = len' := by omega
          have e1 := all_done (by rw [H6.out]; exact Nat.le_refl _) HPA.out
          have e2 := HS.out
          rw [List.take_of_length_le (by rw [H6.out]; exact Nat.le_refl _)] at e2
          have HDZ := Lib.hid (show degZ m.pows = s by rw [degZ, if_pos e1, e2])
          have hqd : ¬ (q : Int) < dim := by rw [← HLD.out]; omega
          clear e1 e2
          by_cases hs5 : s ≤ 5
          · have HB := Lib.hid (HMO.out (by rw [HDZ.out]; exact ⟨hs0, hs5⟩))
            go_wp2
            go_roundw
            case rel => exact ⟨k + 1, by omega, by go_num, range_snoc HA.out HB.out, _, HWQ.out⟩
            case measure => simp [intOf]; omega
          · have HB := Lib.hid (range_bad HKL.out (stepOk_mon HM.out (monOk_deg (dim := dim) (by rw [HDZ.out]; omega))))
            go_wp2
            go_ret
            exact ⟨ret_bool (by rw [HP.out, HB.out]), _, HWQ.out⟩
    · obtain ⟨b2, off2, ad2, len2, cap2, m2, hbe, hm2, hd0c, hd1c, hI2, h62, h72, h82, h92, _⟩ := rdMs_get h'r (k := k - 1) (by omega)
      simp only [Option.some.injEq, Addr.mk.injEq] at hbe
      obtain ⟨rfl, rfl, _⟩ := hbe
      have HM2 := Lib.hid hm2
      have hk1 : 1 ≤ k := by omega
      have hk0n : 0 < k := by omega
      have hk1i : (0 : Int) ≤ (k : Int) - 1 := by omega
      have hk2i : (k : Int) - 1 < len := by omega
      have hk3 : ((k : Int) - 1).toNat = k - 1 := by omega
      have hk5 : k - 1 < len := by omega
      have hk4 : IntKind.i64.wrap ((k : Int) - 1) = (k : Int) - 1 := IntWalk.i64_in _ (by omega)
      clear hm2 h62 hk0
      cases hlt2 : ltL m.pows m2.pows with
      | false =>
        have HB := Lib.hid (range_bad HKL.out (stepOk_less (dim := dim) HM.out hk0n HM2.out hlt2))
        go_wp2
        go_quiet ((first | (go_at_call 132; exact quiet_same (sIsNumber_eq hnum _)) | (go_at_call 133; exact quiet_qt (l2Less_eq _ _ m.pows m2.pows _ (rdI_drewN _ h9) (rdI_drewN _ h92) hlt2))))
        go_wp2
        go_ret
        exact ⟨ret_bool (by rw [HP.out, HB.out]), _, by rw [HW.out, World.drewN_drewN]⟩
      | true =>
        have HMO := Lib.hid (show 0 ≤ degZ m.pows ∧ degZ m.pows ≤ 5 → stepOkB dim xs k = true from fun hd => by
          obtain ⟨j, rfl⟩ : ∃ j, k = j + 1 := ⟨k - 1, by omega⟩
          rw [stepOk_succ HM.out HM2.out (monOk_yes (dim := dim) HZ.out hnum (by rw [H6.out]; exact HLD.out) hd)]
          exact hlt2)
        go_wp2
        go_quiet ((first | (go_at_call 132; exact quiet_same (sIsNumber_eq hnum _)) | (go_at_call 133; exact quiet_qt (l2Less_eq _ _ m.pows m2.pows _ (rdI_drewN _ h9) (rdI_drewN _ h92) hlt2))))
        clear hk4 hk3 hk1i hk2i hk5 h92 hd0c hd1c
        go_wp2
        go_loopw [6, 7] (fun n j wq => ∃ (q : Nat) (s : Int), q ≤ len' ∧ j = .int .i64 q ∧ n = .int .i64 s ∧ 0 ≤ s ∧ s ≤ 5 * q ∧ s = (m.pows.take q).sum ∧ (m.pows.take q).all powIn = true ∧ ∃ m, wq = w.drewN m) (fun _ j _ => len' - (intOf j).toNat)
        case atStart => exact ⟨0, 0, Nat.zero_le _, rfl, rfl, by omega, by omega, by simp, by simp, _, by rw [HW.out, World.drewN_drewN]⟩
        case round =>
          obtain ⟨q, s, hq, rfl, rfl, hs0, hs1, hs, hpa, nd2, hwq⟩ := hrel
          have h'q : RdMs wr (.slice (some ⟨b, off, none⟩) len cap) xs := by rw [hwq]; exact rdMs_mono (blw_drewN (Below.refl _ _) nd2) h'
          have HS := Lib.hid hs
          have HPA := Lib.hid hpa
          have HWQ := Lib.hid hwq
          clear hs hpa hwq hc0 hc1 h9
          obtain ⟨b4, off4, ad4, len4, cap4, m4, hbe, hm4, hc0, hc1, _, h64, _, _, h94, _⟩ := rdMs_get h'q hlt
          simp only [Option.some.injEq, Addr.mk.injEq] at hbe
          obtain ⟨rfl, rfl, _⟩ := hbe
          obtain rfl : m = m4 := Option.some.inj (HM.out.symm.trans hm4)
          obtain rfl : len' = len4 := by have := H6.out; omega
          clear hm4 h64
          by_cases hql : q < len'
          · obtain ⟨b3, off3, x, rfl, hx, hcx, hIx, _⟩ := rdI_get h94 hql
            have HX := Lib.hid hx
            clear hx
            have hqd : (q : Int) < dim := by rw [← HLD.out]; omega
            cases hpx : powIn x with
            | true =>
              have hpxI : inB x 0 5 = true := hpx
              have hx5 : 0 ≤ x ∧ x ≤ 5 := by simpa [powIn] using hpx
              have hx50 := hx5.1
              have hx51 := hx5.2
              clear hx5
              go_wp2_with (go_at_call 131; ((with_reducible refine (l1In_eq hpxI _).mono ?_); rintro e w' ⟨rfl, rfl⟩))
              go_roundw
              case rel => exact ⟨q + 1, s + x, by omega, by go_num, rfl, by omega, by omega, by rw [sum_snoc HX.out, ← HS.out], all_snoc HX.out HPA.out hpx, _, HWQ.out⟩
              case measure => simp [intOf]; omega
            | false =>
              have hpxI : inB x 0 5 = false := hpx
              have HB := Lib.hid (range_bad HKL.out (stepOk_mon HM.out (monOk_deg (dim := dim) (by rw [degZ_bad HX.out hpx]; omega))))
              go_wp2_with (go_at_call 131; ((with_reducible refine (l1In_eq hpxI _).mono ?_); rintro e w' ⟨rfl, rfl⟩))
              go_ret
              exact ⟨ret_bool (by rw [HP.out, HB.out]), _, HWQ.out⟩
          · obtain rfl : q = len' := by omega
            have e1 := all_done (by rw [H6.out]; exact Nat.le_refl _) HPA.out
            have e2 := HS.out
            rw [List.take_of_length_le (by rw [H6.out]; exact Nat.le_refl _)] at e2
            have HDZ := Lib.hid (show degZ m.pows = s by rw [degZ, if_pos e1, e2])
            have hqd : ¬ (q : Int) < dim := by rw [← HLD.out]; omega
            clear e1 e2
            by_cases hs5 : s ≤ 5
            · have HB := Lib.hid (HMO.out (by rw [HDZ.out]; exact ⟨hs0, hs5⟩))
              go_wp2
              go_roundw
              case rel => exact ⟨k + 1, by omega, by go_num, range_snoc HA.out HB.out, _, HWQ.out⟩
              case measure => simp [intOf]; omega
            · have HB := Lib.hid (range_bad HKL.out (stepOk_mon HM.out (monOk_deg (dim := dim) (by rw [HDZ.out]; omega))))
              go_wp2
              go_ret
              exact ⟨ret_bool (by rw [HP.out, HB.out]), _, HWQ.out⟩
end Go.Proofs.YtbcjhpgkodeoeaaGreatDoor

/- The reference's test that two lists are the same. Conditions: none. -/
namespace Go.Proofs.YtbcjhpgkodeoeaaGreatDoor
open Go.RowKit Go.Sort

theorem same_ltL {a b : List Int} : decide (a = b) = (!ltL a b && !ltL b a) := by
  by_cases h : a = b
  · subst h; simp [ltL_irr]
  · rw [decide_eq_false h]
    cases h1 : ltL a b with
    | true => rfl
    | false =>
      cases h2 : ltL b a with
      | true => rfl
      | false => exact absurd (ltL_tri h1 h2) h
theorem same_any (va vb : Value) (xs ys : List Int) (w : World) (ha : RdI w va xs) (hb : RdI w vb ys) :
    Calls Tryz.prog 154 #[va, vb] w (Qt (.bool (decide (xs = ys))) w) := by
  cases h1 : ltL xs ys with
  | true =>
    have HN := Lib.hid (show decide (xs = ys) = false by rw [same_ltL, h1]; rfl)
    go_enter Tryz.func154, Tryz.ntmps154
    go_wp2_with fail
    refine (l2Less_eq _ _ xs ys _ ha hb h1).mono ?_
    rintro e w1 ⟨rfl, m, rfl⟩
    go_wp2
    go_ret
    exact ⟨ret_bool HN.out.symm, m, rfl⟩
  | false =>
    cases h2 : ltL ys xs with
    | true =>
      have HN := Lib.hid (show decide (xs = ys) = false by rw [same_ltL, h1, h2]; rfl)
      go_enter Tryz.func154, Tryz.ntmps154
      go_wp2_with fail
      refine (l2Less_eq _ _ xs ys _ ha hb h1).mono ?_
      rintro e w1 ⟨rfl, m, rfl⟩
      go_wp2_with fail
      refine (l2Less_eq _ _ ys xs _ (rdI_drewN m hb) (rdI_drewN m ha) h2).mono ?_
      rintro e w1 ⟨rfl, m2, rfl⟩
      go_wp2
      go_ret
      exact ⟨ret_bool HN.out.symm, _, rfl⟩
    | false =>
      have HN := Lib.hid (show decide (xs = ys) = true by rw [same_ltL, h1, h2]; rfl)
      go_enter Tryz.func154, Tryz.ntmps154
      go_wp2_with fail
      refine (l2Less_eq _ _ xs ys _ ha hb h1).mono ?_
      rintro e w1 ⟨rfl, m, rfl⟩
      go_wp2_with fail
      refine (l2Less_eq _ _ ys xs _ (rdI_drewN m hb) (rdI_drewN m ha) h2).mono ?_
      rintro e w1 ⟨rfl, m2, rfl⟩
      go_wp2
      go_ret
      exact ⟨ret_bool HN.out.symm, _, rfl⟩
theorem same_eq {c : Bool} (va vb : Value) (xs ys : List Int) (w : World) (ha : RdI w va xs) (hb : RdI w vb ys) (h : decide (xs = ys) = c) :
    Calls Tryz.prog 154 #[va, vb] w (Qt (.bool c) w) := h ▸ same_any va vb xs ys w ha hb
end Go.Proofs.YtbcjhpgkodeoeaaGreatDoor
