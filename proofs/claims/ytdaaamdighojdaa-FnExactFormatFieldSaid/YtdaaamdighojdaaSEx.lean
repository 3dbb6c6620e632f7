/- ExactPath of the reference. Conditions: lengths of slices up to 2^20. -/
import Derived.Test.YtdaaamdighojdaaEx
set_option linter.unusedSimpArgs false
set_option linter.unusedVariables false
namespace Go.Proofs.Ytdaaamdighojdaa
open Go.RowKit Go.Sort

def nextRow (parts : List (List MonZ)) (y : List Int) (m : Nat) : List Int := (List.range y.length).map fun i => fracZ (atZ (atL (fldJ parts (turnZ (exS parts y m) y.length)) i) m) ((m : Int) + 1)
theorem exS_next (parts : List (List MonZ)) (y : List Int) (m : Nat) : exS parts y (m + 1) = exS parts y m ++ [nextRow parts y m] := rfl
theorem nextRow_len (parts : List (List MonZ)) (y : List Int) (m : Nat) : (nextRow parts y m).length = y.length := by simp [nextRow]
/-- the first i numbers of a row times a number -/
def scR (row : List Int) (c : Int) : Nat → List Int
  | 0 => row
  | i + 1 => (scR row c i).set i (timesZ (atZ row i) c)
theorem scR_len (row : List Int) (c : Int) (i : Nat) : (scR row c i).length = row.length := by
  induction i with
  | zero => rfl
  | succ i ih => rw [scR, List.length_set, ih]
theorem scR_at (row : List Int) (c : Int) (i : Nat) (hi : i ≤ row.length) : ∀ k, k < row.length → atZ (scR row c i) k = if k < i then timesZ (atZ row k) c else atZ row k := by
  induction i with
  | zero => intro k _; rw [scR, if_neg (by omega)]
  | succ i ih =>
    intro k hk
    rw [scR, atZ_set (by rw [scR_len]; omega)]
    by_cases h : k = i
    · rw [if_pos h, if_pos (by omega), h]
    · rw [if_neg h, ih (by omega) k hk]
      by_cases h2 : k < i
      · rw [if_pos h2, if_pos (by omega)]
      · rw [if_neg h2, if_neg (by omega)]
/-- the first j rows -/
def scP (xs : List (List Int)) (t : Int) (n : Nat) : Nat → List (List Int)
  | 0 => xs
  | j + 1 => (scP xs t n j).set j (scR (atL xs j) (powZ t j) n)
theorem scP_len (xs : List (List Int)) (t : Int) (n j : Nat) : (scP xs t n j).length = xs.length := by
  induction j with
  | zero => rfl
  | succ j ih => rw [scP, List.length_set, ih]
theorem scP_at (xs : List (List Int)) (t : Int) (n j : Nat) (hj : j ≤ xs.length) : ∀ k, k < xs.length → atL (scP xs t n j) k = if k < j then scR (atL xs k) (powZ t k) n else atL xs k := by
  induction j with
  | zero => intro k _; rw [scP, if_neg (by omega)]
  | succ j ih =>
    intro k hk
    rw [scP, atL]
    by_cases h : k = j
    · subst h
      rw [List.getElem?_set_self (by rw [scP_len]; omega), if_pos (by omega)]
      rfl
    · rw [List.getElem?_set_ne (by omega), ← atL, ih (by omega) k hk]
      by_cases h2 : k < j
      · rw [if_pos h2, if_pos (by omega)]
      · rw [if_neg h2, if_neg (by omega)]
theorem int_ext {a b : List Int} (hl : a.length = b.length) (h : ∀ i, i < a.length → atZ a i = atZ b i) : a = b :=
  Agree.eq (r := a.length) ⟨Nat.le_refl _, by omega, h⟩ rfl hl.symm
theorem scP_done {parts : List (List MonZ)} {y : List Int} {o : Nat} {t : Int} : scP (exS parts y o) t y.length (o + 1) = exSt parts y o t := by
  refine list_ext_atL (by rw [scP_len, exS_len]; simp [exSt]) fun k hk => ?_
  rw [scP_len, exS_len] at hk
  rw [scP_at _ _ _ _ (by rw [exS_len]; exact Nat.le_refl _) _ (by rw [exS_len]; exact hk), if_pos hk]
  have hr : (atL (exS parts y o) k).length = y.length := by
    rw [atL_get (List.getElem?_eq_getElem (by rw [exS_len]; exact hk))]
    exact exS_row parts y o _ (List.getElem_mem _)
  have e1 : atL (exSt parts y o t) k = (List.range y.length).map fun i => timesZ (atZ (atL (exS parts y o) k) i) (powZ t k) := by simp [exSt, atL, hk]
  rw [e1]
  refine int_ext (by rw [scR_len, hr]; simp) fun i hi => ?_
  rw [scR_len, hr] at hi
  rw [scR_at _ _ _ (by omega) _ (by omega), if_pos hi]
  simp [atZ, hi]
theorem l1InO {n : Int} {b : Bool} (h : ordB n = b) (w : World) : Calls Try.prog 68 #[.int .i64 n, .int .i64 0, .int .i64 6] w fun e w' => e = .returned (.bool b) ∧ w = w' := h ▸ l1In_any n 0 6 w
theorem one_own {e1 e : Nat} {w W : World} {u : Value} {y : List Int} {f : List Nat} (h : OwnI e w u y f) (hW : W = w.alloc (.cells #[u] e1)) : OwnII e1 e W (.slice (some ⟨w.heap.size, 0, none⟩) 1 1) [y] (w.heap.size :: f) := by
  have hb : Below w.heap.size w W := hW ▸ (Below.refl _ _).alloc (Nat.le_refl _) _
  refine ⟨[[u]], f, ?_, by simp, ⟨f, [], by simp, ⟨u, rfl, ownI_only h (Only.of_below (fp := []) hb) (by simp)⟩, rfl⟩, rfl, ?_⟩
  · rw [hW]
    simpa using World.ownsRow_lit (base := 0) (e := e1) (size := 1) w #[u] 1 (Nat.zero_le _) (by unfold maxLen; omega) rfl
  · rw [List.nodup_cons]
    exact ⟨fun hm => by have := ownI_lt h _ hm; omega, ownI_nodup h⟩

/-- A copy of a slice by an append to an empty one. -/
theorem clone_own {e n : Nat} {W w2 : World} {y : List Int} {gg capn : Nat} (hown : w2.ownsRow 0 e 1 (.slice (some ⟨gg, 0, none⟩) (0 + n) capn) (0 + n) ([] ++ y.map (Value.int .i64))) (hg : (W.alloc (.cells #[] e)).grownBy w2 (some W.heap.size))
    (hat : some W.heap.size = some gg ∨ gg = W.heap.size + 1) (hn : y.length = n) (hI : ∀ x ∈ y, I64 x) : OwnI e w2 (.slice (some ⟨gg, 0, none⟩) n capn) y [gg] ∧ W.heap.size ≤ gg ∧ Below W.heap.size W w2 := by
  rw [Nat.zero_add, List.nil_append] at hown
  have hb1 : Below W.heap.size W (W.alloc (.cells #[] e)) := (Below.refl _ _).alloc (Nat.le_refl _) _
  refine ⟨⟨by rw [hn]; exact hown, rfl, hI⟩, ?_, hb1.grown hg hb1.size (fun k hk => by simp at hk; omega)⟩
  rcases hat with h | h
  · simp at h; omega
  · omega
theorem set_same {α : Type} {l : List α} {i : Nat} {x : α} (h : l[i]? = some x) : l.set i x = l := by
  obtain ⟨hi, rfl⟩ := List.getElem?_eq_some_iff.1 h
  exact List.set_getElem_self hi

set_option maxRecDepth 100000 in
set_option maxHeartbeats 6400000 in
theorem sExact_any (vf vy : Value) (f : FldZ) (y : List Int) (order t : Int) (w : World) (hf : RdFld w vf f) (hy : RdI w vy y) :
    Calls Try.prog 48 #[vf, vy, .int .i64 order, .int .i64 t] w (Gives (fun w' v fp => OwnII 24 3 w' v (exactL f y order t) fp) w) := by
  have hnone : ∀ W, Below w.heap.size w W → (fpOkB f [y] && ordB order) = false → Gives (fun w' v fp => OwnII 24 3 w' v (exactL f y order t) fp) w (.returned (.slice none 0 0)) W := by
    intro W hW hd
    refine ⟨_, [], rfl, ?_, by simp, hW⟩
    rw [exactL, hd]
    exact ⟨[], [], World.ownsRow_nil _ _ _ _, by simp, rfl, rfl, by simp⟩
  obtain ⟨vP, rfl, hI, hp⟩ := hf
  obtain ⟨ady, ly, capy, rfl, hly, hlcy, hcmy, hy'⟩ := rdS_open hy
  obtain ⟨adp, lenp, capp, rfl, hlp, hlcp, hcmp, hp'⟩ := rdS_open hp
  obtain ⟨W, hW⟩ : ∃ W, W = w.alloc (.cells #[.int .i64 f.dim, .slice adp lenp capp] 37) := ⟨_, rfl⟩
  obtain ⟨W2, hW2⟩ : ∃ W2, W2 = W.alloc (.cells #[.slice ady ly capy] 24) := ⟨_, rfl⟩
  have hb0 : Below w.heap.size w W := hW ▸ (Below.refl _ _).alloc (Nat.le_refl _) _
  have hb1 : Below w.heap.size w W2 := hW2 ▸ hb0.alloc hb0.size _
  have hsz : W.heap.size = w.heap.size + 1 := by rw [hW]; simp
  have hd0 : W2.cell? ⟨w.heap.size, 0, none⟩ = some (.int .i64 f.dim) := by rw [hW2, hW]; simp
  have hd1 : W2.cell? ⟨w.heap.size, 1, none⟩ = some (.slice adp lenp capp) := by rw [hW2, hW]; simp
  have hyW : RdII W2 (.slice (some ⟨W.heap.size, 0, none⟩) 1 1) [y] := rdII_one (rdI_mono hb0 hy') hW2
  rw [hsz] at hyW
  have hfW : RdFld W2 (.agg #[.int .i64 f.dim, .slice adp lenp capp]) f := ⟨_, rfl, hI, rdMss_mono hb1 hp'⟩
  have HW := Lib.hid hW
  have HW2 := Lib.hid hW2
  clear hW hW2 hy hp hlp hb0 hsz
  cases hk : fpOkB f [y] with
  | false =>
    have HN := Lib.hid (fun W hW => hnone W hW (by rw [hk]; rfl))
    clear hnone hly
    go_enter Try.func48, Try.ntmps48
    go_wp2_with fail
    rw [← HW.out, ← HW2.out]
    refine (sFpOk_eq _ _ f [y] W2 hfW hyW hk).mono ?_
    rintro e w1 ⟨rfl, hb2⟩
    go_wp2
    go_ret
    exact HN.out _ (hb1.trans (hb2.mono hb1.size))
  | true =>
  cases ho : ordB order with
  | false =>
    have HN := Lib.hid (fun W hW => hnone W hW (by rw [hk, ho]; rfl))
    clear hnone hly
    go_enter Try.func48, Try.ntmps48
    go_wp2_with fail
    rw [← HW.out, ← HW2.out]
    refine (sFpOk_eq _ _ f [y] W2 hfW hyW hk).mono ?_
    rintro e w1 ⟨rfl, hb2⟩
    go_wp2_with (go_at_call 68; ((with_reducible refine (l1InO ho _).mono ?_); rintro e w' ⟨rfl, rfl⟩))
    go_ret
    exact HN.out _ (hb1.trans (hb2.mono hb1.size))
  | true =>
  obtain ⟨n, f1, f2, f3, f4, f5, f6⟩ := fpOk_facts hk
  obtain ⟨o, hoN, ho6⟩ : ∃ o : Nat, order = o ∧ o ≤ 6 := by
    simp only [ordB, decide_eq_true_eq] at ho
    exact ⟨order.toNat, by omega, by omega⟩
  subst hoN
  have hfo : fldOkB f = true := by simp only [fpOkB, Bool.and_eq_true] at hk; exact hk.1
  obtain ⟨_, _, q3, q4⟩ := pathOk_facts f6
  have hyn : y.length = n := q3 y (by simp)
  have hynum : Nums y := q4 y (by simp)
  obtain rfl : ly = n := by omega
  have hE : exactL f y o t = exSt f.parts y o t := by rw [exactL, hk, ho]; simp
  have hval : ∀ m, m < 7 → valueL f (exS f.parts y m) = turnZ (fldE f.parts (turnZ (exS f.parts y m) ly) []) (m + 1) := fun m hm => by
    have h1 : fpOkB f (exS f.parts y m) = true := by
      rw [fpOkB, hfo, f1, pathOkB_of (n := ly) (by rw [exS_len]; omega) (by rw [exS_len]; omega) (fun x hx => by rw [exS_row _ _ _ x hx, hyn]) (exS_nums hynum m)]
      rfl
    rw [valueL, h1, f1, exS_len]
    rfl
  obtain ⟨byy, oyy, hady⟩ : ∃ b o, ady = some ⟨b, o, none⟩ := by obtain ⟨b, o, _, h, _⟩ := rdI_get hy' (k := 0) (by omega); exact ⟨b, o, h⟩
  subst hady
  have HE := Lib.hid hE
  have HVAL := Lib.hid hval
  have hd0n : W2.cell? ⟨w.heap.size, 0, none⟩ = some (.int .i64 (ly : Int)) := by rw [← f1]; exact hd0
  have F1 := Lib.hid f1
  have F2 := Lib.hid f2
  have HYN := Lib.hid hyn
  have HYM := Lib.hid hynum
  have HK := Lib.hid hk
  have HOB := Lib.hid ho
  clear hd0 f1 f2 f5 f6 hnone q3 q4 hyn hynum hE ho hly hval hfo
  obtain ⟨i0, hi, hz0, hz1, hz2⟩ := info_parts Try.info_int
  obtain ⟨j1, hj1, hw0, hw1, hw2⟩ := info_parts Try.info_ints
  go_enter Try.func48, Try.ntmps48
  go_wp2_with fail
  rw [← HW.out, ← HW2.out]
  refine (sFpOk_eq _ _ f [y] W2 hfW hyW HK.out).mono ?_
  rintro e w1 ⟨rfl, hb2⟩
  have hbw1 := hb1.trans (hb2.mono hb1.size)
  have hc0 := cell_below hb2 hd0n
  have hc1 := cell_below hb2 hd1
  have hal0 : Below w1.heap.size w1 (w1.alloc (.cells #[] 3)) := (Below.refl _ _).alloc (Nat.le_refl _) _
  have HNEW := Lib.hid (rdI_news (rdI_mono (hbw1.trans (hal0.mono hbw1.size)) hy'))
  have HROW := Lib.hid (show (w1.alloc (.cells #[] 3)).ownsRow 0 3 1 (.slice (some ⟨w1.heap.size, 0, none⟩) 0 0) 0 [] from by simpa using World.ownsRow_lit (base := 0) (e := 3) (size := 1) w1 #[] 0 (Nat.zero_le _) (Nat.zero_le _) rfl)
  have HBW1 := Lib.hid hbw1
  clear hfW hyW hd0n hd1 hb1 hb2 hbw1 hk hal0
  go_wp2_with (first
    | (go_at_call 68; ((with_reducible refine (l1InO HOB.out _).mono ?_); rintro e w' ⟨rfl, rfl⟩))
    | (at_builtin; refine wpList_append_lies _ rfl _ _ _ rfl 0 3 i0 _ 1 8 Try.underlying24 hi hz0 hz1 hz2 rfl (by omega) (.slice (some ⟨w1.heap.size, 0, none⟩) 0 0) 0 [] (by rfl) HROW.out ⟨byy, oyy, none⟩ ly capy (y.map (Value.int .i64)) (by rfl) (by rw [List.length_map, HYN.out, Nat.mul_one]) HNEW.out (by intro u hu; simp only [List.mem_map] at hu; obtain ⟨z, _, rfl⟩ := hu; rfl) (by omega) (by unfold maxLen; omega) (by omega) (by simp) (w1.heap.size + 1) (by simp) ?_; intro gg capn wB hown1 hgrow hat hlt1))
  obtain ⟨hoy, hgg, hbB⟩ := clone_own (W := w1) (y := y) hown1 (by simpa [Value.ownBlock] using hgrow) (by simpa [Value.ownBlock] using hat) HYN.out (fun x hx => i64_of_bd (HYM.out x hx))
  have hbC : Below w1.heap.size w1 (wB.alloc (.cells #[.slice (some ⟨gg, 0, none⟩) ly capn] 24)) := hbB.alloc hbB.size _
  have HO0 := Lib.hid (one_own (e1 := 24) hoy rfl)
  have HB0 := Lib.hid hbC
  have HN0 := Lib.hid (show ∀ b ∈ wB.heap.size :: [gg], w1.heap.size ≤ b from fun b hb => by
    have := hbB.size
    simp at hb
    omega)
  clear hoy hbB hbC hown1 hgrow hat
  go_loopw [9, 10] (fun u i wr => ∃ (m : Nat) (fs : List Nat), m ≤ o ∧ i = .int .i64 ((m : Int) + 1) ∧ OwnII 24 3 wr u (exS f.parts y m) fs ∧ (∀ b ∈ fs, w1.heap.size ≤ b) ∧ Below w1.heap.size w1 wr) (fun _ i _ => o + 1 - (intOf i).toNat)
  case atStart => exact ⟨0, _, Nat.zero_le _, rfl, HO0.out, HN0.out, HB0.out⟩
  case round =>
    obtain ⟨wk, rfl⟩ : ∃ W, W = wr := ⟨_, rfl⟩
    obtain ⟨m, fs0, hm, rfl, ho, hf, hb⟩ := hrel
    clear HO0 HB0 HN0
    have hwk := HBW1.out.trans (hb.mono HBW1.out.size)
    have hel : (exS f.parts y m).length = m + 1 := exS_len _ _ _
    by_cases hlt : m < o
    case pos =>
      have V1 := Lib.hid (sVAlong_any (.agg #[.int .i64 (ly : Int), .slice adp lenp capp]) _ f (exS f.parts y m) wk ⟨_, by rw [F1.out], hI, rdMss_mono hwk hp'⟩ (ownII_rd ho))
      rw [HVAL.out m (by omega)] at V1
      have hd0k := cell_below hb hc0
      have hd1k := cell_below hb hc1
      obtain ⟨us, fs, hown, hone, hels, rfl, hnd⟩ := ho
      have HOWN := Lib.hid hown
      rw [hel] at hown
      obtain ⟨adu, capu, rfl, hluc, hcum, _⟩ := row_open hown
      have HNU := Lib.hid hown
      have HONE := Lib.hid hone
      have HELS := Lib.hid hels
      have HND := Lib.hid hnd
      have HF := Lib.hid hf
      have HB := Lib.hid hb
      have HEL := Lib.hid hel
      have hFE : (fldE f.parts (turnZ (exS f.parts y m) ly) []).length = ly := by simp [fldE, F2.out]
      have HFE := Lib.hid hFE
      have hmi : (m : Int) + 1 ≤ o := by omega
      clear hown hone hels hnd hf hb hel hFE hwk
      go_wp2_with fail
      refine (V1.out).mono ?_
      rintro e wa ⟨pv, fpv, rfl, hopv, hfpv, hba⟩
      obtain ⟨adv, lv, capv, rfl, hlv, _, _, _⟩ := rdS_open (ownII_rd hopv)
      rw [turnZ_len] at hlv
      subst hlv
      have hd0a := cell_below hba hd0k
      have HRV := Lib.hid (ownII_rd hopv)
      have HBA := Lib.hid hba
      have HP0 := Lib.hid (show OwnI 3 (wa.alloc (.cells #[] 3)) (.slice (some ⟨wa.heap.size, 0, none⟩) 0 0) [] [wa.heap.size] from ⟨by simpa using World.ownsRow_lit (base := 0) (e := 3) (size := 1) wa #[] 0 (Nat.zero_le _) (Nat.zero_le _) rfl, rfl, by simp⟩)
      have HPB := Lib.hid (show Below wa.heap.size wa (wa.alloc (.cells #[] 3)) from (Below.refl _ _).alloc (Nat.le_refl _) _)
      clear hopv hfpv hba V1 hd0k hd1k
      go_wp2
      go_loopw [12, 13] (fun p i wr => ∃ (q : Nat) (f2 : List Nat), q ≤ ly ∧ i = .int .i64 q ∧ OwnI 3 wr p ((nextRow f.parts y m).take q) f2 ∧ (∀ b ∈ f2, wa.heap.size ≤ b) ∧ Below wa.heap.size wa wr) (fun _ i _ => ly - (intOf i).toNat)
      case atStart => exact ⟨0, [wa.heap.size], Nat.zero_le _, rfl, by simpa using HP0.out, by simp, HPB.out⟩
      case round =>
        obtain ⟨wq, rfl⟩ : ∃ W, W = wr := ⟨_, rfl⟩
        obtain ⟨q, f2, hq, rfl, hop, hf2, hbq⟩ := hrel
        clear HP0 HPB
        have hd0q := cell_below hbq hd0a
        have hnl : (nextRow f.parts y m).length = ly := by rw [nextRow_len, HYN.out]
        by_cases hql : q < ly
        case neg =>
          obtain rfl : q = ly := by omega
          rw [List.take_of_length_le (by omega)] at hop
          obtain ⟨adp2, lp2, capp2, rfl, _, _, _, _, _, _⟩ := ownI_open hop
          have hkq := HBA.out.trans (hbq.mono HBA.out.size)
          have hf3 : ∀ b ∈ f2, wk.heap.size ≤ b := fun b hb => by { have := hf2 b hb; have := HBA.out.size; omega }
          have hal : Below wq.heap.size wq (wq.alloc (.cells #[.slice adp2 lp2 capp2] 24)) := (Below.refl _ _).alloc (Nat.le_refl _) _
          have HNQ := Lib.hid (ownsRow_only HNU.out (Only.of_below (fp := []) hkq) (by simp))
          have HS := Lib.hid (fun (w2 : World) (gg capn : Nat) (hown1 : w2.ownsRow 0 24 1 (.slice (some ⟨gg, 0, none⟩) (m + 1 + 1) capn) (m + 1 + 1) (us.flatten ++ [.slice adp2 lp2 capp2]))
              (hgrow : (wq.alloc (.cells #[.slice adp2 lp2 capp2] 24)).grownBy w2 (Value.slice adu (m + 1) capu).ownBlock) (hat : (Value.slice adu (m + 1) capu).ownBlock = some gg ∨ gg = wq.heap.size + 1) =>
            ownII_push (W := w1) HONE.out HELS.out HND.out HOWN.out HEL.out hop hf3 HF.out HB.out hkq hal hown1 hgrow (fun b hb => by
              simp [Value.ownBlock] at hb
              subst hb
              rcases hat with hat | hat
              · left; exact hat
              · right; rw [hat]; simp))
          clear hop hal hf2 hbq hkq hf3 hnl
          go_wp2_with (first | (at_builtin; refine wpList_append_lies _ rfl _ _ _ rfl 0 24 j1 _ 1 24 Try.underlying22 hj1 hw0 hw1 hw2 rfl (by omega) (.slice adu (m + 1) capu) (m + 1) _ (by rfl) (HNQ.out.alloc _) ⟨wq.heap.size, 0, none⟩ 1 1 [.slice adp2 lp2 capp2] (by rfl) (by rfl) (World.news_of_block (cs := #[.slice adp2 lp2 capp2]) (t := 24) (fr := (0, 0)) (heap_alloc_new wq _)) (by simp [Value.oneCell']) (by omega) (by unfold maxLen; omega) (by omega) (by simp) (wq.heap.size + 1) (by simp) ?_; intro gg capn w2 hown1 hgrow hat hlt1; obtain ⟨f', hP1, hP2, hP3⟩ := HS.out w2 gg capn hown1 hgrow hat; have HPP := Lib.hid hP1))
          all_goals (
            go_roundw
            case rel => exact ⟨m + 1, f', by omega, by go_num, by rw [exS_next]; exact HPP.out, hP2, hP3⟩
            case measure => simp [intOf]; omega)
        obtain ⟨bv, ov, ad6, l6, c6, vrow, rfl, hvr, hcv, h61, _, _, h64, _⟩ := rdII_get (rdII_mono hbq HRV.out) (k := m) (by omega)
        rw [turnZ_get _ (by omega)] at hvr
        obtain rfl := Option.some.inj hvr
        rw [colZ_len, HFE.out] at h61
        obtain ⟨b7, o7, z, rfl, hz, hcz, hIz, _⟩ := rdI_get h64 (k := q) (by omega)
        have hza : z = atZ (atL (fldE f.parts (turnZ (exS f.parts y m) ly) []) q) m := by
          have : (colZ (fldE f.parts (turnZ (exS f.parts y m) ly) []) m)[q]? = some (atZ (atL (fldE f.parts (turnZ (exS f.parts y m) ly) []) q) m) := by
            have hx : (fldE f.parts (turnZ (exS f.parts y m) ly) [])[q]? = some ((fldE f.parts (turnZ (exS f.parts y m) ly) [])[q]'(by rw [HFE.out]; exact hql)) := List.getElem?_eq_getElem _
            rw [atL_get hx, colZ, List.getElem?_map, hx]
            rfl
          rw [this] at hz
          exact (Option.some.inj hz).symm
        have hsn : (nextRow f.parts y m).take (q + 1) = (nextRow f.parts y m).take q ++ [fracZ z ((m : Int) + 1)] := take_snoc (by
          rw [hza]
          have hqy : q < y.length := by rw [HYN.out]; exact hql
          simp only [nextRow, List.getElem?_map, HYN.out, List.getElem?_range hql, Option.map_some]
          rfl)
        have HSN := Lib.hid hsn
        have hyl : ((nextRow f.parts y m).take q).length = q := by rw [List.length_take]; omega
        obtain ⟨adp2, lp2, capp2, rfl, hlp2, hlpc, hcpm, hownp, _, hfe⟩ := ownI_open hop
        obtain rfl : lp2 = q := by omega
        have hal : Below wq.heap.size wq (wq.alloc (.cells #[.int .i64 (fracZ z ((m : Int) + 1))] 3)) := (Below.refl _ _).alloc (Nat.le_refl _) _
        have HP := Lib.hid (fun (w2 : World) (gg capn : Nat) (hown1 : w2.ownsRow 0 3 1 (.slice (some ⟨gg, 0, none⟩) (lp2 + 1) capn) (lp2 + 1) (((nextRow f.parts y m).take lp2).map (Value.int .i64) ++ [.int .i64 (fracZ z ((m : Int) + 1))]))
            (hgrow : (wq.alloc (.cells #[.int .i64 (fracZ z ((m : Int) + 1))] 3)).grownBy w2 (Value.slice adp2 lp2 capp2).ownBlock) (hat : (Value.slice adp2 lp2 capp2).ownBlock = some gg ∨ gg = wq.heap.size + 1) =>
          ownI_push hop hyl (i64_of_bd (fracZ_bd _ _)) hf2 hbq hal hown1 hgrow (fun b hb => by
            simp [Value.ownBlock] at hb
            subst hb
            rcases hat with hat | hat
            · left; exact hat
            · right; rw [hat]; simp))
        have HNP := Lib.hid hownp
        have hm1 : m < m + 1 := by omega
        have uA : IntKind.i64.wrap ((m : Int) + 1 - 1) = m := IntWalk.i64_in _ (by omega) |>.trans (by omega)
        have uB : IntKind.i64.wrap (m : Int) = m := IntWalk.i64_in _ (by omega)
        have uC : (m : Int) < (m : Int) + 1 := by omega
        have hq6 : lp2 < l6 := by omega
        clear hza hsn hyl hop hlp2 hfe hal hownp hz h61 h64 hvr hnl hIz
        go_wp2_with (first
          | (go_at_call 96; ((with_reducible refine (sFraction_any _ _ _).mono ?_); rintro e w' ⟨rfl, rfl⟩))
          | (at_builtin; refine wpList_append_lies _ rfl _ _ _ rfl 0 3 i0 _ 1 8 Try.underlying24 hi hz0 hz1 hz2 rfl (by omega) (.slice adp2 lp2 capp2) lp2 _ (by rfl) (HNP.out.alloc _) ⟨wq.heap.size, 0, none⟩ 1 1 [.int .i64 (fracZ z ((m : Int) + 1))] (by rfl) (by rfl) (World.news_of_block (cs := #[.int .i64 (fracZ z ((m : Int) + 1))]) (t := 3) (fr := (0, 0)) (heap_alloc_new wq _)) (by simp [Value.oneCell']) (by omega) (by unfold maxLen; omega) (by omega) (by simp) (wq.heap.size + 1) (by simp) ?_; intro gg capn w2 hown1 hgrow hat hlt1; obtain ⟨f', hP1, hP2, hP3, _⟩ := HP.out w2 gg capn hown1 hgrow hat; have HPP := Lib.hid hP1))
        all_goals (
          go_roundw
          case rel => exact ⟨lp2 + 1, f', by omega, by go_num, by rw [HSN.out]; exact HPP.out, hP2, hP3⟩
          case measure => simp [intOf]; omega)
    obtain rfl : m = o := by omega
    obtain ⟨adz, lz, capz, rfl, hlz, _, _, _⟩ := rdS_open (ownII_rd ho)
    rw [hel] at hlz
    subst hlz
    have HO := Lib.hid ho
    have HF := Lib.hid hf
    have HB := Lib.hid hb
    have hmn : ¬ ((m : Int) + 1 ≤ m) := by omega
    have hrow : ∀ j, j < m + 1 → (exS f.parts y m)[j]? = some (atL (exS f.parts y m) j) ∧ (atL (exS f.parts y m) j).length = ly := fun j hj => by
      have hx : (exS f.parts y m)[j]? = some ((exS f.parts y m)[j]'(by rw [hel]; exact hj)) := List.getElem?_eq_getElem _
      rw [atL_get hx]
      exact ⟨hx, by rw [exS_row _ _ _ _ (List.getElem_mem _), HYN.out]⟩
    have HRW := Lib.hid hrow
    have HEL := Lib.hid hel
    clear ho hf hb hel hwk hrow
    go_wp2
    go_loopw [14] (fun i wr => ∃ j : Nat, j ≤ m + 1 ∧ i = .int .i64 j ∧ OwnII 24 3 wr (.slice adz (m + 1) capz) (scP (exS f.parts y m) t ly j) fs0 ∧ Below w1.heap.size w1 wr) (fun i _ => m + 1 - (intOf i).toNat)
    case atStart => exact ⟨0, Nat.zero_le _, rfl, HO.out, HB.out⟩
    case round =>
      obtain ⟨wj, rfl⟩ : ∃ W, W = wr := ⟨_, rfl⟩
      obtain ⟨j, hj, rfl, hoj, hbj⟩ := hrel
      clear HO HB
      by_cases hjl : j < m + 1
      case neg =>
        obtain rfl : j = m + 1 := by omega
        have hD : scP (exS f.parts y m) t ly (m + 1) = exactL f y m t := by rw [HE.out, ← scP_done, HYN.out]
        rw [hD] at hoj
        have HOJ := Lib.hid hoj
        clear hoj hD
        go_wp2
        go_ret
        exact ⟨_, fs0, rfl, HOJ.out, fun b hb => by { have := HF.out b hb; have := HBW1.out.size; omega }, HBW1.out.trans (hbj.mono HBW1.out.size)⟩
      obtain ⟨hx1, hx2⟩ := HRW.out j hjl
      have hsj : (scP (exS f.parts y m) t ly j)[j]? = some (atL (exS f.parts y m) j) := by
        have h1 := scP_at (exS f.parts y m) t ly j (by rw [HEL.out]; omega) j (by rw [HEL.out]; exact hjl)
        rw [if_neg (by omega)] at h1
        have hlen : j < (scP (exS f.parts y m) t ly j).length := by rw [scP_len, HEL.out]; exact hjl
        rw [← h1, atL_get (List.getElem?_eq_getElem hlen), List.getElem?_eq_getElem hlen]
      have hs0 : (scP (exS f.parts y m) t ly j).set j (scR (atL (exS f.parts y m) j) (powZ t j) 0) = scP (exS f.parts y m) t ly j := set_same hsj
      have hsl : j < (scP (exS f.parts y m) t ly j).length := by rw [scP_len, HEL.out]; exact hjl
      have HOJ := Lib.hid (hs0.symm ▸ hoj)
      have HX2 := Lib.hid hx2
      have HSL := Lib.hid hsl
      have HBJ := Lib.hid hbj
      have hjI : (j : Int) < (m : Int) + 1 := by omega
      clear hx1 hx2 hsj hs0 hsl hoj hbj
      go_wp2
      go_loopw [15] (fun i wr => ∃ q : Nat, q ≤ ly ∧ i = .int .i64 q ∧ OwnII 24 3 wr (.slice adz (m + 1) capz) ((scP (exS f.parts y m) t ly j).set j (scR (atL (exS f.parts y m) j) (powZ t j) q)) fs0 ∧ Below w1.heap.size w1 wr) (fun i _ => ly - (intOf i).toNat)
      case atStart => exact ⟨0, Nat.zero_le _, rfl, HOJ.out, HBJ.out⟩
      case round =>
        obtain ⟨wq, rfl⟩ : ∃ W, W = wr := ⟨_, rfl⟩
        obtain ⟨q, hq, rfl, hoq, hbq⟩ := hrel
        clear HOJ HBJ
        have hd0q := cell_below hbq hc0
        by_cases hql : q < ly
        case neg =>
          obtain rfl : q = ly := by omega
          have HOQ := Lib.hid hoq
          clear hoq
          go_wp2
          go_roundw
          case rel => exact ⟨j + 1, by omega, by go_num, by rw [scP]; exact HOQ.out, hbq⟩
          case measure => simp [intOf]; omega
        have hrl : (scR (atL (exS f.parts y m) j) (powZ t j) q).length = ly := by rw [scR_len, HX2.out]
        obtain ⟨z, hz⟩ : ∃ z, (scR (atL (exS f.parts y m) j) (powZ t j) q)[q]? = some z := ⟨_, List.getElem?_eq_getElem (by omega)⟩
        obtain ⟨g, bz, cx, rfl, hqk, hcg, hjx, hcz, hfz, hbm, hset⟩ := ownII_set hoq (List.getElem?_set_self HSL.out) hz
        have hza : z = atZ (atL (exS f.parts y m) j) q := by
          have h1 := scR_at (atL (exS f.parts y m) j) (powZ t j) q (by rw [HX2.out]; omega) q (by rw [HX2.out]; exact hql)
          rw [if_neg (by omega), atZ_get hz] at h1
          exact h1
        have hst := hset (timesZ z (powZ t j)) (i64_of_bd (timesZ_bd _ _))
        rw [List.set_set] at hst
        have hRs : (scR (atL (exS f.parts y m) j) (powZ t j) q).set q (timesZ z (powZ t j)) = scR (atL (exS f.parts y m) j) (powZ t j) (q + 1) := by rw [scR, hza]
        rw [hRs] at hst
        have hbq2 := hbq.setCell (p := ⟨bz, q, none⟩) (HF.out bz hbm) (.int .i64 (timesZ z (powZ t j)))
        have hdr := below_drew (wq.setCell ⟨bz, q, none⟩ (.int .i64 (timesZ z (powZ t j))))
        have HS1 := Lib.hid (ownII_only hst (Only.of_below (fp := []) hdr) (by simp))
        have HS3 := Lib.hid hbq2.drew
        rw [hrl] at hcg
        clear hst hRs hbq2 hdr hset hoq hz hza hrl hjx hbm hbq
        go_wp2
        (refine wp_region_still_tail 17 (by kernel_rfl) (by kernel_rfl) ?_; simp only [List.take_succ_cons, List.take_zero, List.drop_succ_cons, List.drop_zero]; (repeat (first | still_step | still_call (still_of (sTimes_any _ _ _)) | still_call (still_of (sPower_any _ _ _ (by omega))))); refine wpStill_nil ?_; change wpList _ _ _ _ _ (World.drew _))
        go_wp2
        go_roundw
        case rel => exact ⟨q + 1, by omega, by go_num, HS1.out, HS3.out⟩
        case measure => simp [intOf]; omega
end Go.Proofs.Ytdaaamdighojdaa
