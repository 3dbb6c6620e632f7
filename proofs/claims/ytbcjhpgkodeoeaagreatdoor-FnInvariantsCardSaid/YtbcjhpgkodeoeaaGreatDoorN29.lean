/- The texts One, FAlong, SDer, JetAt, StepP, PAlong, VAlong, DAt in one: each says at its head what it proves. Conditions: as said there. -/
import Derived.Test.YtbcjhpgkodeoeaaGreatDoorN27
import Derived.Test.YtbcjhpgkodeoeaaGreatDoorN04
import Derived.Test.YtbcjhpgkodeoeaaGreatDoorN28
import Derived.Test.YtbcjhpgkodeoeaaGreatDoorN10
import Derived.Test.YtbcjhpgkodeoeaaGreatDoorN20
import Derived.Test.YtbcjhpgkodeoeaaGreatDoorN02
import Derived.Test.YtbcjhpgkodeoeaaGreatDoorN03
set_option linter.unusedSimpArgs false
set_option linter.unusedVariables false
/- The reference's derivative of a product of powers along vectors. Conditions: valid powers, a few vectors. -/
namespace Go.Proofs.YtbcjhpgkodeoeaaGreatDoor
open Go.RowKit Go.Sort


end Go.Proofs.YtbcjhpgkodeoeaaGreatDoor

/- Derivatives of fields along directions, of the program and of the reference. Conditions: valid fields, a few directions. -/
namespace Go.Proofs.YtbcjhpgkodeoeaaGreatDoor
open Go.RowKit Go.Sort

theorem fldOk_facts {f : FldZ} (h : fldOkB f = true) : ∃ n : Nat, f.dim = n ∧ f.parts.length = n ∧ 1 ≤ n ∧ n ≤ 6 ∧ ∀ p ∈ f.parts, p.length ≤ 12 ∧ ∀ m ∈ p, MonFine n m := by
  simp only [fldOkB, Bool.and_eq_true, decide_eq_true_eq, List.all_eq_true, dimB] at h
  obtain ⟨⟨h1, h2⟩, h3⟩ := h
  refine ⟨f.parts.length, h2.symm, rfl, by omega, by omega, fun p hp => ?_⟩
  have h4 := h3 p hp
  rw [← h2] at h4
  obtain ⟨_, _, h5, h6⟩ := polyOk_facts h4
  exact ⟨h5, h6⟩
def fldD (parts : List (List MonZ)) (ys : List (List Int)) (al : List (List (List Int))) (size : Nat) : List (List Int) := parts.map fun p => derL p ys al size
def fldE (parts : List (List MonZ)) (ys : List (List Int)) (al : List (List (List Int))) : List (List Int) := parts.map fun p => dervL p ys al

set_option maxRecDepth 100000 in
set_option maxHeartbeats 3200000 in
theorem fieldAlong_any (vf vy va : Value) (f : FldZ) (ys : List (List Int)) (al : List (List (List Int))) (n size : Nat) (w : World) (hf : RdFld w vf f) (hy : RdII w vy ys) (ha : RdIII w va al)
    (hfl : f.parts.length = n) (hfp : ∀ p ∈ f.parts, p.length ≤ 12 ∧ ∀ m ∈ p, MonFine n m) (hn1 : 1 ≤ n) (hn6 : n ≤ 6) (hs1 : 1 ≤ size) (hs7 : size ≤ 7) (hyl : ys.length = n) (hyj : AllJ size ys) (hal : al.length ≤ 8) (haj : ∀ a ∈ al, a.length = n ∧ AllJ size a) :
    Calls Tryz.prog 64 #[vf, vy, va] w (Gives (fun w' v fp => OwnII 89 3 w' v (fldD f.parts ys al size) fp) w) := by
  obtain ⟨vP, rfl, hI, hp⟩ := hf
  obtain ⟨ad2, len2, cap2, rfl, hl2, hlc2, hcm2, h2'⟩ := rdS_open hy
  obtain ⟨ad3, len3, cap3, rfl, hl3, hlc3, hcm3, h3'⟩ := rdS_open ha
  obtain ⟨W0, hW0⟩ : ∃ W, W = w.alloc (.cells #[.int .i64 f.dim, vP] 30) := ⟨_, rfl⟩
  obtain ⟨W, hW⟩ : ∃ W, W = W0.alloc (.cells #[] 89) := ⟨_, rfl⟩
  have hb0 : Below w.heap.size w W0 := hW0 ▸ (Below.refl _ _).alloc (Nat.le_refl _) _
  have hsz0 : W0.heap.size = w.heap.size + 1 := by rw [hW0]; simp
  have hbW : Below w.heap.size w W := hW ▸ hb0.alloc (by omega) _
  obtain ⟨ad, len, cap, rfl, hl, hlc, hcm, h'⟩ := rdS_open hp
  have hd1 : W0.cell? ⟨w.heap.size, 1, none⟩ = some (.slice ad len cap) := by rw [hW0]; simp
  have hd1W : W.cell? ⟨w.heap.size, 1, none⟩ = some (.slice ad len cap) := by rw [hW, hW0]; simp
  obtain rfl : n = len := by omega
  have HO0 := Lib.hid (show OwnII 89 3 W (.slice (some ⟨w.heap.size + 1, 0, none⟩) 0 0) [] [w.heap.size + 1] from ⟨[], [], by
    have := World.ownsRow_lit (base := 0) (e := 89) (size := 1) W0 #[] 0 (Nat.zero_le _) (Nat.zero_le _) rfl
    rw [hW, ← hsz0]; simpa using this, by simp, rfl, rfl, by simp⟩)
  have HL := Lib.hid hl
  have HFP := Lib.hid hfp
  have HYL := Lib.hid hyl
  have HYJ := Lib.hid hyj
  have HAL := Lib.hid (hl3 ▸ hal)
  have HAL2 := Lib.hid hal
  have HAJ := Lib.hid haj
  have HBW := Lib.hid hbW
  have HW := Lib.hid hW
  have HW0 := Lib.hid hW0
  clear hp hy ha hl hl2 hl3 hfl hfp hyl hyj hal haj hW hW0 hb0 hsz0 hd1 hbW
  obtain ⟨j1, hj1, hw0, hw1, hw2⟩ := info_parts Tryz.info_jet
  go_enter Tryz.func64, Tryz.ntmps64
  go_wp2
  rw [← HW0.out, ← HW.out]
  go_loopw [7, 14] (fun u i wr => ∃ (k : Nat) (fs : List Nat), k ≤ n ∧ i = .int .i64 k ∧ OwnII 89 3 wr u ((fldD f.parts ys al size).take k) fs ∧ (∀ b ∈ fs, w.heap.size ≤ b) ∧ Below w.heap.size w wr) (fun _ i _ => n - (intOf i).toNat)
  case atStart => exact ⟨0, [w.heap.size + 1], Nat.zero_le _, rfl, by simpa using HO0.out, by simp, HBW.out⟩
  case round =>
    obtain ⟨wk, rfl⟩ : ∃ W, W = wr := ⟨_, rfl⟩
    obtain ⟨k, fs0, hk, rfl, ho, hf, hb⟩ := hrel
    clear HO0
    have htl : (fldD f.parts ys al size).length = n := by simp [fldD, HL.out]
    by_cases hlt : k < n
    case neg =>
      obtain rfl : k = n := by omega
      rw [List.take_of_length_le (by omega)] at ho
      go_wp2
      go_ret
      exact ⟨_, fs0, rfl, ho, hf, hb⟩
    have hkl : ((fldD f.parts ys al size).take k).length = k := by rw [List.length_take]; omega
    obtain ⟨us, fs, hown, hone, hels, rfl, hnd⟩ := ho
    have HOWN := Lib.hid hown
    rw [hkl] at hown
    obtain ⟨adu, capu, rfl, hluc, hcum, _⟩ := row_open hown
    have HNU := Lib.hid hown
    have HONE := Lib.hid hone
    have HELS := Lib.hid hels
    have HND := Lib.hid hnd
    have HF := Lib.hid hf
    have HKL := Lib.hid hkl
    obtain ⟨b, off, ad', len', cap', x, rfl, hx, hcx, h6, h7, h8, h9, hbs⟩ := rdMss_get (rdMss_mono hb h') hlt
    obtain ⟨hx12, hxm⟩ := HFP.out x (List.mem_of_getElem? hx)
    have M := Lib.hid (derived_any _ _ _ x ys al n size wk h9 (rdII_mono hb h2') (rdIII_mono hb h3') hx12 hxm hn1 hn6 hs1 hs7 HYL.out HYJ.out HAL2.out HAJ.out)
    have hsn : (fldD f.parts ys al size).take (k + 1) = (fldD f.parts ys al size).take k ++ [derL x ys al size] := take_snoc (by simp [fldD, hx])
    have HSN := Lib.hid hsn
    have HB := Lib.hid hb
    clear hown hone hels hnd hf hkl htl hx hx12 hxm h6 h9 hsn hbs hb
    go_wp2_with fail
    refine (M.out).mono ?_
    rintro e wa ⟨p1, fp1, rfl, hop1, hfp1, hba⟩
    obtain ⟨adp, lenp, capp, rfl, hlp, hlpc, hcpm, hownp, _, hfe⟩ := ownI_open hop1
    have hal : Below wa.heap.size wa (wa.alloc (.cells #[.slice adp lenp capp] 89)) := (Below.refl _ _).alloc (Nat.le_refl _) _
    have HNQ := Lib.hid (ownsRow_only HNU.out (Only.of_below (fp := []) hba) (by simp))
    have HS := Lib.hid (fun (w1 : World) (gg capn : Nat) (hown1 : w1.ownsRow 0 89 1 (.slice (some ⟨gg, 0, none⟩) (k + 1) capn) (k + 1) (us.flatten ++ [.slice adp lenp capp]))
        (hgrow : (wa.alloc (.cells #[.slice adp lenp capp] 89)).grownBy w1 (Value.slice adu k capu).ownBlock) (hat : (Value.slice adu k capu).ownBlock = some gg ∨ gg = wa.heap.size + 1) =>
      ownII_push (W := w) HONE.out HELS.out HND.out HOWN.out HKL.out hop1 hfp1 HF.out HB.out hba hal hown1 hgrow (fun b hb => by
        simp [Value.ownBlock] at hb
        subst hb
        rcases hat with hat | hat
        · left; exact hat
        · right; rw [hat]; simp))
    clear hop1 hlp hfe hownp hal hfp1 hba
    go_wp2_with (first | (at_builtin; refine wpList_append_lies _ rfl _ _ _ rfl 0 89 j1 _ 1 24 Tryz.underlying83 hj1 hw0 hw1 hw2 rfl (by omega) (.slice adu k capu) k _ (by rfl) (HNQ.out.alloc _) ⟨wa.heap.size, 0, none⟩ 1 1 [.slice adp lenp capp] (by rfl) (by rfl) (World.news_of_block (cs := #[.slice adp lenp capp]) (t := 89) (fr := (0, 0)) (heap_alloc_new wa _)) (by simp [Value.oneCell']) (by omega) (by unfold maxLen; omega) (by omega) (by simp) (wa.heap.size + 1) (by simp) ?_; intro gg capn w1 hown1 hgrow hat hlt1; obtain ⟨f', hP1, hP2, hP3⟩ := HS.out w1 gg capn hown1 hgrow hat; have HPP := Lib.hid hP1))
    all_goals (
      go_roundw
      case rel => exact ⟨k + 1, f', by omega, by go_num, by rw [HSN.out]; exact HPP.out, hP2, hP3⟩
      case measure => simp [intOf]; omega)
end Go.Proofs.YtbcjhpgkodeoeaaGreatDoor

/- The reference's derivative of a field along vectors. Conditions: valid fields, a few vectors. -/
namespace Go.Proofs.YtbcjhpgkodeoeaaGreatDoor
open Go.RowKit Go.Sort

end Go.Proofs.YtbcjhpgkodeoeaaGreatDoor

/- Jets of a path, the number of coordinates in any spelling. Conditions: as for the jets. -/
namespace Go.Proofs.YtbcjhpgkodeoeaaGreatDoor
open Go.RowKit Go.Sort

theorem jets_at (v : Value) (xs : List (List Int)) (n : Nat) (nz : Int) (w : World) (hz : nz = (n : Int)) (h : RdII w v xs) (hn : n ≤ 2097152) (hx7 : xs.length ≤ 7) (hrow : ∀ y ∈ xs, y.length = n) :
    Calls Tryz.prog 61 #[v, .int .i64 nz] w (Gives (fun w' v fp => OwnII 89 3 w' v (turnZ xs n) fp) w) := by
  subst hz
  exact jets_any v xs n w h hn hx7 hrow

end Go.Proofs.YtbcjhpgkodeoeaaGreatDoor

/- The rounds of a step along a path reach the same from any start; exact paths by rounds and by powers. In plain lists. Conditions: numbers. -/
namespace Go.Proofs.YtbcjhpgkodeoeaaGreatDoor
open Go.RowKit Go.Sort

/-- a field's value along jets -/
def fldJ (parts : List (List MonZ)) (y : List (List Int)) : List (List Int) := parts.map fun p => dervL p y []
theorem fldJ_len (parts : List (List MonZ)) (y : List (List Int)) : (fldJ parts y).length = parts.length := by simp [fldJ]
theorem fldJ_at {parts : List (List MonZ)} {p : List MonZ} {i : Nat} (h : parts[i]? = some p) (y : List (List Int)) : atL (fldJ parts y) i = dervL p y [] := by simp [fldJ, atL, h]

def laterJ (x : List Int) : List Int := (0 :: x).take x.length
theorem laterJ_len (x : List Int) : (laterJ x).length = x.length := by simp [laterJ]
theorem laterJ_at {x : List Int} {k : Nat} (h : k < x.length) : atZ (laterJ x) k = if k = 0 then 0 else atZ x (k - 1) := by
  unfold laterJ atZ
  rw [List.getElem?_take_of_lt h]
  cases k with
  | zero => rfl
  | succ k => simp
theorem agree_later {r : Nat} {x x' : List Int} (h : Agree r x x') (h1 : r + 1 ≤ x.length) (h2 : r + 1 ≤ x'.length) : Agree (r + 1) (laterJ x) (laterJ x') := by
  refine ⟨by rw [laterJ_len]; exact h1, by rw [laterJ_len]; exact h2, fun k hk => ?_⟩
  rw [laterJ_at (by omega), laterJ_at (by omega)]
  by_cases h0 : k = 0
  · rw [if_pos h0, if_pos h0]
  · rw [if_neg h0, if_neg h0, h.2.2 (k - 1) (by omega)]

/-- a coordinate moved by the stages' values -/
def atRow (ys : List (List Int)) (vals : List (List (List Int))) (row : List Int) (i : Nat) : Nat → List Int
  | 0 => atL ys i
  | s + 1 => addJ (atRow ys vals row i s) (laterJ (atL (atLL vals s) i)) (atZ row s)
theorem atRow_len (ys : List (List Int)) (vals : List (List (List Int))) (row : List Int) (i s : Nat) : (atRow ys vals row i s).length = (atL ys i).length := by
  induction s with
  | zero => rfl
  | succ s ih => rw [atRow, addJ_len, ih]
def atAll (ys : List (List Int)) (vals : List (List (List Int))) (row : List Int) (st : Nat) : List (List Int) := (List.range ys.length).map fun i => atRow ys vals row i st
theorem atAll_at {ys : List (List Int)} {i : Nat} (h : i < ys.length) (vals : List (List (List Int))) (row : List Int) (st : Nat) : atL (atAll ys vals row st) i = atRow ys vals row i st := by simp [atAll, atL, h]
theorem atAll_len (ys : List (List Int)) (vals : List (List (List Int))) (row : List Int) (st : Nat) : (atAll ys vals row st).length = ys.length := by simp [atAll]
def roundZ (parts : List (List MonZ)) (ys : List (List Int)) (rows : Nat → List Int) (st : Nat) (vals : List (List (List Int))) : List (List (List Int)) := (List.range st).map fun s => fldJ parts (atAll ys vals (rows s) st)
def roundsZ (parts : List (List MonZ)) (ys : List (List Int)) (rows : Nat → List Int) (st : Nat) (start : List (List (List Int))) : Nat → List (List (List Int))
  | 0 => start
  | r + 1 => roundZ parts ys rows st (roundsZ parts ys rows st start r)
/-- all jets of all stages are of this size -/
def Cube (st n size : Nat) (v : List (List (List Int))) : Prop := v.length = st ∧ ∀ s i, s < st → i < n → (atL (atLL v s) i).length = size
theorem roundZ_at {parts : List (List MonZ)} {ys : List (List Int)} {rows : Nat → List Int} {st : Nat} {vals : List (List (List Int))} {s : Nat} (h : s < st) : atLL (roundZ parts ys rows st vals) s = fldJ parts (atAll ys vals (rows s) st) := by
  simp [roundZ, atLL, h]
theorem hdL_at {y : List (List Int)} : hdL y = (atL y 0).length := by
  unfold hdL atL
  cases y <;> rfl
theorem roundZ_cube {parts : List (List MonZ)} {ys : List (List Int)} {rows : Nat → List Int} {st n size : Nat} {vals : List (List (List Int))} (hy : ys.length = n) (hp : parts.length = n) (hn : 0 < n) (hs : ∀ i, i < n → (atL ys i).length = size) : Cube st n size (roundZ parts ys rows st vals) := by
  refine ⟨by simp [roundZ], fun s i hs' hi => ?_⟩
  have hx : parts[i]? = some parts[i] := List.getElem?_eq_getElem (by omega)
  rw [roundZ_at hs', fldJ_at hx, dervL, dervP_len, hdL_at, atAll_at (by omega), atRow_len, hs 0 hn]
theorem roundsZ_cube {parts : List (List MonZ)} {ys : List (List Int)} {rows : Nat → List Int} {st n size : Nat} {start : List (List (List Int))} (hy : ys.length = n) (hp : parts.length = n) (hn : 0 < n) (hs : ∀ i, i < n → (atL ys i).length = size) (h0 : Cube st n size start) :
    ∀ r, Cube st n size (roundsZ parts ys rows st start r)
  | 0 => h0
  | r + 1 => roundZ_cube hy hp hn hs
theorem agree_atRow {ys : List (List Int)} {v v' : List (List (List Int))} {row : List Int} {st n size r i : Nat} (hr : r + 1 ≤ size) (hi : i < n) (hs : ∀ i, i < n → (atL ys i).length = size) (hv : Cube st n size v) (hv' : Cube st n size v')
    (h : ∀ s i, s < st → i < n → Agree r (atL (atLL v s) i) (atL (atLL v' s) i)) : ∀ s, s ≤ st → Agree (r + 1) (atRow ys v row i s) (atRow ys v' row i s)
  | 0, _ => Agree.refl (by rw [atRow, hs i hi]; exact hr)
  | s + 1, hs' => (agree_atRow hr hi hs hv hv' h s (by omega)).add _ (agree_later (h s i (by omega) hi) (by rw [hv.2 s i (by omega) hi]; exact hr) (by rw [hv'.2 s i (by omega) hi]; exact hr))
/-- What the rounds have reached after r of them is the same up to the power r, whatever the start. -/
theorem rounds_agree {parts : List (List MonZ)} {ys : List (List Int)} {rows : Nat → List Int} {st n size : Nat} {a b : List (List (List Int))} (hy : ys.length = n) (hp : parts.length = n) (hn : 0 < n) (hs : ∀ i, i < n → (atL ys i).length = size) (ha : Cube st n size a) (hb : Cube st n size b)
    (hm : ∀ p ∈ parts, ∀ m ∈ p, m.pows.length ≤ n) : ∀ r, r ≤ size → ∀ s i, s < st → i < n → Agree r (atL (atLL (roundsZ parts ys rows st a r) s) i) (atL (atLL (roundsZ parts ys rows st b r) s) i)
  | 0, _ => fun s i _ _ => ⟨Nat.zero_le _, Nat.zero_le _, fun k hk => absurd hk (by omega)⟩
  | r + 1, hr => fun s i hs' hi => by
    have ih := rounds_agree (rows := rows) hy hp hn hs ha hb hm r (by omega)
    have hx : parts[i]? = some parts[i] := List.getElem?_eq_getElem (by omega)
    have hL : AgreeL (r + 1) (atAll ys (roundsZ parts ys rows st a r) (rows s) st) (atAll ys (roundsZ parts ys rows st b r) (rows s) st) := by
      refine ⟨by rw [atAll_len, atAll_len], fun j hj => ?_⟩
      rw [atAll_len] at hj
      rw [atAll_at hj, atAll_at hj]
      exact agree_atRow hr (by omega) hs (roundsZ_cube hy hp hn hs ha r) (roundsZ_cube hy hp hn hs hb r) ih st (Nat.le_refl _)
    rw [roundsZ, roundsZ, roundZ_at hs', roundZ_at hs', fldJ_at hx, fldJ_at hx]
    refine agree_dervL hL ?_ ?_ (fun m hm' => by rw [atAll_len, hy]; exact hm _ (List.getElem_mem _) m hm')
    · rw [hdL_at, atAll_at (by omega), atRow_len, hs 0 hn]; exact hr
    · rw [hdL_at, atAll_at (by omega), atRow_len, hs 0 hn]; exact hr
theorem list_ext_atL {a b : List (List Int)} (hl : a.length = b.length) (h : ∀ i, i < a.length → atL a i = atL b i) : a = b := by
  refine List.ext_getElem? fun i => ?_
  by_cases hi : i < a.length
  · have := h i hi
    unfold atL at this
    rw [List.getElem?_eq_getElem hi, List.getElem?_eq_getElem (by omega)] at this ⊢
    exact congrArg some this
  · rw [List.getElem?_eq_none (by omega), List.getElem?_eq_none (by omega)]
/-- the program's rounds: j numbers of each coordinate are known, and one more -/
def exI (parts : List (List MonZ)) (y : List Int) (order : Nat) (t : Int) : Nat → List (List Int)
  | 0 => y.map fun c => oneAt c (order + 1)
  | j + 1 => (List.range y.length).map fun i => (atL (exI parts y order t j) i).set (j + 1) (fracZ (timesZ t (atZ (atL (fldJ parts (exI parts y order t j)) i) j)) ((j : Int) + 1))
/-- the reference's points -/
def exS (parts : List (List MonZ)) (y : List Int) : Nat → List (List Int)
  | 0 => [y]
  | n + 1 => exS parts y n ++ [(List.range y.length).map fun i => fracZ (atZ (atL (fldJ parts (turnZ (exS parts y n) y.length)) i) n) ((n : Int) + 1)]
def exSt (parts : List (List MonZ)) (y : List Int) (order : Nat) (t : Int) : List (List Int) := (List.range (order + 1)).map fun j => (List.range y.length).map fun i => timesZ (atZ (atL (exS parts y order) j) i) (powZ t j)
theorem exS_len (parts : List (List MonZ)) (y : List Int) (n : Nat) : (exS parts y n).length = n + 1 := by
  induction n with
  | zero => rfl
  | succ n ih => rw [exS, List.length_append, ih]; rfl
theorem exS_nums {parts : List (List MonZ)} {y : List Int} (hy : Nums y) (n : Nat) : ∀ x ∈ exS parts y n, Nums x := by
  induction n with
  | zero => intro x hx; simp [exS] at hx; rw [hx]; exact hy
  | succ n ih =>
    intro x hx
    rw [exS, List.mem_append] at hx
    rcases hx with hx | hx
    · exact ih x hx
    · simp at hx
      rw [hx]
      intro z hz
      simp only [List.mem_map] at hz
      obtain ⟨i, _, rfl⟩ := hz
      exact fracZ_bd _ _
theorem exS_pre (parts : List (List MonZ)) (y : List Int) {j n : Nat} (h : j ≤ n) : ∀ k, k ≤ j → atL (exS parts y n) k = atL (exS parts y j) k := by
  induction n with
  | zero => intro k _; rw [show j = 0 by omega]
  | succ n ih =>
    intro k hk
    by_cases hj : j = n + 1
    · rw [hj]
    · rw [← ih (by omega) k hk, exS, atL, atL, List.getElem?_append_left (by rw [exS_len]; omega)]
theorem exI_len (parts : List (List MonZ)) (y : List Int) (order : Nat) (t : Int) (j : Nat) : (exI parts y order t j).length = y.length := by
  cases j <;> simp [exI]
theorem exI_row (parts : List (List MonZ)) (y : List Int) (order : Nat) (t : Int) (j : Nat) : ∀ i, i < y.length → (atL (exI parts y order t j) i).length = order + 1 := by
  induction j with
  | zero => intro i hi; simp [exI, atL, hi, oneAt]
  | succ j ih => intro i hi; rw [exI]; simp [atL, hi]; exact ih i hi
theorem turn_at {xs : List (List Int)} {n i : Nat} (h : i < n) : atL (turnZ xs n) i = colZ xs i := by rw [atL, turnZ_get xs h]; rfl
theorem col_at {xs : List (List Int)} {i k : Nat} (h : k < xs.length) : atZ (colZ xs i) k = atZ (atL xs k) i := by
  simp [colZ, atZ, atL, h]
theorem res_num {a : Int} (h : 0 ≤ a ∧ a ≤ 1000000270) : resZ a = a := by unfold resZ; omega
theorem numsZ_at {y : List Int} (h : Nums y) (i : Nat) : 0 ≤ atZ y i ∧ atZ y i ≤ 1000000270 := by
  unfold atZ
  cases hx : y[i]? with
  | none => simp
  | some x => exact nums_at h hx
theorem exact_scaled {parts : List (List MonZ)} {y : List Int} {order : Nat} {t : Int} (hy : Nums y) (hn : 0 < y.length) (hp : parts.length = y.length) (hm : ∀ p ∈ parts, ∀ m ∈ p, m.pows.length ≤ y.length) :
    ∀ j, j ≤ order → ScaledL (j + 1) t (turnZ (exS parts y j) y.length) (exI parts y order t j)
  | 0, _ => by
    refine ⟨by rw [turnZ_len, exI_len], fun i hi => ?_⟩
    rw [turnZ_len] at hi
    refine ⟨by rw [turn_at hi, colZ_len, exS_len]; exact Nat.le_refl _, by rw [exI_row _ _ _ _ _ _ hi]; omega, fun k hk => ?_⟩
    obtain rfl : k = 0 := by omega
    have e1 : atZ (atL (exI parts y order t 0) i) 0 = atZ y i := by
      rw [exI, atL, List.getElem?_map, List.getElem?_eq_getElem hi]
      simp [atZ, oneAt, List.getElem?_eq_getElem hi]
    rw [e1, turn_at hi, col_at (by rw [exS_len]; omega), exS]
    simp only [Int.pow_zero, Int.one_mul]
    rw [show atL [y] 0 = y from rfl, res_num (numsZ_at hy i)]
  | j + 1, hj => by
    have ih := exact_scaled (order := order) (t := t) hy hn hp hm j (by omega)
    refine ⟨by rw [turnZ_len, exI_len], fun i hi => ?_⟩
    rw [turnZ_len] at hi
    refine ⟨by rw [turn_at hi, colZ_len, exS_len]; exact Nat.le_refl _, by rw [exI_row _ _ _ _ _ _ hi]; omega, fun k hk => ?_⟩
    have hI : atL (exI parts y order t (j + 1)) i = (atL (exI parts y order t j) i).set (j + 1) (fracZ (timesZ t (atZ (atL (fldJ parts (exI parts y order t j)) i) j)) ((j : Int) + 1)) := by
      rw [exI]; simp [atL, hi]
    have hlen := exI_row parts y order t j i hi
    rw [hI, atZ_set (by omega), turn_at hi, col_at (by rw [exS_len]; omega)]
    by_cases hkj : k = j + 1
    · subst hkj
      rw [if_pos rfl]
      have hS : atL (exS parts y (j + 1)) (j + 1) = (List.range y.length).map fun i => fracZ (atZ (atL (fldJ parts (turnZ (exS parts y j) y.length)) i) j) ((j : Int) + 1) := by
        rw [exS, atL, List.getElem?_append_right (by rw [exS_len]; omega), exS_len, Nat.sub_self]
        rfl
      have hSi : atZ (atL (exS parts y (j + 1)) (j + 1)) i = fracZ (atZ (atL (fldJ parts (turnZ (exS parts y j) y.length)) i) j) ((j : Int) + 1) := by
        rw [hS]; simp [atZ, hi]
      have hx : parts[i]? = some parts[i] := List.getElem?_eq_getElem (by omega)
      have hd := scaled_dervL (p := parts[i]) ih (by rw [hdL_at, turn_at hn, colZ_len, exS_len]; exact Nat.le_refl _) (by rw [hdL_at, exI_row _ _ _ _ _ _ hn]; omega) (fun m hm' => by rw [turnZ_len]; exact hm _ (List.getElem_mem _) m hm')
      rw [hSi, fldJ_at hx, fldJ_at hx, hd.2.2 j (by omega)]
      simp only [fracZ, timesZ, resZ, modl, modr]
      congr 1
      rw [Int.pow_succ]
      grind
    · rw [if_neg hkj]
      have h := (ih.2 i (by rw [turnZ_len]; exact hi)).2.2 k (by omega)
      rw [h, turn_at hi, col_at (k := k) (by rw [exS_len]; omega), exS_pre parts y (j := j) (n := j + 1) (by omega) k (by omega)]
theorem exact_same {parts : List (List MonZ)} {y : List Int} {order : Nat} {t : Int} (hy : Nums y) (hn : 0 < y.length) (hp : parts.length = y.length) (hm : ∀ p ∈ parts, ∀ m ∈ p, m.pows.length ≤ y.length) :
    turnZ (exI parts y order t order) (order + 1) = exSt parts y order t := by
  have h := exact_scaled (t := t) hy hn hp hm order (Nat.le_refl _)
  refine list_ext_atL (by simp [turnZ, exSt]) fun j hj => ?_
  rw [turnZ_len] at hj
  rw [turn_at hj]
  have e1 : atL (exSt parts y order t) j = (List.range y.length).map fun i => timesZ (atZ (atL (exS parts y order) j) i) (powZ t j) := by simp [exSt, atL, hj]
  rw [e1]
  have hl := exI_len parts y order t order
  refine List.ext_getElem? fun i => ?_
  by_cases hi : i < y.length
  · have hs := (h.2 i (by rw [turnZ_len]; exact hi)).2.2 j hj
    rw [turn_at hi, col_at (by rw [exS_len]; omega)] at hs
    have e2 : (colZ (exI parts y order t order) j)[i]? = some (atZ (atL (exI parts y order t order) i) j) := by
      simp [colZ, atZ, atL, hl, hi]
    rw [e2, hs]
    simp only [List.getElem?_map, List.getElem?_range hi, Option.map_some, Option.some.injEq]
    simp only [timesZ, resZ, powZ]
    rw [if_neg (by omega), modr, Int.mul_comm]
    rfl
  · rw [List.getElem?_eq_none (by rw [colZ_len, hl]; omega), List.getElem?_eq_none (by simp; omega)]
end Go.Proofs.YtbcjhpgkodeoeaaGreatDoor

/- PolynomialAlong of the program and of the reference. Conditions: lengths of slices up to 2^20. -/
namespace Go.Proofs.YtbcjhpgkodeoeaaGreatDoor
open Go.RowKit Go.Sort

def paOkB (p : List MonZ) (xs : List (List Int)) : Bool := decide (xs.length ≠ 0) && (pathOkB xs (hdL xs) && polyOkB p (hdL xs))
def polyAlongL (p : List MonZ) (xs : List (List Int)) : List Int := if paOkB p xs then dervL p (turnZ xs (hdL xs)) [] else []

theorem turn_ok {xs : List (List Int)} {n : Nat} (h : pathOkB xs n = true) : AllJ xs.length (turnZ xs n) := by
  intro x hx
  simp only [turnZ, List.mem_map] at hx
  obtain ⟨i, _, rfl⟩ := hx
  exact ⟨colZ_len _ _, colZ_nums (pathOk_facts h).2.2.2 i⟩
theorem hdL_turn {xs : List (List Int)} {n : Nat} (h : 0 < n) : hdL (turnZ xs n) = xs.length := by rw [hdL_at, turn_at h, colZ_len]
theorem fine_coef {p : List MonZ} {n : Nat} (h : ∀ m ∈ p, MonFine n m) : ∀ m ∈ p, 0 ≤ m.coef ∧ m.coef ≤ 1000000270 ∧ 0 ≤ degZ m.pows := fun m hm => ⟨(h m hm).1.1, (h m hm).1.2, (h m hm).2.2.1⟩

set_option maxRecDepth 100000 in
set_option maxHeartbeats 1600000 in
theorem pAlong_any (vp vx : Value) (p : List MonZ) (xs : List (List Int)) (w : World) (hp : RdMs w vp p) (hx : RdII w vx xs) (hfit : ∀ m ∈ p, Fit_Mon m) (hh : hdL xs ≤ 1048576) :
    Calls Tryz.prog 24 #[vp, vx] w (Gives (fun w' v fp => OwnI 3 w' v (polyAlongL p xs) fp) w) := by
  have hnone : ∀ W, Below w.heap.size w W → paOkB p xs = false → Gives (fun w' v fp => OwnI 3 w' v (polyAlongL p xs) fp) w (.returned (.slice none 0 0)) W := by
    intro W hW hd
    refine ⟨_, [], rfl, ?_, by simp, hW⟩
    rw [polyAlongL, hd]
    exact ⟨World.ownsRow_nil _ _ _ _, rfl, by simp⟩
  obtain ⟨ad1, len1, cap1, rfl, hl1, hlc1, hcm1, h1'⟩ := rdS_open hp
  obtain ⟨ad, len, cap, rfl, hl, hlc, hcm, h'⟩ := rdS_open hx
  clear hp hx
  by_cases hz : len = 0
  · subst hz
    have HN := Lib.hid (hnone w (Below.refl _ _) (by rw [List.eq_nil_of_length_eq_zero hl]; rfl))
    clear hnone hl hl1
    go_enter Tryz.func24, Tryz.ntmps24
    go_wp2
    go_ret
    exact HN.out
  obtain ⟨b, off, ad', n, cap', x0, rfl, hx0, hcc, h6, h7, h8, h9, hbs⟩ := rdII_get h' (k := 0) (by omega)
  have hhd : hdL xs = n := by
    cases xs with
    | nil => simp at hx0
    | cons y ys =>
      simp only [List.getElem?_cons_zero, Option.some.injEq] at hx0
      subst hx0
      exact h6
  have hdd : paOkB p xs = (pathOkB xs n && polyOkB p n) := by simp [paOkB, hl, hz, hhd]
  have hzb : ((len : Int) == 0) = false := by simp; omega
  have hzp : (0 : Int) < len := by omega
  simp only [Nat.add_zero] at hcc
  rw [hhd] at hh
  have HL := Lib.hid hl
  have HL1 := Lib.hid hl1
  have HDD := Lib.hid hdd
  have HHD := Lib.hid hhd
  clear hl hl1 hdd hhd hx0 h6
  cases hok : pathOkB xs n with
  | false =>
    have HN := Lib.hid (hnone w (Below.refl _ _) (by rw [HDD.out, hok]; rfl))
    clear hnone
    go_enter Tryz.func24, Tryz.ntmps24
    go_wp2_with (go_at_call 67; ((with_reducible refine (pathOk_any _ xs _ _ h').mono ?_); rintro e w' ⟨rfl, rfl⟩; rw [hok]))
    go_ret
    exact HN.out
  | true =>
  cases hpk : polyOkB p n with
  | false =>
    have HN := Lib.hid (fun W hW => hnone W hW (by rw [HDD.out, hok, hpk]; rfl))
    clear hnone
    go_enter Tryz.func24, Tryz.ntmps24
    go_wp2_with (first
      | (go_at_call 67; ((with_reducible refine (pathOk_any _ xs _ _ h').mono ?_); rintro e w' ⟨rfl, rfl⟩; rw [hok]))
      | (go_at_call 44; ((with_reducible refine (polyOk_eq _ p _ _ h1' hfit hpk).mono ?_); rintro e w1 ⟨rfl, hb1⟩)))
    go_ret
    exact HN.out _ hb1
  | true =>
  obtain ⟨q1, q2, q3, q4⟩ := pathOk_facts hok
  obtain ⟨r1, r2, r3, r4⟩ := polyOk_facts hpk
  have htok := turn_ok hok
  rw [HL.out] at q1 q2 htok
  have hE : polyAlongL p xs = derL p (turnZ xs n) [] len := by
    rw [polyAlongL, HDD.out, hok, hpk, HHD.out, derL_nil (by rw [hdL_turn (by omega), HL.out]) (fine_coef r4)]
    rfl
  have HE := Lib.hid hE
  have Q3 := Lib.hid q3
  have R4 := Lib.hid r4
  have TOK := Lib.hid htok
  clear hnone hE q3 q4 r4 htok
  go_enter Tryz.func24, Tryz.ntmps24
  go_wp2_with (first
    | (go_at_call 67; ((with_reducible refine (pathOk_any _ xs _ _ h').mono ?_); rintro e w' ⟨rfl, rfl⟩; rw [hok]))
    | (go_at_call 44; ((with_reducible refine (polyOk_eq _ p _ _ h1' hfit hpk).mono ?_); rintro e w1 ⟨rfl, hb1⟩; have hcc1 := cell_below hb1 hcc))
    | (go_at_call 61; ((with_reducible refine (jets_any _ xs n _ (rdII_mono hb1 h') (by omega) (by rw [HL.out]; omega) Q3.out).mono ?_); rintro e w2 ⟨vy, fy, rfl, hoy, hfy, hby⟩; have hb2 := hb1.trans (hby.mono hb1.size)))
    | (go_at_call 83; ((with_reducible refine (derived_any _ _ _ p (turnZ xs n) [] n len _ (rdMs_mono hb2 h1') (ownII_rd hoy) (rdIII_nil _) r3 R4.out r1 r2 q1 q2 (turnZ_len _ _) TOK.out (by simp) (by simp)).mono ?_); rintro e w3 ⟨vr, fr, rfl, hor, hfr, hbr⟩; have hb3 := hb2.trans (hbr.mono hb2.size))))
  go_ret
  exact ⟨_, fr, rfl, by rw [HE.out]; exact hor, fun b hb => by { have := hfr b hb; have := hb2.size; omega }, hb3⟩

end Go.Proofs.YtbcjhpgkodeoeaaGreatDoor

/- ValueAlong of the program and of the reference. Conditions: lengths of slices up to 2^20. -/
namespace Go.Proofs.YtbcjhpgkodeoeaaGreatDoor
open Go.RowKit Go.Sort

def fpOkB (f : FldZ) (xs : List (List Int)) : Bool := fldOkB f && pathOkB xs f.dim
theorem pathOk_lit {w : World} {xs : List (List Int)} {d : Int} {b : Bool} {v : Value} (h : RdII w v xs) (hb : pathOkB xs d = b) : Calls Tryz.prog 67 #[v, .int .i64 d] w fun e w' => e = .returned (.bool b) ∧ w = w' := hb ▸ pathOk_any v xs d w h
set_option maxHeartbeats 1600000 in
theorem fpOk_any (vf vx : Value) (f : FldZ) (xs : List (List Int)) (w : World) (hf : RdFld w vf f) (hx : RdII w vx xs) (hfit : ∀ p ∈ f.parts, ∀ m ∈ p, Fit_Mon m) :
    Calls Tryz.prog 56 #[vf, vx] w fun e w' => e = .returned (.bool (fpOkB f xs)) ∧ Below w.heap.size w w' := by
  obtain ⟨vP, rfl, hI, hp⟩ := hf
  obtain ⟨ad1, len1, cap1, rfl, hl1, hlc1, hcm1, h1'⟩ := rdS_open hx
  obtain ⟨adp, lenp, capp, rfl, hlp, hlcp, hcmp, hp'⟩ := rdS_open hp
  obtain ⟨W, hW⟩ : ∃ W, W = w.alloc (.cells #[.int .i64 f.dim, .slice adp lenp capp] 30) := ⟨_, rfl⟩
  have hb0 : Below w.heap.size w W := hW ▸ (Below.refl _ _).alloc (Nat.le_refl _) _
  have hd0 : W.cell? ⟨w.heap.size, 0, none⟩ = some (.int .i64 f.dim) := by rw [hW]; simp
  have hd1 : W.cell? ⟨w.heap.size, 1, none⟩ = some (.slice adp lenp capp) := by rw [hW]; simp
  have HW := Lib.hid hW
  have hfW : RdFld W (.agg #[.int .i64 f.dim, .slice adp lenp capp]) f := ⟨_, rfl, hI, rdMss_mono hb0 hp'⟩
  clear hW hx hp hl1 hlp
  cases hk : fldOkB f with
  | false =>
    have HR := Lib.hid (show fpOkB f xs = false by rw [fpOkB, hk]; rfl)
    go_enter Tryz.func56, Tryz.ntmps56
    go_wp2_with fail
    rw [← HW.out]
    refine (fldOk_eq _ f W hfW hfit hk).mono ?_
    rintro e w1 ⟨rfl, hb1⟩
    have hd0a := cell_below hb1 hd0
    go_wp2
    go_ret
    exact ⟨ret_bool HR.out.symm, hb0.trans (hb1.mono hb0.size)⟩
  | true =>
    obtain ⟨b, hb⟩ : ∃ b, pathOkB xs f.dim = b := ⟨_, rfl⟩
    have HR := Lib.hid (show fpOkB f xs = b by rw [fpOkB, hk, hb]; rfl)
    go_enter Tryz.func56, Tryz.ntmps56
    go_wp2_with fail
    rw [← HW.out]
    refine (fldOk_eq _ f W hfW hfit hk).mono ?_
    rintro e w1 ⟨rfl, hb1⟩
    have hd0a := cell_below hb1 hd0
    have hbb := hb0.trans (hb1.mono hb0.size)
    have hxr := rdII_mono hbb h1'
    go_wp2_with (go_at_call 67; ((with_reducible refine (pathOk_lit hxr hb).mono ?_); rintro e w2 ⟨rfl, rfl⟩))
    go_ret
    exact ⟨ret_bool HR.out.symm, hbb⟩

theorem fpOk_eq {b : Bool} (vf vx : Value) (f : FldZ) (xs : List (List Int)) (w : World) (hf : RdFld w vf f) (hx : RdII w vx xs) (hfit : ∀ p ∈ f.parts, ∀ m ∈ p, Fit_Mon m) (h : fpOkB f xs = b) :
    Calls Tryz.prog 56 #[vf, vx] w fun e w' => e = .returned (.bool b) ∧ Below w.heap.size w w' := h ▸ fpOk_any vf vx f xs w hf hx hfit
theorem fpOk_facts {f : FldZ} {xs : List (List Int)} (h : fpOkB f xs = true) : ∃ n : Nat, f.dim = n ∧ f.parts.length = n ∧ 1 ≤ n ∧ n ≤ 6 ∧ (∀ p ∈ f.parts, p.length ≤ 12 ∧ ∀ m ∈ p, MonFine n m) ∧ pathOkB xs n = true := by
  simp only [fpOkB, Bool.and_eq_true] at h
  obtain ⟨n, h1, h2, h3, h4, h5⟩ := fldOk_facts h.1
  exact ⟨n, h1, h2, h3, h4, h5, h1 ▸ h.2⟩
theorem fldD_nil {parts : List (List MonZ)} {ys : List (List Int)} {size n : Nat} (hs : size = hdL ys) (h : ∀ p ∈ parts, p.length ≤ 12 ∧ ∀ m ∈ p, MonFine n m) : fldD parts ys [] size = fldE parts ys [] := by
  refine List.map_congr_left fun p hp => ?_
  exact derL_nil hs (fine_coef (h p hp).2)

end Go.Proofs.YtbcjhpgkodeoeaaGreatDoor

/- DerivativeAt of the program and of the reference. Conditions: lengths of slices up to 2^20. -/
namespace Go.Proofs.YtbcjhpgkodeoeaaGreatDoor
open Go.RowKit Go.Sort

-- slices of slices of slices of the call's own
def OElIII (e1 e : Nat) (w : World) (us : List Value) (x : List (List Int)) (fp : List Nat) : Prop := ∃ u, us = [u] ∧ OwnII e1 e w u x fp
def OwnIII (e2 e1 e : Nat) : World → Value → List (List (List Int)) → List Nat → Prop := OwnS e2 1 (OElIII e1 e)
theorem oelIII_only {e1 e : Nat} {w w' : World} {us : List Value} {x : List (List Int)} {fp fp' : List Nat} (h : OElIII e1 e w us x fp) (ho : Only fp' w w') (hd : ∀ g ∈ fp, g ∉ fp') : OElIII e1 e w' us x fp := by
  obtain ⟨u, rfl, h⟩ := h
  exact ⟨u, rfl, ownII_only h ho hd⟩
theorem oelIII_lt {e1 e : Nat} {w : World} {us : List Value} {x : List (List Int)} {fp : List Nat} (h : OElIII e1 e w us x fp) : ∀ g ∈ fp, g < w.heap.size := by
  obtain ⟨u, rfl, h⟩ := h
  exact ownII_lt h
theorem ownIII_rd {e2 e1 e : Nat} {w : World} {v : Value} {xs : List (List (List Int))} {fp : List Nat} (h : OwnIII e2 e1 e w v xs fp) : RdIII w v xs :=
  ownS_rd (fun _ _ _ ⟨u, hu, h⟩ => ⟨u, hu, ownII_rd h⟩) h
theorem ownII_nodup {e1 e : Nat} {w : World} {v : Value} {xs : List (List Int)} {fp : List Nat} (h : OwnII e1 e w v xs fp) : fp.Nodup := by
  obtain ⟨_, _, _, _, _, _, h⟩ := h
  exact h
theorem ownIII_push {e2 e1 e : Nat} {W wr wq w1 w2 : World} {v v' p : Value} {xs : List (List (List Int))} {ys : List (List Int)} {f : List Nat} {us : List (List Value)} {fs : List Nat} {n : Nat}
    (hone : ∀ u ∈ us, u.length = 1) (hels : OwnEls (OElIII e1 e) wr us xs fs) (hnd : (v.ownBlock.toList ++ fs).Nodup) (hown0 : wr.ownsRow 0 e2 1 v xs.length us.flatten) (hn : xs.length = n)
    (hp : OwnII e1 e wq p ys f) (hf : ∀ b ∈ f, wr.heap.size ≤ b) (hfp : ∀ b ∈ v.ownBlock.toList ++ fs, W.heap.size ≤ b) (hW : Below W.heap.size W wr) (hq : Below wr.heap.size wr wq)
    (h1 : Below wq.heap.size wq w1) (hown : w2.ownsRow 0 e2 1 v' (n + 1) (us.flatten ++ [p])) (hg : w1.grownBy w2 v.ownBlock) (hv : ∀ b, v'.ownBlock = some b → v.ownBlock = some b ∨ w1.heap.size ≤ b) :
    ∃ fp', OwnIII e2 e1 e w2 v' (xs ++ [ys]) fp' ∧ (∀ b ∈ fp', W.heap.size ≤ b) ∧ Below W.heap.size W w2 := by
  have hlt : ∀ b ∈ v.ownBlock.toList ++ fs, b < wr.heap.size := fun b hb => by
    simp only [List.mem_append, Option.mem_toList] at hb
    rcases hb with hb | hb
    · exact (hown0.lt b hb).2
    · exact ownEls_lt (fun _ _ _ h => oelIII_lt h) hels b hb
  refine ownS_push (El := OElIII e1 e) (W := W) (w := wq) (w1 := w1) (f := f) (fs := fs) (fun w w' u x f g h ho hd => oelIII_only h ho hd) hone (ownEls_only (fun u x f' h hd => oelIII_only h (Only.of_below (fp := []) hq) hd) hels (by simp)) hnd ⟨p, rfl, hp⟩ rfl
    (fun b hb hm => by have := hf b hb; have := hlt b hm; omega) (ownII_nodup hp) (ownII_lt hp) (fun b hb => by have := hlt b (by simp [hb]); have := hq.size; omega) hn (fun b hb => ?_) (hW.trans (hq.mono hW.size)) h1 hown hg hv
  rw [List.mem_append] at hb
  rcases hb with hb | hb
  · exact hfp b hb
  · have := hf b hb
    have := hW.size
    omega
theorem Tryz.info_jets : (Tryz.prog.info? 83).map (fun i => (i.zero, i.size, i.bytes)) = some (some (.slice none 0 0), 1, 24) := by kernel_rfl
theorem points_at (v : Value) (xs : List (List Int)) (n : Nat) (nz : Int) (w : World) (hz : nz = (n : Int)) (h : RdII w v xs) (hn : n ≤ 7) (hx7 : xs.length ≤ 7) (hrow : ∀ y ∈ xs, y.length = n) :
    Calls Tryz.prog 58 #[v, .int .i64 nz] w (Gives (fun w' v fp => OwnII 35 3 w' v (turnZ xs n) fp) w) := by
  subst hz
  exact points_any v xs n w h hn hx7 hrow
/-- A slice of one row that was just laid. -/
theorem rdII_one {w W : World} {t : TypeId} {u : Value} {y : List Int} (h : RdI w u y) (hW : W = w.alloc (.cells #[u] t)) : RdII W (.slice (some ⟨w.heap.size, 0, none⟩) 1 1) [y] := by
  have hb : Below w.heap.size w W := hW ▸ (Below.refl _ _).alloc (Nat.le_refl _) _
  refine ⟨_, _, rfl, Nat.le_refl _, by omega, fun _ => ⟨_, _, rfl, fun i x hx => ?_⟩⟩
  cases i with
  | zero =>
    simp at hx
    subst hx
    refine ⟨[u], rfl, fun j z hz => ?_, u, rfl, rdI_mono hb h⟩
    cases j with
    | zero => simp at hz; subst hz; rw [hW]; simp
    | succ j => simp at hz
  | succ i => simp at hx
end Go.Proofs.YtbcjhpgkodeoeaaGreatDoor
