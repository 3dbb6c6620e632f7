/- The texts Fine, CanP, Path, Jet, Jet2, Turn in one: each says at its head what it proves. Conditions: as said there. -/
import Derived.Deep.AppendLies
import Derived.Deep.RegionLaw
import Derived.Test.YtbcjhpgkodeoeaaGreatDoorN04
import Derived.Test.YtbcjhpgkodeoeaaGreatDoorN08
import Derived.Test.YtbcjhpgkodeoeaaGreatDoorN02
set_option linter.unusedSimpArgs false
set_option linter.unusedVariables false
/- What a valid polynomial or field holds. Conditions: none. -/
namespace Go.Proofs.YtbcjhpgkodeoeaaGreatDoor
open Go.RowKit Go.Sort

/-- What the walk needs of a monomial. -/
def MonFine (n : Nat) (m : MonZ) : Prop := (0 ≤ m.coef ∧ m.coef ≤ 1000000270) ∧ m.pows.length = n ∧ 0 ≤ degZ m.pows ∧ ∀ x ∈ m.pows, 0 ≤ x ∧ x ≤ 5
theorem polyOk_facts {p : List MonZ} {n : Nat} (h : polyOkB p n = true) : 1 ≤ n ∧ n ≤ 6 ∧ p.length ≤ 12 ∧ ∀ m ∈ p, MonFine n m := by
  simp only [polyOkB, Bool.and_eq_true, decide_eq_true_eq, List.all_eq_true, List.mem_range, dimB] at h
  obtain ⟨⟨⟨h1, h2⟩, h3⟩, h4⟩ := h
  refine ⟨by omega, by omega, h3, fun m hm => ?_⟩
  obtain ⟨i, hi, rfl⟩ := List.getElem_of_mem hm
  have h5 := h4 i hi
  have hm' : monOkB (n : Int) p[i] = true := by
    cases hb : monOkB (n : Int) p[i] with
    | true => rfl
    | false => rw [stepOk_mon (List.getElem?_eq_getElem hi) hb] at h5; exact absurd h5 (by simp)
  simp only [monOkB, Bool.and_eq_true, decide_eq_true_eq, isNumB] at hm'
  obtain ⟨⟨⟨h6, h7⟩, h8⟩, h9, h10⟩ := hm'
  refine ⟨by omega, by omega, h9, fun x hx => ?_⟩
  unfold degZ at h9
  split at h9
  · rename_i hall
    have := List.all_eq_true.1 hall x hx
    simpa [powIn] using this
  · omega
theorem fldOk_parts {f : FldZ} (h : fldOkB f = true) : ∃ n : Nat, f.dim = n ∧ f.parts.length = n ∧ 1 ≤ n ∧ n ≤ 6 ∧ ∀ p ∈ f.parts, p.length ≤ 12 ∧ ∀ m ∈ p, MonFine n m := by
  simp only [fldOkB, Bool.and_eq_true, decide_eq_true_eq, dimB, List.all_eq_true] at h
  obtain ⟨⟨⟨h1, h2⟩, h3⟩, h4⟩ := h
  refine ⟨f.parts.length, h3.symm, rfl, by omega, by omega, fun p hp => ?_⟩
  have h5 := h4 p hp
  rw [← h3] at h5
  have := polyOk_facts h5
  exact ⟨this.2.2.1, this.2.2.2⟩
end Go.Proofs.YtbcjhpgkodeoeaaGreatDoor

/- A polynomial whose monomials are put in order passes the test on polynomials. Plain: no program's step stands here. -/
namespace Go.Proofs.YtbcjhpgkodeoeaaGreatDoor

/-- n variables, a degree of at most d -/
def MonIn (n : Nat) (d : Int) (m : MonZ) : Prop := m.pows.length = n ∧ (∀ x ∈ m.pows, 0 ≤ x) ∧ m.pows.sum ≤ d
theorem sum_ge {ps : List Int} (h : ∀ x ∈ ps, 0 ≤ x) : 0 ≤ ps.sum ∧ ∀ x ∈ ps, x ≤ ps.sum := by
  induction ps with
  | nil => simp
  | cons p ps ih =>
    obtain ⟨h1, h2⟩ := ih (fun x hx => h x (by simp [hx]))
    have h0 := h p (by simp)
    refine ⟨by rw [List.sum_cons]; omega, fun x hx => ?_⟩
    rw [List.sum_cons]
    rcases List.mem_cons.1 hx with rfl | hx
    · omega
    · have := h2 x hx; omega
theorem degZ_in {n : Nat} {m : MonZ} (h : MonIn n 5 m) : 0 ≤ degZ m.pows ∧ degZ m.pows ≤ 5 := by
  obtain ⟨_, h2, h3⟩ := h
  obtain ⟨h4, h5⟩ := sum_ge h2
  have : m.pows.all powIn = true := by
    simp only [List.all_eq_true, powIn, decide_eq_true_eq]
    intro x hx
    have h6 := h2 x hx
    have h7 := h5 x hx
    omega
  unfold degZ
  rw [if_pos this]
  omega
theorem polyOk_canon {p : List MonZ} {n : Nat} (h1 : 1 ≤ n) (h6 : n ≤ 6) (hc : Canon p) (hl : p.length ≤ 12) (hm : ∀ m ∈ p, MonIn n 5 m) : polyOkB p n = true := by
  rw [polyOkB_all (by simp [dimB]; omega) hl, List.all_eq_true]
  intro i hi
  have hi : i < p.length := by simpa using hi
  have hx : p[i]? = some p[i] := List.getElem?_eq_getElem hi
  have hmem : p[i] ∈ p := List.getElem_mem _
  have hn := hc.2.1 _ hmem
  have hd := degZ_in (hm _ hmem)
  have hmon : monOkB (n : Int) p[i] = true := by
    simp only [monOkB, Bool.and_eq_true, decide_eq_true_eq]
    exact ⟨⟨⟨hc.2.2 _ hmem, isNumB_yes hn.1 (by omega)⟩, by rw [(hm _ hmem).1]⟩, hd⟩
  unfold stepOkB
  rw [hx]
  simp only [hmon, Bool.true_and, Bool.or_eq_true, decide_eq_true_eq]
  by_cases h0 : i = 0
  · exact .inl h0
  · refine .inr ?_
    have hy : p[i - 1]? = some p[i - 1] := List.getElem?_eq_getElem (by omega)
    rw [hy]
    exact List.pairwise_iff_getElem.1 hc.1 (i - 1) i (by omega) hi (by omega)
end Go.Proofs.YtbcjhpgkodeoeaaGreatDoor

/- The tests on paths, of the program and of the reference: what they return. Conditions: none. -/
namespace Go.Proofs.YtbcjhpgkodeoeaaGreatDoor
open Go.RowKit

def rowOkB (dim : Int) (y : List Int) : Bool := decide ((y.length : Int) = dim) && y.all isNumB
def pathOkB (xs : List (List Int)) (dim : Int) : Bool := decide (1 ≤ xs.length ∧ xs.length ≤ 7) && xs.all (rowOkB dim)

theorem rowOkB_len {dim : Int} {y : List Int} (h : (y.length : Int) ≠ dim) : rowOkB dim y = false := by simp [rowOkB, h]
theorem rowOkB_all {dim : Int} {y : List Int} (h : (y.length : Int) = dim) : rowOkB dim y = y.all isNumB := by simp [rowOkB, h]
theorem pathOkB_len {dim : Int} {xs : List (List Int)} (h : ¬ (1 ≤ xs.length ∧ xs.length ≤ 7)) : pathOkB xs dim = false := by
  unfold pathOkB; rw [decide_eq_false h]; rfl
theorem pathOkB_all {dim : Int} {xs : List (List Int)} (h0 : 1 ≤ xs.length) (h1 : xs.length ≤ 7) : pathOkB xs dim = xs.all (rowOkB dim) := by
  unfold pathOkB; rw [decide_eq_true ⟨h0, h1⟩]; rfl

set_option maxHeartbeats 800000 in
theorem pathOk_any (v : Value) (xs : List (List Int)) (dim : Int) (w : World) (h : RdII w v xs) :
    Calls Tryz.prog 67 #[v, .int .i64 dim] w fun e w' => e = .returned (.bool (pathOkB xs dim)) ∧ w = w' := by
  obtain ⟨ad, len, cap, rfl, hl, hlc, hcm, h'⟩ := rdS_open h
  have hlen := Lib.hid hl
  clear h hl
  by_cases h0 : len = 0
  · subst h0
    go_enter Tryz.func67, Tryz.ntmps67
    go_wp2
    go_ret
    exact ⟨ret_bool (pathOkB_len (by rw [hlen.out]; omega)).symm, rfl⟩
  by_cases h7 : 7 < len
  · go_enter Tryz.func67, Tryz.ntmps67
    go_wp2
    go_ret
    exact ⟨ret_bool (pathOkB_len (by rw [hlen.out]; omega)).symm, rfl⟩
  have hgt : 1 ≤ len := by omega
  have hle : len ≤ 7 := by omega
  clear h0 h7
  have HF := Lib.hid (pathOkB_all (dim := dim) (xs := xs) (by rw [hlen.out]; exact hgt) (by rw [hlen.out]; exact hle))
  have hz : ((len : Int) == 0) = false := by simp; omega
  have hz7 : decide (7 < (len : Int)) = false := by simp; omega
  go_enter Tryz.func67, Tryz.ntmps67
  go_wp2
  go_loop [17] (fun i => ∃ k : Nat, k ≤ len ∧ i = .int .i64 k ∧ (xs.take k).all (rowOkB dim) = true) (fun i => len - (intOf i).toNat)
  case atStart => exact ⟨0, Nat.zero_le _, rfl, by simp⟩
  case round =>
    obtain ⟨k, hk, rfl, ha⟩ := hrel
    have HA := Lib.hid ha
    clear ha
    by_cases hlt : k < len
    · obtain ⟨b, off, ad', len', cap', x, rfl, hx, hcc, h6, h7, h8, h9, hbs⟩ := rdII_get h' hlt
      have HX := Lib.hid hx
      have H6 := Lib.hid h6
      clear hx h6
      by_cases hd : (len' : Int) = dim
      · have HR := Lib.hid (rowOkB_all (dim := dim) (y := x) (by rw [H6.out]; exact hd))
        subst hd
        cases hp : x.all isNumB
        · have HP := Lib.hid hp
          go_wp2_with (go_at_call 116; ((with_reducible refine (allNumbers_any _ x _ h9).mono ?_); rintro e w' ⟨rfl, rfl⟩))
          go_ret
          exact ⟨ret_bool (by rw [HF.out]; exact (all_false HX.out (HR.out.trans HP.out)).symm), rfl⟩
        · have HP := Lib.hid hp
          go_wp2_with (go_at_call 116; ((with_reducible refine (allNumbers_any _ x _ h9).mono ?_); rintro e w' ⟨rfl, rfl⟩))
          go_round
          case rel => exact ⟨k + 1, by omega, by go_num, all_snoc HX.out HA.out (HR.out.trans HP.out)⟩
          case measure => simp [intOf]; omega
      · have HR := Lib.hid (rowOkB_len (dim := dim) (y := x) (by rw [H6.out]; exact hd))
        go_wp2
        go_ret
        exact ⟨ret_bool (by rw [HF.out]; exact (all_false HX.out HR.out).symm), rfl⟩
    · go_wp2
      go_ret
      exact ⟨ret_bool (by rw [HF.out]; exact (all_done (by rw [hlen.out]; omega) HA.out).symm), rfl⟩

end Go.Proofs.YtbcjhpgkodeoeaaGreatDoor

/- Jets: the program's polynomials in h. Conditions: none. -/
namespace Go.Proofs.YtbcjhpgkodeoeaaGreatDoor
open Go.RowKit Go.Sort

theorem Tryz.info_jet : (Tryz.prog.info? 89).map (fun i => (i.zero, i.size, i.bytes)) = some (some (.slice none 0 0), 1, 24) := by kernel_rfl

/-- The column i of rows. -/
def colZ (xs : List (List Int)) (i : Nat) : List Int := xs.map fun y => y[i]?.getD 0
def turnZ (xs : List (List Int)) (n : Nat) : List (List Int) := (List.range n).map (colZ xs)

/-- Columns are made one behind the other, each by appending. -/
structure Cols (e1 e : Nat) (g n cap : Nat) (W w : World) (xs : List (List Int)) (us : List (List Value)) (fs : List Nat) (v : Value) (ys : List Int) (f : List Nat) (r : Nat) : Prop where
  row : w.ownsRow 0 e1 1 (.slice (some ⟨g, 0, none⟩) n cap) n (us.flatten ++ v :: List.replicate r (.slice none 0 0))
  len : xs.length + 1 + r = n
  one : ∀ u ∈ us, u.length = 1
  els : OwnEls (OElII e) w us xs fs
  cur : OwnI e w v ys f
  new : ∀ b ∈ fs ++ f, W.heap.size ≤ b ∧ b ≠ g
  nodup : (fs ++ f).Nodup
  below : Below W.heap.size W w
  head : W.heap.size ≤ g

structure ColsD (e1 e : Nat) (g n cap : Nat) (W w : World) (xs : List (List Int)) (us : List (List Value)) (fs : List Nat) (r : Nat) : Prop where
  row : w.ownsRow 0 e1 1 (.slice (some ⟨g, 0, none⟩) n cap) n (us.flatten ++ List.replicate r (.slice none 0 0))
  len : xs.length + r = n
  one : ∀ u ∈ us, u.length = 1
  els : OwnEls (OElII e) w us xs fs
  new : ∀ b ∈ fs, W.heap.size ≤ b ∧ b ≠ g
  nodup : fs.Nodup
  below : Below W.heap.size W w
  head : W.heap.size ≤ g

section
variable {e1 e g n cap : Nat} {W w : World} {xs : List (List Int)} {us : List (List Value)} {fs : List Nat}
theorem ColsD.open {r : Nat} (h : ColsD e1 e g n cap W w xs us fs (r + 1)) : Cols e1 e g n cap W w xs us fs (.slice none 0 0) [] [] r :=
  ⟨by simpa [List.replicate_succ] using h.row, by have := h.len; omega, h.one, h.els, ⟨World.ownsRow_nil _ _ _ _, rfl, by simp⟩, by simpa using h.new, by simpa using h.nodup, h.below, h.head⟩
theorem Cols.close {v : Value} {ys : List Int} {f : List Nat} {r : Nat} (h : Cols e1 e g n cap W w xs us fs v ys f r) : ColsD e1 e g n cap W w (xs ++ [ys]) (us ++ [[v]]) (fs ++ f) r :=
  ⟨by simpa using h.row, by have := h.len; simp; omega, by
    intro u hu
    simp at hu
    rcases hu with hu | rfl
    · exact h.one u hu
    · rfl, ownEls_snoc h.els ⟨v, rfl, h.cur⟩, h.new, h.nodup, h.below, h.head⟩
theorem ColsD.done (h : ColsD e1 e g n cap W w xs us fs 0) : OwnII e1 e w (.slice (some ⟨g, 0, none⟩) n cap) xs (g :: fs) ∧ (∀ b ∈ g :: fs, W.heap.size ≤ b) := by
  have hl := h.len
  simp at hl
  subst hl
  refine ⟨⟨us, fs, by simpa using h.row, h.one, h.els, rfl, ?_⟩, ?_⟩
  · rw [List.nodup_cons]
    exact ⟨fun hm => (h.new g hm).2 rfl, h.nodup⟩
  · intro b hb
    simp at hb
    rcases hb with rfl | hb
    · exact h.head
    · exact (h.new b hb).1
theorem cols_flat {v : Value} {ys : List Int} {f : List Nat} {r : Nat} (h : Cols e1 e g n cap W w xs us fs v ys f r) : us.flatten.length = xs.length := by
  have := flat_len h.one (ownEls_length h.els)
  omega
theorem Cols.cell {v : Value} {ys : List Int} {f : List Nat} {r : Nat} (h : Cols e1 e g n cap W w xs us fs v ys f r) : w.cell? ⟨g, xs.length, none⟩ = some v ∧ w.frozen? ⟨g, xs.length, none⟩ = false := by
  obtain ⟨h1, h2, _⟩ := own_put h.row (k := xs.length) (cols_flat h) v
  exact ⟨h1, h2⟩

/-- Behind a new block (the appended element), the append, and the store of the new slice. -/
theorem Cols.push {v : Value} {ys : List Int} {f : List Nat} {r : Nat} (h : Cols e1 e g n cap W w xs us fs v ys f r) {w1 w2 : World} {v' : Value} {y : Int} (hy : I64 y)
    (h1 : Below w.heap.size w w1) (hown : w2.ownsRow 0 e 1 v' (ys.length + 1) (ys.map (Value.int .i64) ++ [.int .i64 y])) (hg : w1.grownBy w2 v.ownBlock) (hv : ∀ b, v'.ownBlock = some b → b ∈ f ∨ w1.heap.size ≤ b) :
    w2.cell? ⟨g, xs.length, none⟩ = some v ∧ w2.frozen? ⟨g, xs.length, none⟩ = false ∧ Below W.heap.size W w2 ∧ ∃ f', Cols e1 e g n cap W (w2.setCell ⟨g, xs.length, none⟩ v') xs us fs v' (ys ++ [y]) f' r := by
  have hf : f = v.ownBlock.toList := h.cur.2.1
  have hgs : g < w.heap.size := (h.row.lt _ rfl).2
  have hO1 : Only f w w1 := Only.of_below h1
  have hO2 : Only f w1 w2 := ⟨hg.os, hg.tape, hg.output, hg.size, fun k hk hn => hg.block k hk (fun e => hn (by rw [hf, ← e]; simp))⟩
  have hO := hO1.trans hO2
  have hgf : g ∉ f := fun hm => (h.new g (by simp [hm])).2 rfl
  have hrow := ownsRow_only h.row hO (fun b hb => by simp [Value.ownBlock] at hb; subst hb; exact hgf)
  obtain ⟨q1, q2, q3⟩ := own_put hrow (k := xs.length) (cols_flat h) v'
  have hSt : Only [g] w2 (w2.setCell ⟨g, xs.length, none⟩ v') := (Only.refl _ _).setCell (by simp) _
  have hnd := h.nodup
  rw [List.nodup_append] at hnd
  have hbW2 : Below W.heap.size W w2 := h.below.trans (hO.below h.below.size (fun b hb => (h.new b (by simp [hb])).1))
  refine ⟨q1, q2, hbW2, v'.ownBlock.toList, by simpa using q3, h.len, h.one, ?_, ?_, ?_, ?_, ?_, h.head⟩
  · exact ownEls_only (fun u x f1 h1 hd => oelII_only h1 ((hO.mono (fp' := f ++ [g]) (fun b hb => by simp [hb])).trans (hSt.mono (fun b hb => by simp at hb; simp [hb]))) hd) h.els
      (fun b hb hm => by
        have hm' : b ∈ f ++ [g] := hm
        simp at hm'
        rcases hm' with hm' | hm'
        · exact hnd.2.2 b hb b hm' rfl
        · exact (h.new b (by simp [hb])).2 hm')
  · refine ⟨?_, rfl, ?_⟩
    · have : w2.ownsRow 0 e 1 v' (ys ++ [y]).length ((ys ++ [y]).map (Value.int .i64)) := by simpa using hown
      refine ownsRow_only this hSt (fun b hb hm => ?_)
      simp at hm
      subst hm
      rcases hv b hb with hv | hv
      · exact hgf hv
      · have := h1.size; omega
    · intro x hx
      simp at hx
      rcases hx with hx | rfl
      · exact h.cur.2.2 x hx
      · exact hy
  · intro b hb
    simp at hb
    rcases hb with hb | hb
    · exact h.new b (by simp [hb])
    · rcases hv b hb with hv | hv
      · exact h.new b (by simp [hv])
      · have := h1.size
        have := h.below.size
        exact ⟨by omega, by omega⟩
  · rw [List.nodup_append]
    refine ⟨hnd.1, by cases v'.ownBlock <;> simp, fun a ha b hb e => ?_⟩
    subst e
    simp at hb
    rcases hv a hb with hv | hv
    · exact hnd.2.2 a ha a hv rfl
    · have := ownEls_lt (fun _ _ _ h => oelII_lt h) h.els a ha
      have := h1.size
      omega
  · refine hbW2.trans (hSt.below ?_ (fun b hb => by simp at hb; subst hb; exact h.head))
    have := hO.size
    have := h.below.size
    omega
end

set_option maxRecDepth 100000 in
set_option maxHeartbeats 1600000 in
theorem jets_any (v : Value) (xs : List (List Int)) (n : Nat) (w : World) (h : RdII w v xs) (hn : n ≤ 2097152) (hx7 : xs.length ≤ 7) (hrow : ∀ y ∈ xs, y.length = n) :
    Calls Tryz.prog 61 #[v, .int .i64 n] w (Gives (fun w' v fp => OwnII 89 3 w' v (turnZ xs n) fp) w) := by
  obtain ⟨ad, len, cap, rfl, hl, hlc, hcm, h'⟩ := rdS_open h
  have HL := Lib.hid hl
  have HR := Lib.hid hrow
  rw [hl] at hx7
  clear h hl hrow
  obtain ⟨i0, hi, hz0, hz1, hz2⟩ := info_parts Tryz.info_jet
  have hib : i0.bytes * n ≤ 281474976710656 := by rw [hz2]; omega
  go_enter Tryz.func61, Tryz.ntmps61
  go_wp2_with (first
    | (at_make; refine wpList_make_full _ rfl _ _ 83 rfl 0 89 i0 (.slice none 0 0) 1 Tryz.underlying83 hi hz0 hz1 .i64 .i64 _ _ n rfl rfl rfl rfl hib (by unfold maxLen; omega) (Nat.zero_le _) ?_; intro w1 hown1 hgrow1))
  have hbl : Below w.heap.size w w1 := (Below.refl _ _).grown hgrow1 (Nat.le_refl _) (fun k hk => by cases hk)
  have hm0 : (madeCells (Value.slice none 0 0).cells (n * 1)).toList = List.replicate n (.slice none 0 0) := by
    rw [Nat.mul_one]; exact toList_madeCells_one _ _
  rw [hm0] at hown1
  have HD0 := Lib.hid (show ColsD 89 3 w.heap.size n n w w1 [] [] [] n from ⟨by simpa using hown1, by simp, by simp, rfl, by simp, by simp, hbl, Nat.le_refl _⟩)
  clear hm0 hgrow1 hi hz0 hz1 hz2 hib hown1 hbl
  obtain ⟨j0, hj, hy0, hy1, hy2⟩ := info_parts Tryz.info_int
  go_loopw [13] (fun i wr => ∃ (k : Nat) (us : List (List Value)) (fs : List Nat), k ≤ n ∧ i = .int .i64 k ∧ ColsD 89 3 w.heap.size n n w wr ((turnZ xs n).take k) us fs (n - k)) (fun i _ => n - (intOf i).toNat)
  case atStart => exact ⟨0, [], [], Nat.zero_le _, rfl, by simpa using HD0.out⟩
  case round =>
    obtain ⟨k, us, fs, hk, rfl, hD⟩ := hrel
    have htl : (turnZ xs n).length = n := by simp [turnZ]
    by_cases hlt : k < n
    case neg =>
      obtain rfl : k = n := by omega
      rw [Nat.sub_self, List.take_of_length_le (by omega)] at hD
      go_wp2
      go_ret
      exact ⟨_, _, rfl, hD.done.1, hD.done.2, hD.below⟩
    obtain ⟨r, hr⟩ : ∃ r, n - k = r + 1 := ⟨n - k - 1, by omega⟩
    rw [hr] at hD
    have HC0 := Lib.hid hD.open
    have HRR := Lib.hid hr
    have HTL := Lib.hid htl
    clear hD hr htl
    go_wp2
    go_loopw [18] (fun j wq => ∃ (q : Nat) (u : Value) (f : List Nat), q ≤ len ∧ j = .int .i64 q ∧ Cols 89 3 w.heap.size n n w wq ((turnZ xs n).take k) us fs u ((colZ xs k).take q) f r) (fun j _ => len - (intOf j).toNat)
    case atStart => exact ⟨0, _, [], Nat.zero_le _, rfl, by simpa using HC0.out⟩
    case round =>
      obtain ⟨q, u, f, hq, rfl, hC⟩ := hrel
      have hcl : (colZ xs k).length = len := by rw [colZ, List.length_map, HL.out]
      by_cases hql : q < len
      case neg =>
        obtain rfl : q = len := by omega
        rw [List.take_of_length_le (l := colZ xs k) (by omega)] at hC
        have HE := Lib.hid hC.close
        clear hC hcl HC0
        go_wp2
        go_roundw
        case rel =>
          have e1 : (turnZ xs n).take (k + 1) = (turnZ xs n).take k ++ [colZ xs k] := take_snoc (by simp [turnZ, hlt])
          have e2 : n - (k + 1) = r := by have := HRR.out; omega
          exact ⟨k + 1, _, _, by omega, by go_num, by rw [e1, e2]; exact HE.out⟩
        case measure => simp [intOf]; omega
      obtain ⟨b, off, ad2, len2, cap2, y, rfl, hy, hcc0, h6, h7, h8, h9, hbs⟩ := rdII_get h' hql
      have hyn : y.length = n := HR.out y (List.mem_of_getElem? hy)
      obtain ⟨b3, off3, z, rfl, hz, hcz0, hIz, hb3⟩ := rdI_get h9 (k := k) (by omega)
      have hcc := cell_below hC.below hcc0
      have hcz := cell_below hC.below hcz0
      have hcol : (colZ xs k)[q]? = some z := by simp [colZ, hy, hz]
      have hk2 : k < len2 := by omega
      have hkl : ((turnZ xs n).take k).length = k := by rw [List.length_take, HTL.out]; omega
      obtain ⟨hu1, hu2⟩ := hC.cell
      rw [hkl] at hu1 hu2
      obtain ⟨adu, lenu, capu, rfl, hlu, hluc, hcum, hownu, _, _⟩ := ownI_open hC.cur
      have hlq : lenu = q := by rw [← hlu, List.length_take, hcl]; omega
      rw [hlq] at hownu hluc hu1
      have HLQ := Lib.hid hlq
      have hyl : ((colZ xs k).take q).length = q := by rw [List.length_take, hcl]; omega
      have hg1 : (Value.slice adu q capu).ownBlock ≠ some w.heap.size := fun hm => by
        have h1 := hC.cur.2.1
        rw [hlq, hm] at h1
        exact (hC.new w.heap.size (by simp [h1])).2 rfl
      have hg2 : (Value.slice adu q capu).ownBlock ≠ some b3 := fun hm => by
        have h1 := hC.cur.2.1
        rw [hlq, hm] at h1
        have := (hC.new b3 (by simp [h1])).1
        omega
      have hws := hC.below.size
      have hws2 : w.heap.size < wr.heap.size := (hC.row.lt _ rfl).2
      have hfb : f = (Value.slice adu q capu).ownBlock.toList := by have := hC.cur.2.1; rwa [hlq] at this
      have hal : Below wr.heap.size wr ((wr.alloc (.cells #[.int .i64 z] 3)).drew) := ((Below.refl _ _).alloc (Nat.le_refl _) _).drew
      rw [hlq] at hC
      have HP := Lib.hid (fun (w1 : World) (gg capn : Nat) (hown1 : w1.ownsRow 0 3 1 (.slice (some ⟨gg, 0, none⟩) (q + 1) capn) (q + 1) (((colZ xs k).take q).map (Value.int .i64) ++ [.int .i64 z]))
          (hgrow : ((wr.alloc (.cells #[.int .i64 z] 3)).drew).grownBy w1 (Value.slice adu q capu).ownBlock) (hat : (Value.slice adu q capu).ownBlock = some gg ∨ gg = wr.heap.size + 1) =>
        hC.push hIz hal (by rw [hyl]; exact hown1) hgrow (fun b hb => by
          simp [Value.ownBlock] at hb
          subst hb
          rcases hat with hat | hat
          · left; rw [hfb, hat]; simp
          · right; rw [hat]; show ((wr.alloc _).drew).heap.size ≤ _; simp [World.drew]))
      have HCOL := Lib.hid hcol
      have HKL := Lib.hid hkl
      have HNU := Lib.hid hownu
      clear hz hy h6 hyn hcol hkl hC hlu hcl HC0 hcc0 hyl hfb hlq HLQ hal hownu
      go_wp2
      go_region_law (first | (refine step_append_lies _ (by rfl) _ _ _ (by rfl) 0 3 j0 _ 1 8 Tryz.underlying89 hj hy0 hy1 hy2 rfl (by omega) (.slice adu q capu) q _ (by rfl) ((HNU.out.alloc _).drew) ⟨wr.heap.size, 0, none⟩ 1 1 [.int .i64 z] (by rfl) (by rfl) (World.news_of_block (cs := #[.int .i64 z]) (t := 3) (fr := (0, 0)) (heap_alloc_new wr _)) (by simp [Value.oneCell']) (by omega) (by unfold maxLen; omega) (by omega) (by simp) (wr.heap.size + 1) (by simp) ?_; intro gg capn w1 hown1 hgrow hat hlt1; have hpp := HP.out w1 gg capn hown1 hgrow hat; rw [HKL.out] at hpp; obtain ⟨hp1, hp2, hp3, f', hP⟩ := hpp; have hp4 := cell_below hp3 hcz0; have HPP := Lib.hid hP; clear hP))
      all_goals
        go_wp2
        go_roundw
        case rel => exact ⟨q + 1, _, _, by omega, by go_num, by rw [take_snoc HCOL.out]; exact HPP.out⟩
        case measure => simp [intOf]; omega
end Go.Proofs.YtbcjhpgkodeoeaaGreatDoor

/- Jets: the path of jets; sums of jets; the reference's turning and adding. Conditions: lengths of a few. -/
namespace Go.Proofs.YtbcjhpgkodeoeaaGreatDoor
open Go.RowKit Go.Sort

set_option maxRecDepth 100000 in
set_option maxHeartbeats 1600000 in
theorem points_any (v : Value) (xs : List (List Int)) (n : Nat) (w : World) (h : RdII w v xs) (hn : n ≤ 7) (hx7 : xs.length ≤ 7) (hrow : ∀ y ∈ xs, y.length = n) :
    Calls Tryz.prog 58 #[v, .int .i64 n] w (Gives (fun w' v fp => OwnII 35 3 w' v (turnZ xs n) fp) w) := by
  obtain ⟨ad, len, cap, rfl, hl, hlc, hcm, h'⟩ := rdS_open h
  have HL := Lib.hid hl
  have HR := Lib.hid hrow
  rw [hl] at hx7
  clear h hl hrow
  obtain ⟨i0, hi, hz0, hz1, hz2⟩ := info_parts Tryz.info_ints
  have hib : i0.bytes * n ≤ 281474976710656 := by rw [hz2]; omega
  go_enter Tryz.func58, Tryz.ntmps58
  go_wp2_with (first
    | (at_make; refine wpList_make_full _ rfl _ _ 25 rfl 0 35 i0 (.slice none 0 0) 1 Tryz.underlying25 hi hz0 hz1 .i64 .i64 _ _ n rfl rfl rfl rfl hib (by unfold maxLen; omega) (Nat.zero_le _) ?_; intro w1 hown1 hgrow1))
  have hbl : Below w.heap.size w w1 := (Below.refl _ _).grown hgrow1 (Nat.le_refl _) (fun k hk => by cases hk)
  have hm0 : (madeCells (Value.slice none 0 0).cells (n * 1)).toList = List.replicate n (.slice none 0 0) := by
    rw [Nat.mul_one]; exact toList_madeCells_one _ _
  rw [hm0] at hown1
  have HD0 := Lib.hid (show ColsD 35 3 w.heap.size n n w w1 [] [] [] n from ⟨by simpa using hown1, by simp, by simp, rfl, by simp, by simp, hbl, Nat.le_refl _⟩)
  clear hm0 hgrow1 hi hz0 hz1 hz2 hib hown1 hbl
  obtain ⟨j0, hj, hy0, hy1, hy2⟩ := info_parts Tryz.info_int
  go_loopw [13] (fun i wr => ∃ (k : Nat) (us : List (List Value)) (fs : List Nat), k ≤ n ∧ i = .int .i64 k ∧ ColsD 35 3 w.heap.size n n w wr ((turnZ xs n).take k) us fs (n - k)) (fun i _ => n - (intOf i).toNat)
  case atStart => exact ⟨0, [], [], Nat.zero_le _, rfl, by simpa using HD0.out⟩
  case round =>
    obtain ⟨k, us, fs, hk, rfl, hD⟩ := hrel
    have htl : (turnZ xs n).length = n := by simp [turnZ]
    by_cases hlt : k < n
    case neg =>
      obtain rfl : k = n := by omega
      rw [Nat.sub_self, List.take_of_length_le (by omega)] at hD
      go_wp2
      go_ret
      exact ⟨_, _, rfl, hD.done.1, hD.done.2, hD.below⟩
    obtain ⟨r, hr⟩ : ∃ r, n - k = r + 1 := ⟨n - k - 1, by omega⟩
    rw [hr] at hD
    have HC0 := Lib.hid hD.open
    have HRR := Lib.hid hr
    have HTL := Lib.hid htl
    clear hD hr htl
    go_wp2
    go_loopw [18] (fun j wq => ∃ (q : Nat) (u : Value) (f : List Nat), q ≤ len ∧ j = .int .i64 q ∧ Cols 35 3 w.heap.size n n w wq ((turnZ xs n).take k) us fs u ((colZ xs k).take q) f r) (fun j _ => len - (intOf j).toNat)
    case atStart => exact ⟨0, _, [], Nat.zero_le _, rfl, by simpa using HC0.out⟩
    case round =>
      obtain ⟨q, u, f, hq, rfl, hC⟩ := hrel
      have hcl : (colZ xs k).length = len := by rw [colZ, List.length_map, HL.out]
      by_cases hql : q < len
      case neg =>
        obtain rfl : q = len := by omega
        rw [List.take_of_length_le (l := colZ xs k) (by omega)] at hC
        have HE := Lib.hid hC.close
        clear hC hcl HC0
        go_wp2
        go_roundw
        case rel =>
          have e1 : (turnZ xs n).take (k + 1) = (turnZ xs n).take k ++ [colZ xs k] := take_snoc (by simp [turnZ, hlt])
          have e2 : n - (k + 1) = r := by have := HRR.out; omega
          exact ⟨k + 1, _, _, by omega, by go_num, by rw [e1, e2]; exact HE.out⟩
        case measure => simp [intOf]; omega
      obtain ⟨b, off, ad2, len2, cap2, y, rfl, hy, hcc0, h6, h7, h8, h9, hbs⟩ := rdII_get h' hql
      have hyn : y.length = n := HR.out y (List.mem_of_getElem? hy)
      obtain ⟨b3, off3, z, rfl, hz, hcz0, hIz, hb3⟩ := rdI_get h9 (k := k) (by omega)
      have hcc := cell_below hC.below hcc0
      have hcz := cell_below hC.below hcz0
      have hcol : (colZ xs k)[q]? = some z := by simp [colZ, hy, hz]
      have hk2 : k < len2 := by omega
      have hkl : ((turnZ xs n).take k).length = k := by rw [List.length_take, HTL.out]; omega
      obtain ⟨hu1, hu2⟩ := hC.cell
      rw [hkl] at hu1 hu2
      obtain ⟨adu, lenu, capu, rfl, hlu, hluc, hcum, hownu, _, _⟩ := ownI_open hC.cur
      have hlq : lenu = q := by rw [← hlu, List.length_take, hcl]; omega
      rw [hlq] at hownu hluc hu1
      have HLQ := Lib.hid hlq
      have hyl : ((colZ xs k).take q).length = q := by rw [List.length_take, hcl]; omega
      have hg1 : (Value.slice adu q capu).ownBlock ≠ some w.heap.size := fun hm => by
        have h1 := hC.cur.2.1
        rw [hlq, hm] at h1
        exact (hC.new w.heap.size (by simp [h1])).2 rfl
      have hg2 : (Value.slice adu q capu).ownBlock ≠ some b3 := fun hm => by
        have h1 := hC.cur.2.1
        rw [hlq, hm] at h1
        have := (hC.new b3 (by simp [h1])).1
        omega
      have hws := hC.below.size
      have hws2 : w.heap.size < wr.heap.size := (hC.row.lt _ rfl).2
      have hfb : f = (Value.slice adu q capu).ownBlock.toList := by have := hC.cur.2.1; rwa [hlq] at this
      have hal : Below wr.heap.size wr ((wr.alloc (.cells #[.int .i64 z] 3)).drew) := ((Below.refl _ _).alloc (Nat.le_refl _) _).drew
      rw [hlq] at hC
      have HP := Lib.hid (fun (w1 : World) (gg capn : Nat) (hown1 : w1.ownsRow 0 3 1 (.slice (some ⟨gg, 0, none⟩) (q + 1) capn) (q + 1) (((colZ xs k).take q).map (Value.int .i64) ++ [.int .i64 z]))
          (hgrow : ((wr.alloc (.cells #[.int .i64 z] 3)).drew).grownBy w1 (Value.slice adu q capu).ownBlock) (hat : (Value.slice adu q capu).ownBlock = some gg ∨ gg = wr.heap.size + 1) =>
        hC.push hIz hal (by rw [hyl]; exact hown1) hgrow (fun b hb => by
          simp [Value.ownBlock] at hb
          subst hb
          rcases hat with hat | hat
          · left; rw [hfb, hat]; simp
          · right; rw [hat]; show ((wr.alloc _).drew).heap.size ≤ _; simp [World.drew]))
      have HCOL := Lib.hid hcol
      have HKL := Lib.hid hkl
      have HNU := Lib.hid hownu
      clear hz hy h6 hyn hcol hkl hC hlu hcl HC0 hcc0 hyl hfb hlq HLQ hal hownu
      go_wp2
      go_region_law (first | (refine step_append_lies _ (by rfl) _ _ _ (by rfl) 0 3 j0 _ 1 8 Tryz.underlying35 hj hy0 hy1 hy2 rfl (by omega) (.slice adu q capu) q _ (by rfl) ((HNU.out.alloc _).drew) ⟨wr.heap.size, 0, none⟩ 1 1 [.int .i64 z] (by rfl) (by rfl) (World.news_of_block (cs := #[.int .i64 z]) (t := 3) (fr := (0, 0)) (heap_alloc_new wr _)) (by simp [Value.oneCell']) (by omega) (by unfold maxLen; omega) (by omega) (by simp) (wr.heap.size + 1) (by simp) ?_; intro gg capn w1 hown1 hgrow hat hlt1; have hpp := HP.out w1 gg capn hown1 hgrow hat; rw [HKL.out] at hpp; obtain ⟨hp1, hp2, hp3, f', hP⟩ := hpp; have hp4 := cell_below hp3 hcz0; have HPP := Lib.hid hP; clear hP))
      all_goals
        go_wp2
        go_roundw
        case rel => exact ⟨q + 1, _, _, by omega, by go_num, by rw [take_snoc HCOL.out]; exact HPP.out⟩
        case measure => simp [intOf]; omega

def addJ (xs ys : List Int) (k : Int) : List Int := (List.range xs.length).map fun i => plusZ (atZ xs i) (timesZ (atZ ys i) k)
theorem addJ_len (xs ys : List Int) (k : Int) : (addJ xs ys k).length = xs.length := by simp [addJ]
theorem addJ_get {xs ys : List Int} {k : Int} {i : Nat} {x y : Int} (hx : xs[i]? = some x) (hy : ys[i]? = some y) : (addJ xs ys k)[i]? = some (plusZ x (timesZ y k)) := by
  have := (List.getElem?_eq_some_iff.1 hx).1
  simp [addJ, this, atZ_get hx, atZ_get hy]
theorem addJ_i64 (xs ys : List Int) (k : Int) : ∀ x ∈ addJ xs ys k, I64 x := by
  intro x hx
  simp only [addJ, List.mem_map] at hx
  obtain ⟨i, _, rfl⟩ := hx
  exact i64_of_bd (plusZ_bd _ _)

set_option maxRecDepth 100000 in
set_option maxHeartbeats 1600000 in
theorem plusJ_any (va vb : Value) (xs ys : List Int) (k0 : Int) (w : World) (ha : RdI w va xs) (hb : RdI w vb ys) (hl : xs.length ≤ ys.length) (hn : xs.length ≤ 1048576) :
    Calls Tryz.prog 68 #[va, vb, .int .i64 k0] w (Gives (fun w' v fp => OwnI 3 w' v (addJ xs ys k0) fp) w) := by
  obtain ⟨ad, len, cap, rfl, hl1, hlc, hcm, h'⟩ := rdS_open ha
  obtain ⟨ad2, len2, cap2, rfl, hl2, hlc2, hcm2, h2'⟩ := rdS_open hb
  rw [hl1] at hl hn
  rw [hl2] at hl
  have HL := Lib.hid hl1
  clear ha hb hl1 hl2
  obtain ⟨i0, hi, hz0, hz1, hz2⟩ := info_parts Tryz.info_int
  have hib : i0.bytes * len ≤ 281474976710656 := by rw [hz2]; omega
  go_enter Tryz.func68, Tryz.ntmps68
  go_wp2_with (first
    | (at_make; refine wpList_make_full _ rfl _ _ 89 rfl w.heap.size 3 i0 (.int .i64 0) 1 Tryz.underlying89 hi hz0 hz1 .i64 .i64 _ _ len rfl rfl rfl rfl hib (by unfold maxLen; omega) (Nat.le_refl _) ?_; intro w1 hown1 hgrow1))
  have hm0 : (madeCells (Value.int .i64 0).cells (len * 1)).toList = List.replicate len (.int .i64 0) := by
    rw [Nat.mul_one]; exact toList_madeCells_one _ _
  rw [hm0] at hown1
  have hbl : Below w.heap.size w w1 := (Below.refl _ _).grown hgrow1 (Nat.le_refl _) (fun k hk => by cases hk)
  clear hm0 hgrow1 hi hz0 hz1 hz2 hib
  go_loopw [14] (fun i wr => ∃ k : Nat, k ≤ len ∧ i = .int .i64 k ∧ wr.ownsRow w.heap.size 3 1 (.slice (some ⟨w.heap.size, 0, none⟩) len len) len (((addJ xs ys k0).take k).map (Value.int .i64) ++ List.replicate (len - k) (.int .i64 0)) ∧ Below w.heap.size w wr)
    (fun i _ => len - (intOf i).toNat)
  case atStart => exact ⟨0, Nat.zero_le _, rfl, by simpa using hown1, hbl⟩
  case round =>
    obtain ⟨k, hk, rfl, hown, hb⟩ := hrel
    clear hown1 hbl
    by_cases hlt : k < len
    · have h'r := rdI_mono hb h'
      have h2'r := rdI_mono hb h2'
      obtain ⟨b, off, x, rfl, hx, hc, hI, hbs⟩ := rdI_get h'r hlt
      obtain ⟨b2, off2, y, rfl, hy, hc2, hI2, hbs2⟩ := rdI_get h2'r (k := k) (by omega)
      have hk2 : k < len2 := by omega
      obtain ⟨⟨u, hcN⟩, hfz, hset⟩ := own_fill hown hb (addJ_get (k := k0) hx hy) (by rw [addJ_len, HL.out]) (Nat.le_refl _)
      have HS := Lib.hid hset
      clear hset hx hy hown
      go_wp2
      (refine wp_region_still_tail 14 (by kernel_rfl) (by kernel_rfl) ?_; simp only [List.take_succ_cons, List.take_zero, List.drop_succ_cons, List.drop_zero]; (repeat (first | still_step | still_call (still_of (times_any _ _ _)) | still_call (still_of (plus_any _ _ _)))); refine wpStill_nil ?_; change wpList _ _ _ _ _ (World.drew _))
      go_wp2
      go_roundw
      case rel => exact ⟨k + 1, by omega, by go_num, World.ownsRow.drew HS.out.1, HS.out.2.drew⟩
      case measure => simp [intOf]; omega
    · go_wp2
      go_ret
      exact ⟨_, [w.heap.size], rfl, own_i64 hown (by rw [addJ_len, HL.out]) (by omega) (addJ_i64 _ _ _), by simp, hb⟩

end Go.Proofs.YtbcjhpgkodeoeaaGreatDoor

/- The reference's turning of a path. Conditions: lengths of a few. -/
namespace Go.Proofs.YtbcjhpgkodeoeaaGreatDoor
open Go.RowKit Go.Sort

/-- A row is appended onto rows of the call's own. -/
theorem ownII_push {e1 e : Nat} {W wr wq w1 w2 : World} {v v' p : Value} {xs : List (List Int)} {ys : List Int} {f : List Nat} {us : List (List Value)} {fs : List Nat} {n : Nat}
    (hone : ∀ u ∈ us, u.length = 1) (hels : OwnEls (OElII e) wr us xs fs) (hnd : (v.ownBlock.toList ++ fs).Nodup) (hown0 : wr.ownsRow 0 e1 1 v xs.length us.flatten) (hn : xs.length = n)
    (hp : OwnI e wq p ys f) (hf : ∀ b ∈ f, wr.heap.size ≤ b) (hfp : ∀ b ∈ v.ownBlock.toList ++ fs, W.heap.size ≤ b) (hW : Below W.heap.size W wr) (hq : Below wr.heap.size wr wq)
    (h1 : Below wq.heap.size wq w1) (hown : w2.ownsRow 0 e1 1 v' (n + 1) (us.flatten ++ [p])) (hg : w1.grownBy w2 v.ownBlock) (hv : ∀ b, v'.ownBlock = some b → v.ownBlock = some b ∨ w1.heap.size ≤ b) :
    ∃ fp', OwnII e1 e w2 v' (xs ++ [ys]) fp' ∧ (∀ b ∈ fp', W.heap.size ≤ b) ∧ Below W.heap.size W w2 := by
  have hlt : ∀ b ∈ v.ownBlock.toList ++ fs, b < wr.heap.size := fun b hb => by
    simp only [List.mem_append, Option.mem_toList] at hb
    rcases hb with hb | hb
    · exact (hown0.lt b hb).2
    · exact ownEls_lt (fun _ _ _ h => oelII_lt h) hels b hb
  have hfn : f.Nodup := by rw [hp.2.1]; cases p.ownBlock <;> simp
  refine ownS_push (El := OElII e) (W := W) (w := wq) (w1 := w1) (f := f) (fs := fs) (fun w w' u x f g h ho hd => oelII_only h ho hd) hone (ownEls_only (fun u x f' h hd => oelII_only h (Only.of_below (fp := []) hq) hd) hels (by simp)) hnd ⟨p, rfl, hp⟩ rfl
    (fun b hb hm => by have := hf b hb; have := hlt b hm; omega) hfn (ownI_lt hp) (fun b hb => by have := hlt b (by simp [hb]); have := hq.size; omega) hn (fun b hb => ?_) (hW.trans (hq.mono hW.size)) h1 hown hg hv
  rw [List.mem_append] at hb
  rcases hb with hb | hb
  · exact hfp b hb
  · have := hf b hb
    have := hW.size
    omega

end Go.Proofs.YtbcjhpgkodeoeaaGreatDoor
