/- FormatField of the program. Conditions: none. -/
import Derived.Test.YtdaaamdighojdaaDoorJoin
import Derived.Test.YtdaaamdighojdaaDoorFine
import Derived.Deep.AppendLies
import Derived.Deep.RegionLaw
set_option linter.unusedSimpArgs false
set_option linter.unusedVariables false
namespace Go.Proofs.YtdaaamdighojdaaDoor
open Go.RowKit Go.Sort

/-- A power of a variable as a text. -/
def powL (i : Nat) (n : Int) : List UInt8 := if 0 < n then 42 :: UInt8.ofNat (97 + i) :: (if 1 < n then decL n.toNat else []) else []
def powsT : Nat → List Int → List UInt8
  | _, [] => []
  | i, n :: ps => powL i n ++ powsT (i + 1) ps
theorem powsT_snoc (n : Int) : ∀ (ps : List Int) (i : Nat), powsT i (ps ++ [n]) = powsT i ps ++ powL (i + ps.length) n
  | [], i => by simp [powsT]
  | m :: ps, i => by
    rw [List.cons_append, powsT, powsT, powsT_snoc n ps (i + 1), List.append_assoc, List.length_cons, show i + 1 + ps.length = i + (ps.length + 1) by omega]
theorem powL_len {i : Nat} {n : Int} (h : n ≤ 5) : (powL i n).length ≤ 3 := by
  unfold powL
  split
  · split
    · rw [decL_small (by omega)]; simp
    · simp
  · simp
theorem powsT_len : ∀ (ps : List Int) (i : Nat), (∀ n ∈ ps, n ≤ 5) → (powsT i ps).length ≤ 3 * ps.length
  | [], i, _ => by simp [powsT]
  | n :: ps, i, h => by
    have h1 := powL_len (i := i) (h n (by simp))
    have h2 := powsT_len ps (i + 1) (fun m hm => h m (by simp [hm]))
    rw [powsT, List.length_append, List.length_cons]
    omega
theorem fracL_len {a b : Int} (ha : -2000000000 < a) (ha2 : a < 2000000000) (hb : -2000000000 < b) (hb2 : b < 2000000000) : (fracL a b).length ≤ 23 := by
  have h1 := decZ_len ha ha2
  have h2 := decZ_len hb hb2
  unfold fracL
  split
  · omega
  · simp; omega
theorem fmtGo_len {n : Int} (h0 : 0 ≤ n) (h1 : n < 1000000271) : ∀ (k : Nat) (b : Int), 0 ≤ b → b + k ≤ 100000 → (fmtGo n k b).length ≤ 23
  | 0, b, _, _ => by
    have := decZ_len (z := n) (by omega) (by omega)
    rw [fmtGo]; simp; omega
  | k + 1, b, hb, hk => by
    have hb1 : 0 ≤ n * b % 1000000271 ∧ n * b % 1000000271 < 1000000271 := by omega
    rw [fmtGo]
    split
    · exact fracL_len (by omega) (by omega) (by omega) (by omega)
    · split
      · exact fracL_len (by omega) (by omega) (by omega) (by omega)
      · exact fmtGo_len h0 h1 k (b + 1) (by omega) (by omega)
theorem fmtT_len (n : Int) : (fmtT n).length ≤ 23 := by
  unfold fmtT
  split
  · rename_i h
    simp only [isNumB, decide_eq_true_eq] at h
    exact fmtGo_len h.1 h.2 9999 1 (by omega) (by omega)
  · simp
def monT (m : MonZ) : List UInt8 := fmtT m.coef ++ powsT 0 m.pows
def polyT (p : List MonZ) : List UInt8 := if p = [] then [48] else Lib.join (p.map monT) [32, 43, 32]
def fldT (f : FldZ) : List UInt8 := if fldOkB f = true then Lib.join (f.parts.map polyT) [59, 32] else []

theorem Tryd.info_str : (Tryd.prog.info? 9).map (fun i => (i.zero, i.size, i.bytes)) = some (some (.string ⟨#[]⟩), 1, 16) := by kernel_rfl
/-- A row of texts of the call's own. -/
structure RowT (w wr : World) (v : Value) (xs : List (List UInt8)) (n : Nat) : Prop where
  len : xs.length = n
  shape : ∃ g cap, v = .slice (some ⟨g, 0, none⟩) n cap ∧ w.heap.size ≤ g
  row : wr.ownsRow 0 9 1 v n (xs.map txt)
  below : Below w.heap.size w wr
theorem RowT.new (w : World) : RowT w (w.alloc (.cells #[] 9)) (.slice (some ⟨w.heap.size, 0, none⟩) 0 0) [] 0 :=
  ⟨rfl, ⟨_, _, rfl, Nat.le_refl _⟩, by simpa using World.ownsRow_lit (base := 0) (e := 9) (size := 1) w #[] 0 (Nat.zero_le _) (Nat.zero_le _) rfl, (Below.refl _ _).alloc (Nat.le_refl _) _⟩
theorem RowT.step {w wr wq : World} {v : Value} {xs : List (List UInt8)} {n : Nat} (h : RowT w wr v xs n) (hb : Below wr.heap.size wr wq) : RowT w wq v xs n :=
  ⟨h.len, h.shape, ownsRow_only h.row (Only.of_below (fp := []) hb) (by simp), h.below.trans (hb.mono h.below.size)⟩
theorem RowT.push {w wr wa wb : World} {xs : List (List UInt8)} {n g g2 cap capn : Nat} {y : List UInt8} (h : RowT w wr (.slice (some ⟨g, 0, none⟩) n cap) xs n) (hb : Below wr.heap.size wr wa)
    (hown : wb.ownsRow 0 9 1 (.slice (some ⟨g2, 0, none⟩) (n + 1) capn) (n + 1) (xs.map txt ++ [txt y])) (hgrow : wa.grownBy wb (some g)) (hat : g = g2 ∨ wr.heap.size ≤ g2) :
    RowT w wb (.slice (some ⟨g2, 0, none⟩) (n + 1) capn) (xs ++ [y]) (n + 1) := by
  obtain ⟨g', cap', hv, hg⟩ := h.shape
  simp only [Value.slice.injEq, Option.some.injEq, Addr.mk.injEq, and_true, true_and] at hv
  obtain ⟨rfl, rfl⟩ := hv
  have hbs := h.below.size
  have hs := hb.size
  refine ⟨by rw [List.length_append, h.len]; rfl, ⟨g2, capn, rfl, ?_⟩, by simpa using hown, (h.below.trans (hb.mono hbs)).grown hgrow (by omega) (fun b hb' => by simp at hb'; omega)⟩
  rcases hat with rfl | hat
  · exact hg
  · omega
theorem sum_le_mul {xs : List (List UInt8)} {k : Nat} (h : ∀ x ∈ xs, x.length ≤ k) : (xs.map List.length).sum ≤ xs.length * k := by
  induction xs with
  | nil => simp
  | cons x xs ih =>
    have h1 := h x (by simp)
    have h2 := ih (fun y hy => h y (by simp [hy]))
    simp only [List.map_cons, List.sum_cons, List.length_cons, Nat.succ_mul]
    omega
theorem joinTail_len {xs : List (List UInt8)} {sep : List UInt8} {k : Nat} (h : ∀ x ∈ xs, x.length ≤ k) : (Lib.joinTail sep xs).length ≤ xs.length * (k + sep.length) := by
  unfold Lib.joinTail
  induction xs with
  | nil => simp
  | cons x xs ih =>
    have h1 := h x (by simp)
    have h2 := ih (fun y hy => h y (by simp [hy]))
    simp only [List.map_cons, List.flatten_cons, List.length_append, List.length_cons, Nat.succ_mul]
    omega
theorem join_len {xs : List (List UInt8)} {sep : List UInt8} {k : Nat} (h : ∀ x ∈ xs, x.length ≤ k) : (Lib.join xs sep).length ≤ xs.length * (k + sep.length) := by
  cases xs with
  | nil => simp [Lib.join_nil]
  | cons x xs =>
    have h1 := h x (by simp)
    have h2 := joinTail_len (xs := xs) (sep := sep) (fun y hy => h y (by simp [hy]))
    rw [Lib.join_cons, List.length_append, List.length_cons, Nat.succ_mul]
    omega
/-- Joining a row of texts. -/
theorem joinRow_any {w wr : World} {g n cap : Nat} {xs : List (List UInt8)} (h : RowT w wr (.slice (some ⟨g, 0, none⟩) n cap) xs n) (sep : List UInt8) (hn : n ≤ 1000) (hl : (Lib.join xs sep).length ≤ 1000000) :
    Calls Tryd.prog 31 #[.slice (some ⟨g, 0, none⟩) n cap, .string ⟨sep.toArray⟩] wr fun e w' => e = .returned (txt (Lib.join xs sep)) ∧ Below wr.heap.size wr w' := by
  have hm : (xs.map fun x => ByteArray.mk x.toArray).map (·.data.toList) = xs := by
    rw [List.map_map]
    simp [Function.comp_def]
  have hlen := h.len
  obtain ⟨ad', cap', hv, hnc, hcm, _⟩ := row_open h.row
  injection hv with e1 e2 e3
  subst e1 e3
  have hj := join_at g 0 cap (xs.map fun x => ByteArray.mk x.toArray) ⟨sep.toArray⟩ wr (fun j x hx => by
    obtain ⟨y, hy, rfl⟩ : ∃ y, xs[j]? = some y ∧ ByteArray.mk y.toArray = x := by
      rw [List.getElem?_map] at hx
      cases hxj : xs[j]? with
      | none => rw [hxj] at hx; simp at hx
      | some y => rw [hxj] at hx; exact ⟨y, rfl, by simpa using hx⟩
    have hj := (List.getElem?_eq_some_iff.1 hy).1
    rw [Nat.zero_add, h.row.cellAt j (by omega), List.getElem?_map, hy]
    rfl) ((h.row.lt g (by simp [Value.ownBlock])).2) (by rw [List.length_map]; omega) (by rw [List.length_map]; omega) (by rw [hm]; simpa using (by omega : (Lib.join xs sep).length ≤ 140737488355328))
  rw [hm, List.length_map, hlen] at hj
  exact hj
end Go.Proofs.YtdaaamdighojdaaDoor
