/- Jets: the program's polynomials in h. Conditions: none. -/
import Derived.Deep.AppendLies
import Derived.Deep.RegionLaw
import Derived.Test.YtbcjhpgkodeoeaaG12
set_option linter.unusedSimpArgs false
set_option linter.unusedVariables false

namespace Go.Proofs.Ytbcjhpgkodeoeaa
open Go.RowKit Go.Sort

theorem Try.info_jet : (Try.prog.info? 68).map (fun i => (i.zero, i.size, i.bytes)) = some (some (.slice none 0 0), 1, 24) := by kernel_rfl

/-- The column i of rows. -/
def colZ (xs : List (List Int)) (i : Nat) : List Int := xs.map fun y => y[i]?.getD 0
def turnZ (xs : List (List Int)) (n : Nat) : List (List Int) := (List.range n).map (colZ xs)

/-- Columns are made one behind the other, each by appending. -/
structure Cols (e1 e : Nat) (g n cap : Nat) (W w : World) (xs : List (List Int)) (us : List (List Value)) (fs : List Nat) (v : Value) (ys : List Int) (f : List Nat) (r : Nat) : Prop where
  row : w.ownsRow 0 e1 1 (.slice (some ⟨g, 0, none⟩) n cap) n (us.flatten ++ v :: List.replicate r (.slice none 0 0))
  len : xs.length + 1 + r = n
  one : ∀ u ∈ us, u.length = 1
  els : OwnEls (OElII e) w us xs fs
  cur : OwnI e w v ys f
  new : ∀ b ∈ fs ++ f, W.heap.size ≤ b ∧ b ≠ g
  nodup : (fs ++ f).Nodup
  below : Below W.heap.size W w
  head : W.heap.size ≤ g

structure ColsD (e1 e : Nat) (g n cap : Nat) (W w : World) (xs : List (List Int)) (us : List (List Value)) (fs : List Nat) (r : Nat) : Prop where
  row : w.ownsRow 0 e1 1 (.slice (some ⟨g, 0, none⟩) n cap) n (us.flatten ++ List.replicate r (.slice none 0 0))
  len : xs.length + r = n
  one : ∀ u ∈ us, u.length = 1
  els : OwnEls (OElII e) w us xs fs
  new : ∀ b ∈ fs, W.heap.size ≤ b ∧ b ≠ g
  nodup : fs.Nodup
  below : Below W.heap.size W w
  head : W.heap.size ≤ g

section
variable {e1 e g n cap : Nat} {W w : World} {xs : List (List Int)} {us : List (List Value)} {fs : List Nat}
theorem ColsD.open {r : Nat} (h : ColsD e1 e g n cap W w xs us fs (r + 1)) : Cols e1 e g n cap W w xs us fs (.slice none 0 0) [] [] r :=
  ⟨by simpa [List.replicate_succ] using h.row, by have := h.len; omega, h.one, h.els, ⟨World.ownsRow_nil _ _ _ _, rfl, by simp⟩, by simpa using h.new, by simpa using h.nodup, h.below, h.head⟩
theorem Cols.close {v : Value} {ys : List Int} {f : List Nat} {r : Nat} (h : Cols e1 e g n cap W w xs us fs v ys f r) : ColsD e1 e g n cap W w (xs ++ [ys]) (us ++ [[v]]) (fs ++ f) r :=
  ⟨by simpa using h.row, by have := h.len; simp; omega, by
    intro u hu
    simp at hu
    rcases hu with hu | rfl
    · exact h.one u hu
    · rfl, ownEls_snoc h.els ⟨v, rfl, h.cur⟩, h.new, h.nodup, h.below, h.head⟩
theorem ColsD.done (h : ColsD e1 e g n cap W w xs us fs 0) : OwnII e1 e w (.slice (some ⟨g, 0, none⟩) n cap) xs (g :: fs) ∧ (∀ b ∈ g :: fs, W.heap.size ≤ b) := by
  have hl := h.len
  simp at hl
  subst hl
  refine ⟨⟨us, fs, by simpa using h.row, h.one, h.els, rfl, ?_⟩, ?_⟩
  · rw [List.nodup_cons]
    exact ⟨fun hm => (h.new g hm).2 rfl, h.nodup⟩
  · intro b hb
    simp at hb
    rcases hb with rfl | hb
    · exact h.head
    · exact (h.new b hb).1
theorem cols_flat {v : Value} {ys : List Int} {f : List Nat} {r : Nat} (h : Cols e1 e g n cap W w xs us fs v ys f r) : us.flatten.length = xs.length := by
  have := flat_len h.one (ownEls_length h.els)
  omega
theorem Cols.cell {v : Value} {ys : List Int} {f : List Nat} {r : Nat} (h : Cols e1 e g n cap W w xs us fs v ys f r) : w.cell? ⟨g, xs.length, none⟩ = some v ∧ w.frozen? ⟨g, xs.length, none⟩ = false := by
  obtain ⟨h1, h2, _⟩ := own_put h.row (k := xs.length) (cols_flat h) v
  exact ⟨h1, h2⟩

/-- Behind a new block (the appended element), the append, and the store of the new slice. -/
theorem Cols.push {v : Value} {ys : List Int} {f : List Nat} {r : Nat} (h : Cols e1 e g n cap W w xs us fs v ys f r) {w1 w2 : World} {v' : Value} {y : Int} (hy : I64 y)
    (h1 : Below w.heap.size w w1) (hown : w2.ownsRow 0 e 1 v' (ys.length + 1) (ys.map (Value.int .i64) ++ [.int .i64 y])) (hg : w1.grownBy w2 v.ownBlock) (hv : ∀ b, v'.ownBlock = some b → b ∈ f ∨ w1.heap.size ≤ b) :
    w2.cell? ⟨g, xs.length, none⟩ = some v ∧ w2.frozen? ⟨g, xs.length, none⟩ = false ∧ Below W.heap.size W w2 ∧ ∃ f', Cols e1 e g n cap W (w2.setCell ⟨g, xs.length, none⟩ v') xs us fs v' (ys ++ [y]) f' r := by
  have hf : f = v.ownBlock.toList := h.cur.2.1
  have hgs : g < w.heap.size := (h.row.lt _ rfl).2
  have hO1 : Only f w w1 := Only.of_below h1
  have hO2 : Only f w1 w2 := ⟨hg.os, hg.tape, hg.output, hg.size, fun k hk hn => hg.block k hk (fun e => hn (by rw [hf, ← e]; simp))⟩
  have hO := hO1.trans hO2
  have hgf : g ∉ f := fun hm => (h.new g (by simp [hm])).2 rfl
  have hrow := ownsRow_only h.row hO (fun b hb => by simp [Value.ownBlock] at hb; subst hb; exact hgf)
  obtain ⟨q1, q2, q3⟩ := own_put hrow (k := xs.length) (cols_flat h) v'
  have hSt : Only [g] w2 (w2.setCell ⟨g, xs.length, none⟩ v') := (Only.refl _ _).setCell (by simp) _
  have hnd := h.nodup
  rw [List.nodup_append] at hnd
  have hbW2 : Below W.heap.size W w2 := h.below.trans (hO.below h.below.size (fun b hb => (h.new b (by simp [hb])).1))
  refine ⟨q1, q2, hbW2, v'.ownBlock.toList, by simpa using q3, h.len, h.one, ?_, ?_, ?_, ?_, ?_, h.head⟩
  · exact ownEls_only (fun u x f1 h1 hd => oelII_only h1 ((hO.mono (fp' := f ++ [g]) (fun b hb => by simp [hb])).trans (hSt.mono (fun b hb => by simp at hb; simp [hb]))) hd) h.els
      (fun b hb hm => by
        have hm' : b ∈ f ++ [g] := hm
        simp at hm'
        rcases hm' with hm' | hm'
        · exact hnd.2.2 b hb b hm' rfl
        · exact (h.new b (by simp [hb])).2 hm')
  · refine ⟨?_, rfl, ?_⟩
    · have : w2.ownsRow 0 e 1 v' (ys ++ [y]).length ((ys ++ [y]).map (Value.int .i64)) := by simpa using hown
      refine ownsRow_only this hSt (fun b hb hm => ?_)
      simp at hm
      subst hm
      rcases hv b hb with hv | hv
      · exact hgf hv
      · have := h1.size; omega
    · intro x hx
      simp at hx
      rcases hx with hx | rfl
      · exact h.cur.2.2 x hx
      · exact hy
  · intro b hb
    simp at hb
    rcases hb with hb | hb
    · exact h.new b (by simp [hb])
    · rcases hv b hb with hv | hv
      · exact h.new b (by simp [hv])
      · have := h1.size
        have := h.below.size
        exact ⟨by omega, by omega⟩
  · rw [List.nodup_append]
    refine ⟨hnd.1, by cases v'.ownBlock <;> simp, fun a ha b hb e => ?_⟩
    subst e
    simp at hb
    rcases hv a hb with hv | hv
    · exact hnd.2.2 a ha a hv rfl
    · have := ownEls_lt (fun _ _ _ h => oelII_lt h) h.els a ha
      have := h1.size
      omega
  · refine hbW2.trans (hSt.below ?_ (fun b hb => by simp at hb; subst hb; exact h.head))
    have := hO.size
    have := h.below.size
    omega
end

set_option maxRecDepth 100000 in
set_option maxHeartbeats 1600000 in
theorem jets_any (v : Value) (xs : List (List Int)) (n : Nat) (w : World) (h : RdII w v xs) (hn : n ≤ 2097152) (hx7 : xs.length ≤ 7) (hrow : ∀ y ∈ xs, y.length = n) :
    Calls Try.prog 19 #[v, .int .i64 n] w (Gives (fun w' v fp => OwnII 68 3 w' v (turnZ xs n) fp) w) := by
  obtain ⟨ad, len, cap, rfl, hl, hlc, hcm, h'⟩ := rdS_open h
  have HL := Lib.hid hl
  have HR := Lib.hid hrow
  rw [hl] at hx7
  clear h hl hrow
  obtain ⟨i0, hi, hz0, hz1, hz2⟩ := info_parts Try.info_jet
  have hib : i0.bytes * n ≤ 281474976710656 := by rw [hz2]; omega
  go_enter Try.func19, Try.ntmps19
  go_wp2_with (first
    | (at_make; refine wpList_make_full _ rfl _ _ 47 rfl 0 68 i0 (.slice none 0 0) 1 Try.underlying47 hi hz0 hz1 .i64 .i64 _ _ n rfl rfl rfl rfl hib (by unfold maxLen; omega) (Nat.zero_le _) ?_; intro w1 hown1 hgrow1))
  have hbl : Below w.heap.size w w1 := (Below.refl _ _).grown hgrow1 (Nat.le_refl _) (fun k hk => by cases hk)
  have hm0 : (madeCells (Value.slice none 0 0).cells (n * 1)).toList = List.replicate n (.slice none 0 0) := by
    rw [Nat.mul_one]; exact toList_madeCells_one _ _
  rw [hm0] at hown1
  have HD0 := Lib.hid (show ColsD 68 3 w.heap.size n n w w1 [] [] [] n from ⟨by simpa using hown1, by simp, by simp, rfl, by simp, by simp, hbl, Nat.le_refl _⟩)
  clear hm0 hgrow1 hi hz0 hz1 hz2 hib hown1 hbl
  obtain ⟨j0, hj, hy0, hy1, hy2⟩ := info_parts Try.info_int
  go_loopw [13] (fun i wr => ∃ (k : Nat) (us : List (List Value)) (fs : List Nat), k ≤ n ∧ i = .int .i64 k ∧ ColsD 68 3 w.heap.size n n w wr ((turnZ xs n).take k) us fs (n - k)) (fun i _ => n - (intOf i).toNat)
  case atStart => exact ⟨0, [], [], Nat.zero_le _, rfl, by simpa using HD0.out⟩
  case round =>
    obtain ⟨k, us, fs, hk, rfl, hD⟩ := hrel
    have htl : (turnZ xs n).length = n := by simp [turnZ]
    by_cases hlt : k < n
    case neg =>
      obtain rfl : k = n := by omega
      rw [Nat.sub_self, List.take_of_length_le (by omega)] at hD
      go_wp2
      go_ret
      exact ⟨_, _, rfl, hD.done.1, hD.done.2, hD.below⟩
    obtain ⟨r, hr⟩ : ∃ r, n - k = r + 1 := ⟨n - k - 1, by omega⟩
    rw [hr] at hD
    have HC0 := Lib.hid hD.open
    have HRR := Lib.hid hr
    have HTL := Lib.hid htl
    clear hD hr htl
    go_wp2
    go_loopw [18] (fun j wq => ∃ (q : Nat) (u : Value) (f : List Nat), q ≤ len ∧ j = .int .i64 q ∧ Cols 68 3 w.heap.size n n w wq ((turnZ xs n).take k) us fs u ((colZ xs k).take q) f r) (fun j _ => len - (intOf j).toNat)
    case atStart => exact ⟨0, _, [], Nat.zero_le _, rfl, by simpa using HC0.out⟩
    case round =>
      obtain ⟨q, u, f, hq, rfl, hC⟩ := hrel
      have hcl : (colZ xs k).length = len := by rw [colZ, List.length_map, HL.out]
      by_cases hql : q < len
      case neg =>
        obtain rfl : q = len := by omega
        rw [List.take_of_length_le (l := colZ xs k) (by omega)] at hC
        have HE := Lib.hid hC.close
        clear hC hcl HC0
        go_wp2
        go_roundw
        case rel =>
          have e1 : (turnZ xs n).take (k + 1) = (turnZ xs n).take k ++ [colZ xs k] := take_snoc (by simp [turnZ, hlt])
          have e2 : n - (k + 1) = r := by have := HRR.out; omega
          exact ⟨k + 1, _, _, by omega, by go_num, by rw [e1, e2]; exact HE.out⟩
        case measure => simp [intOf]; omega
      obtain ⟨b, off, ad2, len2, cap2, y, rfl, hy, hcc0, h6, h7, h8, h9, hbs⟩ := rdII_get h' hql
      have hyn : y.length = n := HR.out y (List.mem_of_getElem? hy)
      obtain ⟨b3, off3, z, rfl, hz, hcz0, hIz, hb3⟩ := rdI_get h9 (k := k) (by omega)
      have hcc := cell_below hC.below hcc0
      have hcz := cell_below hC.below hcz0
      have hcol : (colZ xs k)[q]? = some z := by simp [colZ, hy, hz]
      have hk2 : k < len2 := by omega
      have hkl : ((turnZ xs n).take k).length = k := by rw [List.length_take, HTL.out]; omega
      obtain ⟨hu1, hu2⟩ := hC.cell
      rw [hkl] at hu1 hu2
      obtain ⟨adu, lenu, capu, rfl, hlu, hluc, hcum, hownu, _, _⟩ := ownI_open hC.cur
      have hlq : lenu = q := by rw [← hlu, List.length_take, hcl]; omega
      rw [hlq] at hownu hluc hu1
      have HLQ := Lib.hid hlq
      have hyl : ((colZ xs k).take q).length = q := by rw [List.length_take, hcl]; omega
      have hg1 : (Value.slice adu q capu).ownBlock ≠ some w.heap.size := fun hm => by
        have h1 := hC.cur.2.1
        rw [hlq, hm] at h1
        exact (hC.new w.heap.size (by simp [h1])).2 rfl
      have hg2 : (Value.slice adu q capu).ownBlock ≠ some b3 := fun hm => by
        have h1 := hC.cur.2.1
        rw [hlq, hm] at h1
        have := (hC.new b3 (by simp [h1])).1
        omega
      have hws := hC.below.size
      have hws2 : w.heap.size < wr.heap.size := (hC.row.lt _ rfl).2
      have hfb : f = (Value.slice adu q capu).ownBlock.toList := by have := hC.cur.2.1; rwa [hlq] at this
      have hal : Below wr.heap.size wr ((wr.alloc (.cells #[.int .i64 z] 3)).drew) := ((Below.refl _ _).alloc (Nat.le_refl _) _).drew
      rw [hlq] at hC
      have HP := Lib.hid (fun (w1 : World) (gg capn : Nat) (hown1 : w1.ownsRow 0 3 1 (.slice (some ⟨gg, 0, none⟩) (q + 1) capn) (q + 1) (((colZ xs k).take q).map (Value.int .i64) ++ [.int .i64 z]))
          (hgrow : ((wr.alloc (.cells #[.int .i64 z] 3)).drew).grownBy w1 (Value.slice adu q capu).ownBlock) (hat : (Value.slice adu q capu).ownBlock = some gg ∨ gg = wr.heap.size + 1) =>
        hC.push hIz hal (by rw [hyl]; exact hown1) hgrow (fun b hb => by
          simp [Value.ownBlock] at hb
          subst hb
          rcases hat with hat | hat
          · left; rw [hfb, hat]; simp
          · right; rw [hat]; show ((wr.alloc _).drew).heap.size ≤ _; simp [World.drew]))
      have HCOL := Lib.hid hcol
      have HKL := Lib.hid hkl
      have HNU := Lib.hid hownu
      clear hz hy h6 hyn hcol hkl hC hlu hcl HC0 hcc0 hyl hfb hlq HLQ hal hownu
      go_wp2
      go_region_law (first | (refine step_append_lies _ (by rfl) _ _ _ (by rfl) 0 3 j0 _ 1 8 Try.underlying68 hj hy0 hy1 hy2 rfl (by omega) (.slice adu q capu) q _ (by rfl) ((HNU.out.alloc _).drew) ⟨wr.heap.size, 0, none⟩ 1 1 [.int .i64 z] (by rfl) (by rfl) (World.news_of_block (cs := #[.int .i64 z]) (t := 3) (fr := (0, 0)) (heap_alloc_new wr _)) (by simp [Value.oneCell']) (by omega) (by unfold maxLen; omega) (by omega) (by simp) (wr.heap.size + 1) (by simp) ?_; intro gg capn w1 hown1 hgrow hat hlt1; have hpp := HP.out w1 gg capn hown1 hgrow hat; rw [HKL.out] at hpp; obtain ⟨hp1, hp2, hp3, f', hP⟩ := hpp; have hp4 := cell_below hp3 hcz0; have HPP := Lib.hid hP; clear hP))
      all_goals
        go_wp2
        go_roundw
        case rel => exact ⟨q + 1, _, _, by omega, by go_num, by rw [take_snoc HCOL.out]; exact HPP.out⟩
        case measure => simp [intOf]; omega
end Go.Proofs.Ytbcjhpgkodeoeaa
