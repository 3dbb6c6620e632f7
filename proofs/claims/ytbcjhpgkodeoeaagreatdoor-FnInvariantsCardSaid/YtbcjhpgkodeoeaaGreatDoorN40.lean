/- The program's step along a path, by rounds. Conditions: valid tableaus and fields, numbers. -/
import Derived.Test.YtbcjhpgkodeoeaaGreatDoorN39
import Derived.Test.YtbcjhpgkodeoeaaGreatDoorN30
import Derived.Test.YtbcjhpgkodeoeaaGreatDoorN18
set_option linter.unusedSimpArgs false
set_option linter.unusedVariables false

namespace Go.Proofs.YtbcjhpgkodeoeaaGreatDoor
open Go.RowKit Go.Sort

def zJ (size : Nat) : List Int := List.replicate size 0
def zRow (n size : Nat) : List (List Int) := List.replicate n (zJ size)
def zAll (st n size : Nat) : List (List (List Int)) := List.replicate st (zRow n size)
theorem zAll_ok (st n size : Nat) : VOk st n size (zAll st n size) := by
  refine ⟨by simp [zAll], fun a ha => ?_⟩
  rw [zAll, List.mem_replicate] at ha
  rw [ha.2]
  refine ⟨by simp [zRow], fun x hx => ?_⟩
  rw [zRow, List.mem_replicate] at hx
  rw [hx.2]
  exact ⟨by simp [zJ], fun y hy => by rw [zJ, List.mem_replicate] at hy; rw [hy.2]; omega⟩

/-- The values' rows are made one by one: 'done' of them are, the others are nil. -/
structure Made (W w : World) (g st n size e1 : Nat) (done : List Value) : Prop where
  row : w.ownsRow 0 e1 1 (.slice (some ⟨g, 0, none⟩) st st) st (done ++ List.replicate (st - done.length) (.slice none 0 0))
  len : done.length ≤ st
  all : ∀ u ∈ done, Apart RdII g w u (zRow n size)
  only : Only [g] W w
/-- .. and one row is under way, j jets in it. -/
structure Making (W w0 w : World) (g st n size e1 e2 e : Nat) (done : List Value) (u : Value) (j : Nat) (fs : List Nat) : Prop where
  row : w.ownsRow 0 e1 1 (.slice (some ⟨g, 0, none⟩) st st) st (done ++ u :: List.replicate (st - done.length - 1) (.slice none 0 0))
  lt : done.length < st
  all : ∀ u ∈ done, Apart RdII g w0 u (zRow n size)
  base : Only [g] W w0
  only : Only [g] w0 w
  own : OwnII e2 e w u (List.replicate j (zJ size)) fs
  new : ∀ b ∈ fs, w0.heap.size ≤ b
  hg : g < w0.heap.size
theorem Made.begin {W w : World} {g st n size e1 : Nat} (e2 e : Nat) {done : List Value} (h : Made W w g st n size e1 done) (hl : done.length < st) : Making W w w g st n size e1 e2 e done (.slice none 0 0) 0 [] := by
  refine ⟨?_, hl, h.all, h.only, Only.refl _ _, ⟨[], [], World.ownsRow_nil _ _ _ _, by simp, rfl, rfl, by simp⟩, by simp, (h.row.lt _ rfl).2⟩
  have h1 := h.row
  rwa [show st - done.length = (st - done.length - 1) + 1 by omega, List.replicate_succ] at h1
theorem Making.done {W w0 w : World} {g st n size e1 e2 e : Nat} {done : List Value} {u : Value} {fs : List Nat} (h : Making W w0 w g st n size e1 e2 e done u n fs) : Made W w g st n size e1 (done ++ [u]) := by
  have hl := h.lt
  refine ⟨?_, by simp; omega, fun v hv => ?_, h.base.trans h.only⟩
  · have h1 := h.row
    rw [show st - (done ++ [u]).length = st - done.length - 1 by simp; omega]
    simpa using h1
  · simp at hv
    rcases hv with hv | rfl
    · exact (h.all v hv).step h.only
    · exact apart_II h.own (fun hm => by have := h.new g hm; have := h.hg; omega)
theorem Making.push {W w0 w wm w1 w2 : World} {g st n size e1 e2 e j : Nat} {done : List Value} {u v' p : Value} {us : List (List Value)} {fs f : List Nat} (h : Making W w0 w g st n size e1 e2 e done u j (u.ownBlock.toList ++ fs))
    (hone : ∀ u ∈ us, u.length = 1) (hels : OwnEls (OElII e) w us (List.replicate j (zJ size)) fs) (hnd : (u.ownBlock.toList ++ fs).Nodup) (hown0 : w.ownsRow 0 e2 1 u (List.replicate j (zJ size)).length us.flatten)
    (hp : OwnI e wm p (zJ size) f) (hf : ∀ b ∈ f, w.heap.size ≤ b) (hq : Below w.heap.size w wm) (h1 : Below wm.heap.size wm w1) (hown : w2.ownsRow 0 e2 1 v' (j + 1) (us.flatten ++ [p])) (hg : w1.grownBy w2 u.ownBlock)
    (hv : ∀ b, v'.ownBlock = some b → u.ownBlock = some b ∨ w1.heap.size ≤ b) :
    w2.cell? ⟨g, done.length, none⟩ = some u ∧ w2.frozen? ⟨g, done.length, none⟩ = false ∧ ∃ fs', Making W w0 (w2.setCell ⟨g, done.length, none⟩ v') g st n size e1 e2 e done v' (j + 1) fs' := by
  have hlt : ∀ b ∈ u.ownBlock.toList ++ fs, b < w.heap.size := fun b hb => by
    simp only [List.mem_append, Option.mem_toList] at hb
    rcases hb with hb | hb
    · exact (hown0.lt b hb).2
    · exact ownEls_lt (fun _ _ _ h => oelII_lt h) hels b hb
  have hs0 := h.only.size
  have hq1 := hq.size
  have h11 := h1.size
  have hgl := h.hg
  obtain ⟨fp', hP, hfp, hO⟩ := ownS_push2 (El := OElII e) (w := wm) (w1 := w1) (f := f) (fs := fs) (fun w w' u x f g h ho hd => oelII_only h ho hd) hone (ownEls_only (fun u x f' h hd => oelII_only h (Only.of_below (fp := []) hq) hd) hels (by simp)) hnd ⟨p, rfl, hp⟩ rfl
    (fun b hb hm => by have := hf b hb; have := hlt b hm; omega) (ownI_nodup hp) (ownI_lt hp) (fun b hb => by have := hlt b (by simp [hb]); omega) (List.length_replicate) h1 hown hg hv
  have hfn : ∀ b ∈ fp', w0.heap.size ≤ b := fun b hb => by
    rcases hfp b hb with h2 | h2 | h2
    · exact h.new b h2
    · have := hf b h2; omega
    · omega
  have hub : ∀ b ∈ u.ownBlock.toList, w0.heap.size ≤ b := fun b hb => h.new b (by simp only [List.mem_append]; left; exact hb)
  have hgu : g ∉ u.ownBlock.toList := fun hm => by have := hub g hm; omega
  have hOw : Only u.ownBlock.toList w w2 := (Only.of_below hq).trans hO
  have hrow := ownsRow_only h.row hOw (fun b hb => by simp [Value.ownBlock] at hb; subst hb; exact hgu)
  obtain ⟨q1, q2, q3⟩ := own_put hrow (k := done.length) rfl v'
  have hSt : Only [g] w2 (w2.setCell ⟨g, done.length, none⟩ v') := (Only.refl _ _).setCell (by simp) _
  refine ⟨q1, q2, fp', ⟨by simpa using q3, h.lt, h.all, h.base, ?_, ?_, hfn, h.hg⟩⟩
  · refine ⟨by rw [hSt.os, hOw.os, h.only.os], by rw [hSt.tape, hOw.tape, h.only.tape], by rw [hSt.output, hOw.output, h.only.output], by have := hSt.size; have := hOw.size; omega, fun k hk hn => ?_⟩
    rw [hSt.block k (by have := hOw.size; omega) hn, hOw.block k (by omega) (fun hm => by have := hub k hm; omega), h.only.block k hk hn]
  · rw [show List.replicate (j + 1) (zJ size) = List.replicate j (zJ size) ++ [zJ size] from List.replicate_succ']
    exact ownII_only hP hSt (fun b hb hm => by have := hfn b hb; simp at hm; omega)
theorem Made.rd {W w : World} {g st n size e1 : Nat} {done : List Value} (h : Made W w g st n size e1 done) (hl : done.length = st) (hst : st ≤ 8) : RdIII w (.slice (some ⟨g, 0, none⟩) st st) (zAll st n size) := by
  have hr := h.row
  rw [hl, Nat.sub_self, List.replicate_zero, List.append_nil] at hr
  refine ⟨some ⟨g, 0, none⟩, st, by simp [zAll], by simp [zAll], by omega, fun _ => ⟨g, 0, rfl, fun i x hx => ?_⟩⟩
  have hi : i < st := by have := (List.getElem?_eq_some_iff.1 hx).1; simpa [zAll] using this
  rw [zAll, List.getElem?_replicate, if_pos hi] at hx
  obtain rfl := Option.some.inj hx
  have hu : done[i]? = some (done[i]'(by omega)) := List.getElem?_eq_getElem _
  refine ⟨[done[i]'(by omega)], rfl, fun j y hj => ?_, _, rfl, (h.all _ (List.getElem_mem _)).now⟩
  match j, hj with
  | 0, hj =>
    simp only [List.getElem?_cons_zero, Option.some.injEq] at hj
    subst hj
    rw [show (0 + i * 1 + 0) = i by omega, hr.cellAt i (by omega), hu]
theorem rdTabs_get {w : World} {ad : Option Addr} {len cap : Nat} {xs : List TabZ} (h : RdTabs w (.slice ad len cap) xs) {k : Nat} (hk : k < len) : ∃ b off vA vB x, ad = some ⟨b, off, none⟩ ∧ xs[k]? = some x ∧
    w.cell? ⟨b, off + k * 3, none⟩ = some (.int .i64 x.stages) ∧ w.cell? ⟨b, off + k * 3 + 1, none⟩ = some vA ∧ w.cell? ⟨b, off + k * 3 + 2, none⟩ = some vB ∧ I64 x.stages ∧ RdI w vA x.A ∧ RdI w vB x.B := by
  obtain ⟨b, off, us, x, h1, h2, h3, h4, vA, vB, rfl, hI, hA, hB⟩ := rdS_get h hk
  have c0 := h4 0 _ rfl
  simp only [Nat.add_zero] at c0
  exact ⟨b, off, vA, vB, x, h1, h2, c0, h4 1 _ rfl, h4 2 _ rfl, hI, hA, hB⟩

theorem mk_jet (n : Nat) (h1 : 1 ≤ n) (h7 : n ≤ 7) : ∀ w : World, (Instr.makeSlice 89 (.int .i64 (n : Int)) (.int .i64 (n : Int))).run Tryz.prog w = .ok (.slice (some ⟨w.heap.size, 0, none⟩) n n) (w.alloc (.cells (Array.replicate n (.int .i64 0)) 3)) := by
  intro w
  obtain ⟨i0, hi, hz0, hz1, hz2⟩ := info_parts Tryz.info_int
  have hr := run_make (P := Tryz.prog) w 89 3 i0 (.int .i64 0) Tryz.underlying89 hi hz0 .i64 .i64 n n (by omega) (Int.le_refl _) (by rw [hz2]; omega) (by omega)
  simp only [Int.toNat_natCast] at hr
  rw [hr]
  have hm : madeCells (Value.int .i64 0).cells (n * i0.size) = Array.replicate n (Value.int .i64 0) := by
    rw [hz1, Nat.mul_one]
    exact Array.toList_inj.1 ((toList_madeCells_one _ _).trans (by simp))
  rw [hm]
theorem zJ_row {e n : Nat} (w : World) (hn : 1 ≤ n) (h7 : n ≤ 7) : OwnI e (w.alloc (.cells (Array.replicate n (.int .i64 0)) e)) (.slice (some ⟨w.heap.size, 0, none⟩) n n) (zJ n) [w.heap.size] := by
  refine ⟨⟨by simp [zJ], .inr ⟨w.heap.size, n, Array.replicate n (.int .i64 0), by simp [zJ], Nat.zero_le _, heap_alloc_new w _, by simp [zJ], by unfold maxLen; omega, by simp, by simp [zJ]⟩⟩, rfl, fun x hx => ?_⟩
  rw [zJ, List.mem_replicate] at hx
  rw [hx.2]
  exact ⟨by decide, by decide⟩

theorem fldJ_ok {parts : List (List MonZ)} {y : List (List Int)} {size : Nat} (h : hdL y = size) : AllJ size (fldJ parts y) := by
  intro x hx
  simp only [fldJ, List.mem_map] at hx
  obtain ⟨p, _, rfl⟩ := hx
  exact ⟨by rw [dervL, dervP_len, h], by rw [dervL]; exact dervP_nums _ _ _ _⟩
theorem roundsZ_vok {parts : List (List MonZ)} {ys : List (List Int)} {rows : Nat → List Int} {st n size : Nat} {start : List (List (List Int))} (hy : ys.length = n) (hp : parts.length = n) (hn : 0 < n) (hs : AllJ size ys) (h0 : VOk st n size start) :
    ∀ r, VOk st n size (roundsZ parts ys rows st start r)
  | 0 => h0
  | r + 1 => by
    rw [roundsZ]
    refine ⟨by simp [roundZ], fun a ha => ?_⟩
    simp only [roundZ, List.mem_map] at ha
    obtain ⟨s, _, rfl⟩ := ha
    exact ⟨by rw [fldJ_len, hp], fldJ_ok (by rw [hdL_at, atAll_at (by omega), atRow_len, (allJ_atL hs (by omega)).1])⟩

set_option maxRecDepth 100000 in
set_option maxHeartbeats 6400000 in
theorem stepJets_any (vo vf vy : Value) (t : TabZ) (f : FldZ) (ys : List (List Int)) (n size : Nat) (w : World) (ho : RdTabs w vo (List.replicate n t)) (hf : RdFld w vf f) (hy : RdII w vy ys) (hok : tabOkB t = true)
    (hfl : f.parts.length = n) (hfp : ∀ p ∈ f.parts, p.length ≤ 12 ∧ ∀ m ∈ p, MonFine n m) (hn1 : 1 ≤ n) (hn6 : n ≤ 6) (hs1 : 1 ≤ size) (hs7 : size ≤ 7) (hyl : ys.length = n) (hyj : AllJ size ys) :
    Calls Tryz.prog 59 #[vo, vf, vy] w (GivesV RdII w (atAll ys (roundsZ f.parts ys (rowZ t.A t.B.length) t.B.length (zAll t.B.length n size) size) t.B t.B.length)) := by
  obtain ⟨vP, rfl, hI, hp⟩ := hf
  obtain ⟨ado, leno, capo, rfl, hlo, hloc, hcmo, ho'⟩ := rdS_open ho
  obtain ⟨ady, leny, capy, rfl, hly, hlyc, hcmy, hy'⟩ := rdS_open hy
  obtain ⟨adp, lenp, capp, rfl⟩ := rdMss_slice hp
  obtain ⟨hs, hAn, hn8⟩ := tabOk_num hok
  obtain ⟨st, hst⟩ : ∃ st, st = t.B.length := ⟨_, rfl⟩
  rw [← hst] at hs hAn hn8 ⊢
  obtain rfl : leno = n := by simpa using hlo.symm
  obtain rfl : leny = leno := by omega
  obtain ⟨bo, oo, vA, vB, t0, rfl, ht0, hco0, _, _, _, _, _⟩ := rdTabs_get ho' (k := 0) (by omega)
  have ht : t0 = t := by
    rw [List.getElem?_replicate, if_pos (by omega)] at ht0
    exact (Option.some.inj ht0).symm
  subst ht
  rw [hs] at hco0
  simp only [Nat.zero_mul, Nat.add_zero] at hco0
  obtain ⟨by0, oy0, ad5, l5, c5, y0, rfl, hy0, hcy0, h61, _, _, _, _⟩ := rdII_get hy' (k := 0) (by omega)
  obtain ⟨hyl0, _⟩ := allJ_at hyj hy0
  obtain rfl : l5 = size := by omega
  simp only [Nat.add_zero] at hcy0
  obtain ⟨W1, hW1⟩ : ∃ W, W = w.alloc (.cells #[.int .i64 f.dim, .slice adp lenp capp] 30) := ⟨_, rfl⟩
  obtain ⟨W2, hW2⟩ : ∃ W, W = W1.alloc (.cells #[.slice (some ⟨by0, oy0, none⟩) leny capy] 83) := ⟨_, rfl⟩
  have hb1 : Below w.heap.size w W1 := hW1 ▸ (Below.refl _ _).alloc (Nat.le_refl _) _
  have hb2 : Below w.heap.size w W2 := hW2 ▸ hb1.alloc hb1.size _
  have hsz1 : W1.heap.size = w.heap.size + 1 := by rw [hW1]; simp
  have hsz2 : W2.heap.size = w.heap.size + 2 := by rw [hW2]; simp [hsz1]
  have hF0 : W2.cell? ⟨w.heap.size, 0, none⟩ = some (.int .i64 f.dim) := by rw [hW2, hW1]; simp
  have hF1 : W2.cell? ⟨w.heap.size, 1, none⟩ = some (.slice adp lenp capp) := by rw [hW2, hW1]; simp
  have hY0 : W2.cell? ⟨w.heap.size + 1, 0, none⟩ = some (.slice (some ⟨by0, oy0, none⟩) leny capy) := by rw [hW2, ← hsz1]; simp
  have HF := Lib.hid (show _ ∧ _ ∧ _ from ⟨hF0, hF1, hY0⟩)
  have HW1 := Lib.hid hW1
  have HW2 := Lib.hid hW2
  have HSZ := Lib.hid hsz2
  have HB2 := Lib.hid hb2
  have HST := Lib.hid hst
  have HS := Lib.hid hs
  have HAN := Lib.hid hAn
  have HFP := Lib.hid hfp
  have HFL := Lib.hid hfl
  have HYL := Lib.hid hyl
  have HYJ := Lib.hid hyj
  have HOK := Lib.hid hok
  clear ho hy hlo hly hyl hyj hst hs hAn hfl hfp hW1 hW2 hb1 hb2 hsz1 hsz2 hok hy0 h61 hyl0 ht0 hF0 hF1 hY0
  obtain ⟨i0, hi, hz0, hz1, hz2⟩ := info_parts Tryz.info_int
  obtain ⟨j1, hj1, hw0, hw1, hw2⟩ := info_parts Tryz.info_jet
  obtain ⟨j2, hj2, hx0, hx1, hx2⟩ := info_parts Tryz.info_jets
  have hib0 : i0.bytes * l5 ≤ 281474976710656 := by rw [hz2]; omega
  have hib2 : j2.bytes * st ≤ 281474976710656 := by rw [hx2]; omega
  have hco2 := cell_below HB2.out hco0
  have hcy2 := cell_below HB2.out hcy0
  have hYY := HF.out.2.2
  rw [HW2.out, HW1.out] at hco2 hcy2 hYY
  go_enter Tryz.func59, Tryz.ntmps59
  go_wp2_with (first
    | (at_make; refine wpList_make_full _ rfl _ _ 130 rfl 0 83 j2 (.slice none 0 0) 1 Tryz.underlying130 hj2 hx0 hx1 .i64 .i64 _ _ st rfl rfl rfl rfl hib2 (by unfold maxLen; omega) (Nat.zero_le _) ?_; intro w3 hown3 hgrow3; rw [← HW1.out, ← HW2.out] at hown3 hgrow3 ⊢; have HO3 := Lib.hid hown3; have HB3 := Lib.hid ((Below.refl W2.heap.size W2).grown hgrow3 (Nat.le_refl _) (fun k hk => by cases hk)); have hF0 := cell_below HB3.out HF.out.1; have hF1 := cell_below HB3.out HF.out.2.1; have hY0 := cell_below HB3.out HF.out.2.2; clear hown3 hgrow3 hco2 hcy2 hYY))
  obtain ⟨W4, hW4⟩ : ∃ W, W = w3.alloc (.cells #[.slice (some ⟨W2.heap.size, 0, none⟩) st st] 130) := ⟨_, rfl⟩
  have hb34 : Below w3.heap.size w3 W4 := hW4 ▸ (Below.refl _ _).alloc (Nat.le_refl _) _
  have hV0 : W4.cell? ⟨w3.heap.size, 0, none⟩ = some (.slice (some ⟨W2.heap.size, 0, none⟩) st st) := by rw [hW4]; simp
  have hg3 : W2.heap.size < w3.heap.size := (HO3.out.lt _ rfl).2
  have hzz2 : w.heap.size + 2 = W2.heap.size := HSZ.out.symm
  have hb24 : Below W2.heap.size W2 W4 := HB3.out.trans (hb34.mono HB3.out.size)
  have HBW4 := Lib.hid (HB2.out.trans (hb24.mono HB2.out.size))
  have HBX := Lib.hid (fun (wr : World) (ho : Only [W2.heap.size] W4 wr) => show _ ∧ _ ∧ _ ∧ _ from ⟨cell_only ho (by simp; omega) (cell_below hb34 hF0), cell_only ho (by simp; omega) (cell_below hb34 hF1), cell_only ho (by simp; omega) (cell_below hb34 hY0), cell_only ho (by simp; omega) hV0⟩)
  have HM0 := Lib.hid (show Made W4 W4 W2.heap.size st leny l5 83 [] from ⟨by
    have h1 := ownsRow_only HO3.out (Only.of_below (fp := []) hb34) (by simp)
    rw [Nat.mul_one, show (madeCells (Value.slice none 0 0).cells st).toList = List.replicate st (Value.slice none 0 0) from toList_madeCells_one _ _] at h1
    simpa using h1, by simp, by simp, Only.refl _ _⟩)
  have HW4 := Lib.hid hW4
  clear hF0 hF1 hY0 hV0 hb34 hb24 hW4
  rw [← HW4.out]
  go_loopw [30] (fun i wr => ∃ (k : Nat) (done : List Value), k ≤ st ∧ i = .int .i64 k ∧ done.length = k ∧ Made W4 wr W2.heap.size st leny l5 83 done) (fun i _ => st - (intOf i).toNat)
  case atStart => exact ⟨0, [], Nat.zero_le _, rfl, rfl, HM0.out⟩
  case round =>
    obtain ⟨wk, rfl⟩ : ∃ W, W = wr := ⟨_, rfl⟩
    obtain ⟨k, done, hk, rfl, hdl, hM⟩ := hrel
    clear HM0
    obtain ⟨hF0, hF1, hY0, hV0⟩ := HBX.out _ hM.only
    by_cases hlt : k < st
    case pos =>
      have HM1 := Lib.hid (hM.begin 89 3 (by omega))
      have HDL := Lib.hid hdl
      clear hM hdl
      go_wp2
      go_loopw [35] (fun i wq => ∃ (j : Nat) (u : Value) (fs : List Nat), j ≤ leny ∧ i = .int .i64 j ∧ Making W4 wk wq W2.heap.size st leny l5 83 89 3 done u j fs) (fun i _ => leny - (intOf i).toNat)
      case atStart => exact ⟨0, _, _, Nat.zero_le _, rfl, HM1.out⟩
      case round =>
        obtain ⟨wq, rfl⟩ : ∃ W, W = wr := ⟨_, rfl⟩
        obtain ⟨j, u, fs0, hj, rfl, hG⟩ := hrel
        clear HM1 hF0 hF1 hY0 hV0
        by_cases hjl : j < leny
        case neg =>
          obtain rfl : j = leny := by omega
          have HD := Lib.hid hG.done
          clear hG
          go_wp2
          go_roundw
          case rel => exact ⟨k + 1, done ++ [u], by omega, by go_num, by simp [HDL.out], HD.out⟩
          case measure => simp [intOf]; omega
        obtain ⟨hF0, hF1, hY0, hV0⟩ := HBX.out _ (hG.base.trans hG.only)
        have hcg := (own_put hG.row (k := done.length) rfl (.bool true)).1
        rw [HDL.out] at hcg
        have hG' := hG
        obtain ⟨us, fs, hown, hone, hels, rfl, hnd⟩ := hG.own
        have HG := Lib.hid hG'
        have HOWN := Lib.hid hown
        rw [List.length_replicate] at hown
        obtain ⟨adu, capu, rfl, hluc, hcum, _⟩ := row_open hown
        have HNU := Lib.hid hown
        have HONE := Lib.hid hone
        have HELS := Lib.hid hels
        have HND := Lib.hid hnd
        have hlV := World.block_lt_of_cell? _ _ hV0
        simp only at hlV
        have hra : Below wq.heap.size wq (wq.alloc (.cells (Array.replicate l5 (.int .i64 0)) 3)) := (Below.refl _ _).alloc (Nat.le_refl _) _
        have hszm : (wq.alloc (.cells (Array.replicate l5 (.int .i64 0)) 3)).heap.size = wq.heap.size + 1 := by simp
        have h1a : Below (wq.alloc (.cells (Array.replicate l5 (.int .i64 0)) 3)).heap.size (wq.alloc (.cells (Array.replicate l5 (.int .i64 0)) 3)) (((wq.alloc (.cells (Array.replicate l5 (.int .i64 0)) 3)).alloc (.cells #[.slice (some ⟨wq.heap.size, 0, none⟩) l5 l5] 89)).drew) := ((Below.refl _ _).alloc (Nat.le_refl _) _).drew
        have HZ := Lib.hid (zJ_row (e := 3) wq hs1 hs7)
        have HPS := Lib.hid (fun (w2 : World) (gg capn : Nat)
            (hown1 : w2.ownsRow 0 89 1 (.slice (some ⟨gg, 0, none⟩) (j + 1) capn) (j + 1) (us.flatten ++ [.slice (some ⟨wq.heap.size, 0, none⟩) l5 l5])) (hgrow : (((wq.alloc (.cells (Array.replicate l5 (.int .i64 0)) 3)).alloc (.cells #[.slice (some ⟨wq.heap.size, 0, none⟩) l5 l5] 89)).drew).grownBy w2 (Value.slice adu j capu).ownBlock) (hat : (Value.slice adu j capu).ownBlock = some gg ∨ gg = wq.heap.size + 2) =>
          Making.push HG.out HONE.out HELS.out HND.out HOWN.out HZ.out (by simp) hra h1a hown1 hgrow (fun b hb => by
            simp [Value.ownBlock] at hb
            subst hb
            rcases hat with hat | hat
            · left; exact hat
            · right; rw [hat]; simp [World.drew]))
        rw [HDL.out] at HPS
        have HVF := Lib.hid (fun (w2 : World) (hgrow : (((wq.alloc (.cells (Array.replicate l5 (.int .i64 0)) 3)).alloc (.cells #[.slice (some ⟨wq.heap.size, 0, none⟩) l5 l5] 89)).drew).grownBy w2 (Value.slice adu j capu).ownBlock) => show w2.cell? ⟨w3.heap.size, 0, none⟩ = some (.slice (some ⟨W2.heap.size, 0, none⟩) st st) from by
          have h1 := cell_below h1a (cell_below hra hV0)
          refine (hgrow.cell_far ⟨w3.heap.size, 0, none⟩ (World.block_lt_of_cell? _ _ h1) (fun e => ?_)).trans h1
          have h2 := HG.out.new w3.heap.size (by rw [← e]; simp)
          have h3 := HG.out.base.size
          have h4 := World.block_lt_of_cell? _ _ (HBX.out W4 (Only.refl _ _)).2.2.2
          simp only at h4
          omega)
        have HNQ := Lib.hid (show (((wq.alloc (.cells (Array.replicate l5 (.int .i64 0)) 3)).alloc (.cells #[.slice (some ⟨wq.heap.size, 0, none⟩) l5 l5] 89)).drew).ownsRow 0 89 1 (.slice adu j capu) j us.flatten from ((ownsRow_only HNU.out (Only.of_below (fp := []) hra) (by simp)).alloc _))
        have HNEWS := Lib.hid (show (((wq.alloc (.cells (Array.replicate l5 (.int .i64 0)) 3)).alloc (.cells #[.slice (some ⟨wq.heap.size, 0, none⟩) l5 l5] 89)).drew).heap[wq.heap.size + 1]? = some (.cells #[.slice (some ⟨wq.heap.size, 0, none⟩) l5 l5] 89 (0, 0)) from by rw [← hszm]; exact heap_alloc_new _ _)
        have hmk := mk_jet l5 hs1 hs7
        have hVm := cell_below hra hV0
        have hcm := cell_below hra hcg
        have hVn := cell_below h1a hVm
        have hcn := cell_below h1a hcm
        clear hG hG' hown hone hels hnd hra h1a hszm
        go_wp2
        go_region_law (refine step_append_lies _ (by rfl) _ _ _ (by rfl) 0 89 j1 _ 1 24 Tryz.underlying83 hj1 hw0 hw1 hw2 rfl (by omega) (.slice adu j capu) j _ (by simp [go_sem]) HNQ.out ⟨wq.heap.size + 1, 0, none⟩ 1 1 [.slice (some ⟨wq.heap.size, 0, none⟩) l5 l5] (by simp [go_sem]) (by rfl) (World.news_of_block (cs := #[.slice (some ⟨wq.heap.size, 0, none⟩) l5 l5]) (t := 89) (fr := (0, 0)) HNEWS.out) (by simp [Value.oneCell']) (by omega) (by unfold maxLen; omega) (by omega) (by simp) (wq.heap.size + 2) (by simp [World.drew]) ?_; intro gg capn w2 hown1 hgrow hat hlt1; have hVp := HVF.out w2 hgrow; obtain ⟨hcB, hfB, fs', hP⟩ := HPS.out w2 gg capn hown1 hgrow hat; have HPP := Lib.hid hP; clear hP hown1 hgrow)
        all_goals (
          go_simp
          go_wp2
          go_roundw
          case rel => exact ⟨j + 1, _, fs', by omega, by go_num, HPP.out⟩
          case measure => simp [intOf]; omega)
    have hks : st = k := by omega
    subst hks
    have HRD := Lib.hid (hM.rd hdl hn8)
    have hfV : wk.frozen? ⟨w3.heap.size, 0, none⟩ = false := (World.frozen?_of_block (hM.only.block _ (by rw [HW4.out]; simp) (by simp; omega))).trans (by rw [HW4.out]; simp)
    have hbk : Below w.heap.size w wk := HBW4.out.trans (hM.only.below HBW4.out.size (by simp; omega))
    have HBK := Lib.hid hbk
    have hlV := World.block_lt_of_cell? _ _ hV0
    simp only at hlV
    have HV0 := Lib.hid (show _ ∧ _ ∧ _ ∧ _ ∧ _ from ⟨hF0, hF1, hY0, hV0, hfV⟩)
    have HSTF := Lib.hid (show 0 < l5 ∧ VOk st leny l5 (zAll st leny l5) from ⟨by omega, zAll_ok st leny l5⟩)
    have HVOK := Lib.hid (roundsZ_vok (rows := rowZ t0.A st) HYL.out HFL.out (by omega) HYJ.out (zAll_ok st leny l5))
    clear hM hdl hbk hF0 hF1 hY0 hV0 hfV hlt
    go_wp2
    go_loopw [52] (fun i wr => ∃ (r : Nat) (adv : Option Addr) (capv : Nat), r ≤ l5 ∧ i = .int .i64 r ∧ wr.cell? ⟨w3.heap.size, 0, none⟩ = some (.slice adv st capv) ∧ RdIII wr (.slice adv st capv) (roundsZ f.parts ys (rowZ t0.A st) st (zAll st leny l5) r) ∧ wr.frozen? ⟨w3.heap.size, 0, none⟩ = false ∧ Only [w3.heap.size] wk wr) (fun i _ => l5 - (intOf i).toNat)
    case atStart => exact ⟨0, _, _, Nat.zero_le _, rfl, HV0.out.2.2.2.1, HRD.out, HV0.out.2.2.2.2, Only.refl _ _⟩
    case round =>
      obtain ⟨wj, rfl⟩ : ∃ W, W = wr := ⟨_, rfl⟩
      obtain ⟨r, adv, capv, hr, rfl, hcV, hRV, hfz, hOj⟩ := hrel
      clear HRD
      have hF0 := cell_only hOj (by simp; omega) HV0.out.1
      have hF1 := cell_only hOj (by simp; omega) HV0.out.2.1
      have hY0 := cell_only hOj (by simp; omega) HV0.out.2.2.1
      have hbj : Below w.heap.size w wj := HBK.out.trans (hOj.below HBK.out.size (by simp; omega))
      obtain ⟨vals, hvals⟩ : ∃ v, v = roundsZ f.parts ys (rowZ t0.A st) st (zAll st leny l5) r := ⟨_, rfl⟩
      have hvo : VOk st leny l5 vals := by rw [hvals]; exact HVOK.out r
      rw [← hvals] at hRV
      have HVO := Lib.hid hvo
      have HVALS := Lib.hid hvals
      have HRV := Lib.hid hRV
      have HOJ := Lib.hid hOj
      have HBJ := Lib.hid hbj
      clear hvo hvals hRV hOj hbj
      by_cases hrl : r < l5
      case neg =>
        have hrl5 : l5 = r := by omega
        subst hrl5
        have hal6 : Below wj.heap.size wj (wj.alloc (.cells #[] 89)) := (Below.refl _ _).alloc (Nat.le_refl _) _
        have hY6 := cell_below hal6 hY0
        have hV6 := cell_below hal6 hcV
        have HR0 := Lib.hid (ownR_lit (Rd := RdI) (e := 89) (w := wj))
        have HB6 := Lib.hid hal6
        clear hal6 hV6
        go_wp2
        go_loopw [16, 91] (fun u i wz => ∃ q : Nat, q ≤ leny ∧ i = .int .i64 q ∧ OwnR RdI 89 wz u ((atAll ys vals t0.B st).take q) ∧ (∀ g, u.ownBlock = some g → wj.heap.size ≤ g) ∧ Below wj.heap.size wj wz) (fun _ i _ => leny - (intOf i).toNat)
        case atStart => exact ⟨0, Nat.zero_le _, rfl, by simpa using HR0.out, by simp [Value.ownBlock], HB6.out⟩
        case round =>
          obtain ⟨wz, rfl⟩ : ∃ W, W = wr := ⟨_, rfl⟩
          obtain ⟨q, hq, rfl, hR, hRg, hbz⟩ := hrel
          clear HR0 HB6 hY6
          have htl : (atAll ys vals t0.B st).length = leny := by rw [atAll_len, HYL.out]
          have hwz := HBJ.out.trans (hbz.mono HBJ.out.size)
          by_cases hql : q < leny
          case neg =>
            obtain rfl : q = leny := by omega
            rw [List.take_of_length_le (by omega), HVALS.out] at hR
            have HRR := Lib.hid (ownR_rdII hR)
            clear hR hRg
            go_wp2
            go_ret
            exact ⟨_, rfl, HRR.out, hwz⟩
          obtain ⟨bo', oo', vA', vB', t1, hbo, ht1, _, _, hcB, _, _, hrB⟩ := rdTabs_get (rdTabs_mono hwz ho') hql
          simp only [Option.some.injEq, Addr.mk.injEq] at hbo
          obtain ⟨rfl, rfl, _⟩ := hbo
          have ht : t1 = t0 := by
            rw [List.getElem?_replicate, if_pos hql] at ht1
            exact (Option.some.inj ht1).symm
          subst ht
          have hYz := cell_below hbz hY0
          have hVz := cell_below hbz hcV
          have A1 := Lib.hid (add_any vB' _ _ ys t1.B vals q leny st l5 w.heap.size (w.heap.size + 1) w3.heap.size w wz hYz hVz hy' hwz (Nat.le_refl _) hwz.size hrB (rdIII_mono hbz HRV.out) HYL.out HYJ.out HST.out.symm HVO.out hql hs1 hs7 hn8)
          obtain ⟨us, hown, hul, hall⟩ := hR
          have hkl : ((atAll ys vals t1.B st).take q).length = q := by rw [List.length_take]; omega
          rw [hkl] at hown
          obtain ⟨adu, capu, rfl, hluc, hcum, _⟩ := row_open hown
          have HOWN := Lib.hid hown
          have HUL := Lib.hid hul
          have HALL := Lib.hid hall
          have HKL := Lib.hid hkl
          have HRG := Lib.hid hRg
          have HBZ := Lib.hid hbz
          have HSN := Lib.hid (show (atAll ys vals t1.B st).take (q + 1) = (atAll ys vals t1.B st).take q ++ [atRow ys vals t1.B q st] from take_snoc (by
            have : q < ys.length := by rw [HYL.out]; exact hql
            simp [atAll, this]))
          clear hown hul hall hkl hRg hbz htl hrB ht1
          go_wp2_with fail
          refine (A1.out).mono ?_
          rintro e wb ⟨px, rfl, hpx, hap, hbb⟩
          obtain ⟨adx, lx, cx, rfl, _⟩ := rdS_open hpx
          have hal : Below wb.heap.size wb (wb.alloc (.cells #[.slice adx lx cx] 89)) := (Below.refl _ _).alloc (Nat.le_refl _) _
          have HNQ := Lib.hid (ownsRow_only HOWN.out (Only.of_below (fp := []) hbb) (by simp))
          have HS := Lib.hid (fun (w2 : World) (gg capn : Nat) (hown1 : w2.ownsRow 0 89 1 (.slice (some ⟨gg, 0, none⟩) (q + 1) capn) (q + 1) (us ++ [.slice adx lx cx]))
              (hgrow : (wb.alloc (.cells #[.slice adx lx cx] 89)).grownBy w2 (Value.slice adu q capu).ownBlock) (hat : (Value.slice adu q capu).ownBlock = some gg ∨ gg = wb.heap.size + 1) =>
            ownR_push (W := wj) (w := wz) (w1 := wb) (v := .slice adu q capu) rdI_mono' HUL.out HKL.out HALL.out hpx (fun g hg => hap g (by have h1 := HRG.out g hg; have h2 := HBJ.out.size; omega) (HOWN.out.lt g hg).2) HRG.out HBZ.out hbb hal hown1 hgrow (fun b hb => by
              simp [Value.ownBlock] at hb
              subst hb
              rcases hat with hat | hat
              · left; exact hat
              · right; rw [hat]; simp))
          clear hpx hap hal hbb
          go_wp2_with (first | (at_builtin; refine wpList_append_lies _ rfl _ _ _ rfl 0 89 j1 _ 1 24 Tryz.underlying83 hj1 hw0 hw1 hw2 rfl (by omega) (.slice adu q capu) q us (by rfl) (HNQ.out.alloc _) ⟨wb.heap.size, 0, none⟩ 1 1 [.slice adx lx cx] (by rfl) (by rfl) (World.news_of_block (cs := #[.slice adx lx cx]) (t := 89) (fr := (0, 0)) (heap_alloc_new wb _)) (by simp [Value.oneCell']) (by omega) (by unfold maxLen; omega) (by omega) (by simp) (wb.heap.size + 1) (by simp) ?_; intro gg capn w2 hown1 hgrow hat hlt1; obtain ⟨hP1, hP2, hP3⟩ := HS.out w2 gg capn hown1 hgrow hat; have HPP := Lib.hid hP1; have HPG := Lib.hid hP2; clear hP1 hP2 hown1 hgrow))
          all_goals (
            go_roundw
            case rel => exact ⟨q + 1, by omega, by go_num, by rw [HSN.out]; exact HPP.out, HPG.out, hP3⟩
            case measure => simp [intOf]; omega)
      have hal6 : Below wj.heap.size wj (wj.alloc (.cells #[] 83)) := (Below.refl _ _).alloc (Nat.le_refl _) _
      have hV6 := cell_below hal6 hcV
      have HN0 := Lib.hid (show OwnIII 83 89 3 (wj.alloc (.cells #[] 83)) (.slice (some ⟨wj.heap.size, 0, none⟩) 0 0) [] [wj.heap.size] from ⟨[], [], by simpa using World.ownsRow_lit (base := 0) (e := 83) (size := 1) wj #[] 0 (Nat.zero_le _) (Nat.zero_le _) rfl, by simp, rfl, rfl, by simp⟩)
      have HB6 := Lib.hid hal6
      clear hal6
      go_wp2
      clear hV6
      go_loopw [12, 57] (fun u i wq => ∃ (s : Nat) (fs : List Nat), s ≤ st ∧ i = .int .i64 s ∧ OwnIII 83 89 3 wq u ((roundZ f.parts ys (rowZ t0.A st) st vals).take s) fs ∧ (∀ b ∈ fs, wj.heap.size ≤ b) ∧ Below wj.heap.size wj wq) (fun _ i _ => st - (intOf i).toNat)
      case atStart => exact ⟨0, _, Nat.zero_le _, rfl, by simpa using HN0.out, by simp, HB6.out⟩
      case round =>
        obtain ⟨wq, rfl⟩ : ∃ W, W = wr := ⟨_, rfl⟩
        obtain ⟨s, fs0, hs, rfl, hN, hNf, hbq⟩ := hrel
        clear HN0 HB6
        have hF0q := cell_below hbq hF0
        have hF1q := cell_below hbq hF1
        have hYq := cell_below hbq hY0
        have hVq := cell_below hbq hcV
        have hfq := (hbq.frozen (p := ⟨w3.heap.size, 0, none⟩) (World.block_lt_of_cell? _ _ hcV)).trans hfz
        have hwq := HBJ.out.trans (hbq.mono HBJ.out.size)
        have hrl2 : (roundZ f.parts ys (rowZ t0.A st) st vals).length = st := by simp [roundZ]
        by_cases hsl : s < st
        case neg =>
          have hss : st = s := by omega
          subst hss
          rw [List.take_of_length_le (by omega)] at hN
          obtain ⟨adn, ln, capn, rfl, hln, _, _, _⟩ := rdS_open (ownIII_rd hN)
          obtain rfl : st = ln := by omega
          have hlq := World.block_lt_of_cell? _ _ hVq
          have hlj := World.block_lt_of_cell? _ _ hcV
          simp only at hlq hlj
          have hO : Only [w3.heap.size] wq (wq.setCell ⟨w3.heap.size, 0, none⟩ (.slice adn st capn)) := (Only.refl _ _).setCell (by simp) _
          have HN2 := Lib.hid (ownIII_rd (ownS_only (fun _ _ _ h hd => oelIII_only h hO hd) hN hO (fun b hb hm => by have h1 := hNf b hb; simp at hm; omega)))
          have HO2 := Lib.hid (HOJ.out.trans ((Only.of_below hbq).trans hO))
          have HC2 := Lib.hid (World.cell?_setCell_same _ _ (.slice adn st capn) hVq)
          have HF2 := Lib.hid (show (wq.setCell ⟨w3.heap.size, 0, none⟩ (.slice adn st capn)).frozen? ⟨w3.heap.size, 0, none⟩ = false from by rw [World.frozen?_setCell]; exact hfq)
          have HNX := Lib.hid (show roundsZ f.parts ys (rowZ t0.A st) st (zAll st leny l5) (r + 1) = roundZ f.parts ys (rowZ t0.A st) st vals by rw [roundsZ, HVALS.out])
          clear hN hNf hbq hO hwq hrl2
          go_wp2
          go_roundw
          case rel => exact ⟨r + 1, adn, capn, by omega, by go_num, HC2.out, by rw [HNX.out]; exact HN2.out, HF2.out, HO2.out⟩
          case measure => simp [intOf]; omega
        have halA : Below wq.heap.size wq (wq.alloc (.cells #[] 89)) := (Below.refl _ _).alloc (Nat.le_refl _) _
        have hYA := cell_below halA hYq
        have HRA0 := Lib.hid (ownR_lit (Rd := RdI) (e := 89) (w := wq))
        have HBA0 := Lib.hid halA
        have HNN := Lib.hid hN
        have HNF := Lib.hid hNf
        have HBQ := Lib.hid hbq
        have HWQ := Lib.hid hwq
        clear halA hN hNf hbq hwq
        go_wp2
        clear hYA
        go_loopw [14, 63] (fun u i wz => ∃ q : Nat, q ≤ leny ∧ i = .int .i64 q ∧ OwnR RdI 89 wz u ((atAll ys vals (rowZ t0.A st s) st).take q) ∧ (∀ g, u.ownBlock = some g → wq.heap.size ≤ g) ∧ Below wq.heap.size wq wz) (fun _ i _ => leny - (intOf i).toNat)
        case atStart => exact ⟨0, Nat.zero_le _, rfl, by simpa using HRA0.out, by simp [Value.ownBlock], HBA0.out⟩
        case round =>
          obtain ⟨wz, rfl⟩ : ∃ W, W = wr := ⟨_, rfl⟩
          obtain ⟨q, hq, rfl, hR, hRg, hbz⟩ := hrel
          clear HRA0 HBA0
          have htl : (atAll ys vals (rowZ t0.A st s) st).length = leny := by rw [atAll_len, HYL.out]
          have hwz := HWQ.out.trans (hbz.mono HWQ.out.size)
          by_cases hql : q < leny
          case neg =>
            obtain rfl : q = leny := by omega
            rw [List.take_of_length_le (by omega)] at hR
            have hrow0 : hdL (atAll ys vals (rowZ t0.A st s) st) = l5 := by rw [hdL_at, atAll_at (by rw [HYL.out]; omega), atRow_len, (allJ_atL HYJ.out (by rw [HYL.out]; omega)).1]
            have A1 := Lib.hid (fieldAlong_any (.agg #[.int .i64 f.dim, .slice adp lenp capp]) _ (.slice none 0 0) f (atAll ys vals (rowZ t0.A st s) st) [] q l5 wz ⟨_, rfl, hI, rdMss_mono hwz hp⟩ (ownR_rdII hR) (rdIII_nil _) HFL.out HFP.out hn1 hn6 hs1 hs7 htl (atAll_ok HYJ.out _ _ _) (by simp) (by simp))
            rw [show fldD f.parts (atAll ys vals (rowZ t0.A st s) st) [] l5 = fldJ f.parts (atAll ys vals (rowZ t0.A st s) st) from fldD_nil hrow0.symm HFP.out] at A1
            have hF0z := cell_below hbz hF0q
            have hF1z := cell_below hbz hF1q
            obtain ⟨us3, fs3, hown3, hone3, hels3, rfl, hnd3⟩ := HNN.out
            have hkl3 : ((roundZ f.parts ys (rowZ t0.A st) st vals).take s).length = s := by rw [List.length_take]; omega
            have HOWN3 := Lib.hid hown3
            rw [hkl3] at hown3
            obtain ⟨adu3, capu3, rfl, hluc3, hcum3, _⟩ := row_open hown3
            have HNU3 := Lib.hid hown3
            have HONE3 := Lib.hid hone3
            have HELS3 := Lib.hid hels3
            have HND3 := Lib.hid hnd3
            have HKL3 := Lib.hid hkl3
            have HBZ := Lib.hid hbz
            have HSN3 := Lib.hid (show (roundZ f.parts ys (rowZ t0.A st) st vals).take (s + 1) = (roundZ f.parts ys (rowZ t0.A st) st vals).take s ++ [fldJ f.parts (atAll ys vals (rowZ t0.A st s) st)] from take_snoc (by simp [roundZ, hsl]))
            clear hown3 hone3 hels3 hnd3 hkl3 hR hRg hbz hrow0 htl hwz HNN
            go_wp2_with fail
            refine (A1.out).mono ?_
            rintro e wa ⟨pf, fpf, rfl, hopf, hfpf, hba⟩
            obtain ⟨adq, lq, capq, rfl, _, _, _, _⟩ := rdS_open (ownII_rd hopf)
            have hwa := HBZ.out.trans (hba.mono HBZ.out.size)
            have hf2 : ∀ b ∈ fpf, wq.heap.size ≤ b := fun b hb => by { have := hfpf b hb; have := HBZ.out.size; omega }
            have hal : Below wa.heap.size wa (wa.alloc (.cells #[.slice adq lq capq] 83)) := (Below.refl _ _).alloc (Nat.le_refl _) _
            have HNQ := Lib.hid (ownsRow_only HNU3.out (Only.of_below (fp := []) hwa) (by simp))
            have HS := Lib.hid (fun (w2 : World) (gg capn : Nat) (hown1 : w2.ownsRow 0 83 1 (.slice (some ⟨gg, 0, none⟩) (s + 1) capn) (s + 1) (us3.flatten ++ [.slice adq lq capq]))
                (hgrow : (wa.alloc (.cells #[.slice adq lq capq] 83)).grownBy w2 (Value.slice adu3 s capu3).ownBlock) (hat : (Value.slice adu3 s capu3).ownBlock = some gg ∨ gg = wa.heap.size + 1) =>
              ownIII_push (W := wj) HONE3.out HELS3.out HND3.out HOWN3.out HKL3.out hopf hf2 HNF.out HBQ.out hwa hal hown1 hgrow (fun b hb => by
                simp [Value.ownBlock] at hb
                subst hb
                rcases hat with hat | hat
                · left; exact hat
                · right; rw [hat]; simp))
            clear hopf hal hfpf hba hf2 hwa
            go_wp2_with (first | (at_builtin; refine wpList_append_lies _ rfl _ _ _ rfl 0 83 j2 _ 1 24 Tryz.underlying130 hj2 hx0 hx1 hx2 rfl (by omega) (.slice adu3 s capu3) s _ (by rfl) (HNQ.out.alloc _) ⟨wa.heap.size, 0, none⟩ 1 1 [.slice adq lq capq] (by rfl) (by rfl) (World.news_of_block (cs := #[.slice adq lq capq]) (t := 83) (fr := (0, 0)) (heap_alloc_new wa _)) (by simp [Value.oneCell']) (by omega) (by unfold maxLen; omega) (by omega) (by simp) (wa.heap.size + 1) (by simp) ?_; intro gg capn w2 hown1 hgrow hat hlt1; obtain ⟨f', hP1, hP2, hP3⟩ := HS.out w2 gg capn hown1 hgrow hat; have HPP := Lib.hid hP1))
            all_goals (
              go_roundw
              case rel => exact ⟨s + 1, f', by omega, by go_num, by rw [HSN3.out]; exact HPP.out, hP2, hP3⟩
              case measure => simp [intOf]; omega)
          obtain ⟨bo', oo', vA', vB', t1, hbo, ht1, hcS, hcA, hcB, hIS, hrA, hrB⟩ := rdTabs_get (rdTabs_mono hwz ho') hql
          simp only [Option.some.injEq, Addr.mk.injEq] at hbo
          obtain ⟨rfl, rfl, _⟩ := hbo
          have ht : t1 = t0 := by
            rw [List.getElem?_replicate, if_pos hql] at ht1
            exact (Option.some.inj ht1).symm
          subst ht
          have R1 := Lib.hid (row_any (.agg #[.int .i64 t1.stages, vA', vB']) t1 wz ⟨_, _, rfl, hIS, hrA, hrB⟩ HOK.out (i := s) (by rw [← HST.out]; exact hsl))
          rw [← HST.out] at R1
          have hYz := cell_below hbz hYq
          have hVz := cell_below hbz hVq
          obtain ⟨us, hown, hul, hall⟩ := hR
          have hkl : ((atAll ys vals (rowZ t1.A st s) st).take q).length = q := by rw [List.length_take]; omega
          rw [hkl] at hown
          obtain ⟨adu, capu, rfl, hluc, hcum, _⟩ := row_open hown
          have HOWN := Lib.hid hown
          have HUL := Lib.hid hul
          have HALL := Lib.hid hall
          have HKL := Lib.hid hkl
          have HRG := Lib.hid hRg
          have HBZ := Lib.hid hbz
          have HWZ := Lib.hid hwz
          have HSN := Lib.hid (show (atAll ys vals (rowZ t1.A st s) st).take (q + 1) = (atAll ys vals (rowZ t1.A st s) st).take q ++ [atRow ys vals (rowZ t1.A st s) q st] from take_snoc (by
            have : q < ys.length := by rw [HYL.out]; exact hql
            simp [atAll, this]))
          clear hown hul hall hkl hRg hbz htl hrB hrA ht1 hwz
          go_wp2_with fail
          refine (R1.out).mono ?_
          rintro e wa ⟨pr, rfl, hpr, hba⟩
          have hza := HBZ.out.trans (hba.mono HBZ.out.size)
          have A1 := Lib.hid (add_any pr _ _ ys (rowZ t1.A st s) vals q leny st l5 w.heap.size (w.heap.size + 1) w3.heap.size w wa (cell_below hba hYz) (cell_below hba hVz) hy' (HWZ.out.trans (hba.mono HWZ.out.size)) (Nat.le_refl _) (Nat.le_trans HWZ.out.size hba.size) hpr (rdIII_mono (HBQ.out.trans (hza.mono HBQ.out.size)) HRV.out) HYL.out HYJ.out (rowZ_len HAN.out hsl) HVO.out hql hs1 hs7 hn8)
          have HBA := Lib.hid hba
          clear hpr hba hza
          go_wp2_with fail
          refine (A1.out).mono ?_
          rintro e wb ⟨px, rfl, hpx, hap, hbb⟩
          obtain ⟨adx, lx, cx, rfl, _⟩ := rdS_open hpx
          have hal : Below wb.heap.size wb (wb.alloc (.cells #[.slice adx lx cx] 89)) := (Below.refl _ _).alloc (Nat.le_refl _) _
          have hzb := HBA.out.trans (hbb.mono HBA.out.size)
          have HNQ := Lib.hid (ownsRow_only HOWN.out (Only.of_below (fp := []) hzb) (by simp))
          have HS := Lib.hid (fun (w2 : World) (gg capn : Nat) (hown1 : w2.ownsRow 0 89 1 (.slice (some ⟨gg, 0, none⟩) (q + 1) capn) (q + 1) (us ++ [.slice adx lx cx]))
              (hgrow : (wb.alloc (.cells #[.slice adx lx cx] 89)).grownBy w2 (Value.slice adu q capu).ownBlock) (hat : (Value.slice adu q capu).ownBlock = some gg ∨ gg = wb.heap.size + 1) =>
            ownR_push (W := wq) (w := wz) (w1 := wb) (v := .slice adu q capu) rdI_mono' HUL.out HKL.out HALL.out hpx (fun g hg => hap g (by have h1 := HRG.out g hg; have h2 := HWQ.out.size; omega) (by have h1 := (HOWN.out.lt g hg).2; have h2 := HBA.out.size; omega)) HRG.out HBZ.out hzb hal hown1 hgrow (fun b hb => by
              simp [Value.ownBlock] at hb
              subst hb
              rcases hat with hat | hat
              · left; exact hat
              · right; rw [hat]; simp))
          clear hpx hap hal hbb hzb
          go_wp2_with (first | (at_builtin; refine wpList_append_lies _ rfl _ _ _ rfl 0 89 j1 _ 1 24 Tryz.underlying83 hj1 hw0 hw1 hw2 rfl (by omega) (.slice adu q capu) q us (by rfl) (HNQ.out.alloc _) ⟨wb.heap.size, 0, none⟩ 1 1 [.slice adx lx cx] (by rfl) (by rfl) (World.news_of_block (cs := #[.slice adx lx cx]) (t := 89) (fr := (0, 0)) (heap_alloc_new wb _)) (by simp [Value.oneCell']) (by omega) (by unfold maxLen; omega) (by omega) (by simp) (wb.heap.size + 1) (by simp) ?_; intro gg capn w2 hown1 hgrow hat hlt1; obtain ⟨hP1, hP2, hP3⟩ := HS.out w2 gg capn hown1 hgrow hat; have HPP := Lib.hid hP1; have HPG := Lib.hid hP2; clear hP1 hP2 hown1 hgrow))
          all_goals (
            go_roundw
            case rel => exact ⟨q + 1, by omega, by go_num, by rw [HSN.out]; exact HPP.out, HPG.out, hP3⟩
            case measure => simp [intOf]; omega)
end Go.Proofs.YtbcjhpgkodeoeaaGreatDoor
