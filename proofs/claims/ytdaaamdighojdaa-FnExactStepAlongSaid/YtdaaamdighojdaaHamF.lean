/- HamiltonField of the reference and of the program. Conditions: lengths of slices up to 2^20. -/
import Derived.Test.YtdaaamdighojdaaSHam
set_option linter.unusedSimpArgs false
set_option linter.unusedVariables false
namespace Go.Proofs.Ytdaaamdighojdaa
open Go.RowKit Go.Sort

theorem ownS_push2 {α : Type} {e size : Nat} {El : World → List Value → α → List Nat → Prop} (hE : ∀ w w' u x f g, El w u x f → Only g w w' → (∀ b ∈ f, b ∉ g) → El w' u x f)
    {w w1 w2 : World} {v v' : Value} {xs : List α} {x : α} {us : List (List Value)} {u : List Value} {fs f : List Nat} {n : Nat}
    (hone : ∀ u ∈ us, u.length = size) (hels : OwnEls El w us xs fs) (hnd : (v.ownBlock.toList ++ fs).Nodup) (hx : El w u x f) (hul : u.length = size) (hdis : ∀ b ∈ f, b ∉ v.ownBlock.toList ++ fs) (hfn : f.Nodup)
    (hfl : ∀ b ∈ f, b < w.heap.size) (hsl : ∀ b ∈ fs, b < w.heap.size) (hn : xs.length = n)
    (h1 : Below w.heap.size w w1) (hown : w2.ownsRow 0 e size v' (n + 1) (us.flatten ++ u)) (hg : w1.grownBy w2 v.ownBlock) (hv : ∀ b, v'.ownBlock = some b → v.ownBlock = some b ∨ w1.heap.size ≤ b) :
    ∃ fp', OwnS e size El w2 v' (xs ++ [x]) fp' ∧ (∀ b ∈ fp', b ∈ v.ownBlock.toList ++ fs ∨ b ∈ f ∨ w1.heap.size ≤ b) ∧ Only v.ownBlock.toList w w2 := by
  subst hn
  have hO : Only v.ownBlock.toList w w2 := (Only.of_below h1).trans ⟨hg.os, hg.tape, hg.output, hg.size, fun k hk hn => hg.block k hk (fun e => hn (by rw [← e]; simp))⟩
  rw [List.nodup_append] at hnd
  have hv' : ∀ b, v'.ownBlock = some b → (b ∈ v.ownBlock.toList ∨ w1.heap.size ≤ b) := fun b hb => (hv b hb).imp (fun h => by rw [h]; simp) id
  refine ⟨v'.ownBlock.toList ++ (fs ++ f), ⟨us ++ [u], fs ++ f, by simpa using hown, ?_, ?_, rfl, ?_⟩, ?_, hO⟩
  · intro u' hu'
    simp at hu'
    rcases hu' with hu' | rfl
    · exact hone u' hu'
    · exact hul
  · refine ownEls_snoc (ownEls_only (fun u x f h hd => hE _ _ _ _ _ _ h hO hd) hels (fun b hb hm => hnd.2.2 b hm b hb rfl)) (hE _ _ _ _ _ _ hx hO (fun b hb hm => hdis b hb (by simp at hm; simp [hm])))
  · rw [List.nodup_append, List.nodup_append]
    refine ⟨by cases v'.ownBlock <;> simp, ⟨hnd.2.1, hfn, fun a ha b hb e => hdis b hb (by simp [← e, ha])⟩, fun a ha b hb e => ?_⟩
    subst e
    rw [Option.mem_toList] at ha
    have h1s := h1.size
    rcases hv' a ha with h | h
    · simp at hb
      rcases hb with hb | hb
      · exact hnd.2.2 a h a hb rfl
      · exact hdis a hb (by simp at h; simp [h])
    · simp at hb
      rcases hb with hb | hb
      · have := hsl a hb; omega
      · have := hfl a hb; omega
  · intro b hb
    simp only [List.mem_append, Option.mem_toList] at hb
    rcases hb with hb | hb | hb
    · rcases hv b hb with h | h
      · left; simp [h]
      · right; right; exact h
    · left; simp [hb]
    · right; left; exact hb

/-- A field that is being made: its box, and its parts so far. -/
structure FldInv (e1 e2 e : Nat) (W w : World) (Bf : Nat) (dim : Int) (v : Value) (xs : List (List MonZ)) (fs : List Nat) : Prop where
  own : OwnMss e1 e2 e w v xs fs
  new : ∀ b ∈ fs, W.heap.size ≤ b
  only : Only [Bf] W w
  c0 : w.cell? ⟨Bf, 0, none⟩ = some (.int .i64 dim)
  c1 : w.cell? ⟨Bf, 1, none⟩ = some v
  f1 : w.frozen? ⟨Bf, 1, none⟩ = false
  lt : Bf < W.heap.size
theorem fldInv_start {e1 e2 e t : Nat} {w : World} {dim : Int} {W : World} (hW : W = w.alloc (.cells #[.int .i64 dim, .slice none 0 0] t)) : FldInv e1 e2 e W W w.heap.size dim (.slice none 0 0) [] [] := by
  subst hW
  exact ⟨⟨[], [], World.ownsRow_nil _ _ _ _, by simp, rfl, rfl, by simp⟩, by simp, Only.refl _ _, by simp, by simp, by simp, by simp⟩
theorem FldInv.below {e1 e2 e : Nat} {w0 W w : World} {Bf : Nat} {dim : Int} {v : Value} {xs : List (List MonZ)} {fs : List Nat} (h : FldInv e1 e2 e W w Bf dim v xs fs) (hb : Below w0.heap.size w0 W) (hB : w0.heap.size ≤ Bf) : Below w0.heap.size w0 w :=
  hb.trans (h.only.below hb.size (by simpa using hB))
/-- Behind a call, an append to the parts, and the store of the new slice of parts. -/
theorem FldInv.push {e1 e2 e : Nat} {W w wa w1 w2 : World} {Bf : Nat} {dim : Int} {v v' p : Value} {xs : List (List MonZ)} {x : List MonZ} {us : List (List Value)} {fs f : List Nat} {n : Nat}
    (h : FldInv e1 e2 e W w Bf dim v xs (v.ownBlock.toList ++ fs)) (hone : ∀ u ∈ us, u.length = 1) (hels : OwnEls (OElMss e2 e) w us xs fs) (hnd : (v.ownBlock.toList ++ fs).Nodup) (hown0 : w.ownsRow 0 e1 1 v xs.length us.flatten) (hn : xs.length = n)
    (hp : OwnMs e2 e wa p x f) (hf : ∀ b ∈ f, w.heap.size ≤ b) (hq : Below w.heap.size w wa) (h1 : Below wa.heap.size wa w1) (hown : w2.ownsRow 0 e1 1 v' (n + 1) (us.flatten ++ [p])) (hg : w1.grownBy w2 v.ownBlock)
    (hv : ∀ b, v'.ownBlock = some b → v.ownBlock = some b ∨ w1.heap.size ≤ b) :
    w2.cell? ⟨Bf, 1, none⟩ = some v ∧ w2.frozen? ⟨Bf, 1, none⟩ = false ∧ ∃ fp', FldInv e1 e2 e W (w2.setCell ⟨Bf, 1, none⟩ v') Bf dim v' (xs ++ [x]) fp' := by
  have hlt : ∀ b ∈ v.ownBlock.toList ++ fs, b < w.heap.size := fun b hb => by
    simp only [List.mem_append, Option.mem_toList] at hb
    rcases hb with hb | hb
    · exact (hown0.lt b hb).2
    · exact ownEls_lt (fun _ _ _ h => oelMss_lt h) hels b hb
  have hWw := h.only.size
  have hq1 := hq.size
  have h11 := h1.size
  have hBlt := h.lt
  obtain ⟨fp', hP, hfp, hO⟩ := ownS_push2 (El := OElMss e2 e) (w := wa) (w1 := w1) (f := f) (fs := fs) (fun w w' u x f g h ho hd => oelMss_only h ho hd) hone (ownEls_only (fun u x f' h hd => oelMss_only h (Only.of_below (fp := []) hq) hd) hels (by simp)) hnd ⟨p, rfl, hp⟩ rfl
    (fun b hb hm => by have := hf b hb; have := hlt b hm; omega) (ownMs_nodup hp) (ownMs_lt hp) (fun b hb => by have := hlt b (by simp [hb]); omega) hn h1 hown hg hv
  have hBn : Bf ∉ v.ownBlock.toList := fun hm => by have := h.new Bf (by simp only [List.mem_append]; left; exact hm); omega
  have hfn : ∀ b ∈ fp', W.heap.size ≤ b := fun b hb => by
    rcases hfp b hb with h2 | h2 | h2
    · exact h.new b h2
    · have := hf b h2; omega
    · omega
  have hOw : Only v.ownBlock.toList w w2 := (Only.of_below hq).trans hO
  have hSt : Only [Bf] w2 (w2.setCell ⟨Bf, 1, none⟩ v') := (Only.refl _ _).setCell (by simp) _
  have hc1 := cell_only hOw hBn h.c1
  have hc0 := cell_only hOw hBn h.c0
  have hf1 : w2.frozen? ⟨Bf, 1, none⟩ = false := (World.frozen?_of_block (hOw.block Bf (by omega) hBn)).trans h.f1
  refine ⟨hc1, hf1, fp', ⟨ownMss_only hP hSt (fun b hb hm => by have := hfn b hb; simp at hm; omega), hfn, ?_, ?_, World.cell?_setCell_same _ _ _ hc1, ?_, hBlt⟩⟩
  · refine ⟨by rw [hSt.os, hOw.os, h.only.os], by rw [hSt.tape, hOw.tape, h.only.tape], by rw [hSt.output, hOw.output, h.only.output], by have := hSt.size; have := hOw.size; omega, fun k hk hn => ?_⟩
    rw [hSt.block k (by have := hOw.size; omega) hn, hOw.block k (by omega) (fun hm => by have := h.new k (by simp only [List.mem_append]; left; exact hm); omega), h.only.block k hk hn]
  · exact (World.cell?_setCell_other _ _ _ _ (by simp)).trans hc0
  · rw [World.frozen?_setCell]; exact hf1

def hamP (m : Nat) (h : List MonZ) : List (List MonZ) := (List.range (2 * m)).map fun k => if k < m then partL (m + k) 1 h else partL (k - m) (-1) h
theorem hamP_len (m : Nat) (h : List MonZ) : (hamP m h).length = 2 * m := by simp [hamP]
theorem hamP_lo {m k : Nat} {h : List MonZ} (hk : k < m) : (hamP m h)[k]? = some (partL (m + k) 1 h) := by
  rw [hamP, List.getElem?_map, List.getElem?_range (by omega)]
  simp [hk]
theorem hamP_hi {m k : Nat} {h : List MonZ} (hk : m ≤ k) (h2 : k < 2 * m) : (hamP m h)[k]? = some (partL (k - m) (-1) h) := by
  rw [hamP, List.getElem?_map, List.getElem?_range (by omega)]
  simp
  omega
def hamB (h : List MonZ) (dim : Int) : Bool := decide (dim.tmod 2 = 0) && polyOkB h dim
def hamF (h : List MonZ) (dim : Int) : FldZ := if hamB h dim = true then ⟨dim, hamP (dim.toNat / 2) h⟩ else ⟨0, []⟩
theorem sPart_at (vp : Value) (p : List MonZ) (v n : Nat) (nz s : Int) (w : World) (hz : nz = (v : Int)) (hp : RdMs w vp p) (hp12 : p.length ≤ 12) (hpm : ∀ m ∈ p, MonFine n m) (hn6 : n ≤ 6) (hv : v < n) (hs : -1 ≤ s ∧ s ≤ 1) :
    Calls Try.prog 75 #[vp, .int .i64 nz, .int .i64 s] w (Gives (fun w' v' fp => OwnMs 91 3 w' v' (partL v s p) fp) w) := by
  subst hz
  exact sPart_any vp p v n s w hp hp12 hpm hn6 hv hs
theorem partial_at (vp : Value) (p : List MonZ) (v n : Nat) (nz : Int) (w : World) (hz : nz = (v : Int)) (hp : RdMs w vp p) (hp12 : p.length ≤ 12) (hpm : ∀ m ∈ p, MonFine n m) (hn6 : n ≤ 6) (hv : v < n) :
    Calls Try.prog 77 #[vp, .int .i64 nz] w (Gives (fun w' v' fp => OwnMs 91 3 w' v' (partL v 1 p) fp) w) := by
  subst hz
  exact partial_any vp p v n w hp hp12 hpm hn6 hv

theorem ham_dim {p : List MonZ} {dim : Int} (hev : dim.tmod 2 = 0) (hok : polyOkB p dim = true) : ∃ N m : Nat, dim = (N : Int) ∧ N = 2 * m ∧ 1 ≤ m ∧ m ≤ 3 ∧ (N : Int) / 2 = (m : Int) ∧ (N : Int).tdiv 2 = (m : Int) := by
  have hd : 1 ≤ dim ∧ dim ≤ 6 := by
    simp only [polyOkB, Bool.and_eq_true, dimB, decide_eq_true_eq] at hok
    exact hok.1.1
  rw [Int.tmod_eq_emod_of_nonneg (by omega)] at hev
  refine ⟨dim.toNat, dim.toNat / 2, by omega, by omega, by omega, by omega, by omega, ?_⟩
  rw [Int.tdiv_eq_ediv_of_nonneg (by omega)]
  omega

set_option maxRecDepth 100000 in
set_option maxHeartbeats 6400000 in
theorem sHam_any (vp : Value) (p : List MonZ) (dim : Int) (w : World) (hp : RdMs w vp p) (hI : I64 dim) :
    Calls Try.prog 29 #[vp, .int .i64 dim] w (Gives2 (fun w' v fp => OwnFld 45 91 3 w' v (hamF p dim) fp) (hamB p dim) w) := by
  obtain ⟨hlo, hhi⟩ := hI
  have hb0 : Below w.heap.size w (w.alloc (.cells #[.int .i64 0, .slice none 0 0] 37)) := (Below.refl _ _).alloc (Nat.le_refl _) _
  have hnone : ∀ W, Below w.heap.size w W → hamB p dim = false → Gives2 (fun w' v fp => OwnFld 45 91 3 w' v (hamF p dim) fp) (hamB p dim) w (.returned (.tuple #[.agg #[.int .i64 0, .slice none 0 0], .bool false])) W := by
    intro W hW hd
    rw [hd]
    refine ⟨_, [], rfl, ?_, by simp, hW⟩
    rw [hamF, hd]
    exact ⟨_, rfl, ⟨(by decide : (-9223372036854775808 : Int) ≤ 0), (by decide : (0 : Int) ≤ 9223372036854775807)⟩, [], [], World.ownsRow_nil _ _ _ _, by simp, rfl, rfl, by simp⟩
  by_cases hev : dim.tmod 2 = 0
  case neg =>
    have HN := Lib.hid (fun W hW => hnone W hW (by simp [hamB, hev]))
    have hbb : (dim.tmod 2 != 0) = true := by simpa using hev
    clear hnone hev
    go_enter Try.func29, Try.ntmps29
    go_wp2
    exact bodyPost_ret (v := .tuple #[.agg #[.int .i64 0, .slice none 0 0], .bool false]) (by simp [results, Try.results29, go_sem]) rfl (HN.out _ hb0)
  case pos =>
  have hbb : (dim.tmod 2 != 0) = false := by simpa using hev
  obtain ⟨W0, hW0⟩ : ∃ W, W = w.alloc (.cells #[.int .i64 0, .slice none 0 0] 37) := ⟨_, rfl⟩
  rw [← hW0] at hb0
  have hr := box_at (w := w) (e := 37) (a := .int .i64 0) (b := .slice none 0 0) (W := W0) (hW0 ▸ Below.refl _ _)
  have hsz : w.heap.size < W0.heap.size := by rw [hW0]; simp
  have HW0 := Lib.hid hW0
  clear hW0
  obtain ⟨ad, len, cap, rfl, hl, hlc, hcm, h'⟩ := rdS_open hp
  cases hok : polyOkB p dim with
  | false =>
    have HN := Lib.hid (fun W hW => hnone W hW (by simp [hamB, hev, hok]))
    clear hnone hev hl
    go_enter Try.func29, Try.ntmps29
    go_wp2_with fail
    rw [← HW0.out]
    refine (qt_below (sPolyOk_eq _ p dim _ (rdMs_mono hb0 h') hok)).mono ?_
    rintro e w1 ⟨rfl, hb1⟩
    obtain ⟨q0, q1, q2, q3⟩ := hr
    have hc0 := cell_below hb1 q0
    have hc1 := cell_below hb1 q1
    have hf0 := (hb1.frozen (p := ⟨w.heap.size, 0, none⟩) hsz).trans q2
    have hf1 := (hb1.frozen (p := ⟨w.heap.size, 1, none⟩) hsz).trans q3
    have HB := Lib.hid (hb0.trans (hb1.mono hb0.size))
    clear q0 q1 q2 q3 hb0 hb1 hp h'
    go_wp2
    exact bodyPost_ret (v := .tuple #[.agg #[.int .i64 0, .slice none 0 0], .bool false]) (by simp [results, Try.results29, go_sem, hc0, hc1]) rfl (HN.out _ ((HB.out.setCell (Nat.le_refl _) _).setCell (Nat.le_refl _) _))
  | true =>
    obtain ⟨N, m, rfl, hN, hm1, hm3, hq, hqt⟩ := ham_dim hev hok
    obtain ⟨_, _, p12, pfine⟩ := polyOk_facts hok
    have hE : hamF p (N : Int) = ⟨(N : Int), hamP m p⟩ := by
      rw [hamF, if_pos (by simp [hamB, hev, hok])]
      congr 2
      omega
    have HE := Lib.hid hE
    have HEB := Lib.hid (show hamB p (N : Int) = true by simp [hamB, hev, hok])
    have HP12 := Lib.hid p12
    have HPF := Lib.hid pfine
    have HN := Lib.hid hN
    have HQ := Lib.hid hq
    have hN6 : N ≤ 6 := by omega
    have hN1 : 1 ≤ N := by omega
    have hbb2 : ((N : Int) % 2 != 0) = false := by
      have : (N : Int) % 2 = 0 := by omega
      simpa using this
    clear hbb
    clear hnone hev hl hE p12 pfine hN hqt hq
    obtain ⟨j1, hj1, hw0, hw1, hw2⟩ := info_parts Try.info_mons
    go_enter Try.func29, Try.ntmps29
    go_wp2_with fail
    rw [← HW0.out]
    refine (qt_below (sPolyOk_eq _ p (N : Int) _ (rdMs_mono hb0 h') hok)).mono ?_
    rintro e w1 ⟨rfl, hb1⟩
    obtain ⟨q0, q1, q2, q3⟩ := hr
    have hc0 := cell_below hb1 q0
    have hc1 := cell_below hb1 q1
    have hf0 := (hb1.frozen (p := ⟨w.heap.size, 0, none⟩) hsz).trans q2
    have hf1 := (hb1.frozen (p := ⟨w.heap.size, 1, none⟩) hsz).trans q3
    have hbw1 := hb0.trans (hb1.mono hb0.size)
    have hsz1 : w.heap.size < w1.heap.size := by have := hb1.size; omega
    obtain ⟨W3, hW3⟩ : ∃ W, W = w1.alloc (.cells #[.int .i64 (N : Int), .slice none 0 0] 37) := ⟨_, rfl⟩
    have I0 := Lib.hid (fldInv_start (e1 := 45) (e2 := 91) (e := 3) hW3)
    have hb3 : Below w1.heap.size w1 W3 := hW3 ▸ (Below.refl _ _).alloc (Nat.le_refl _) _
    have HB3 := Lib.hid (hbw1.trans (hb3.mono hbw1.size))
    have HW3 := Lib.hid hW3
    have HR := Lib.hid (show _ ∧ _ ∧ _ ∧ _ from ⟨hc0, hc1, hf0, hf1⟩)
    have HB13 := Lib.hid hb3
    clear q0 q1 q2 q3 hb0 hb1 hp hc0 hc1 hf0 hf1 hbw1 hb3 hW3 hok
    go_wp2
    rw [← HW3.out]
    go_loopw [7] (fun i wr => ∃ (k : Nat) (u : Value) (fs : List Nat), k ≤ N ∧ i = .int .i64 k ∧ FldInv 45 91 3 W3 wr w1.heap.size (N : Int) u ((hamP m p).take k) fs) (fun i _ => N - (intOf i).toNat)
    case atStart => exact ⟨0, _, _, Nat.zero_le _, rfl, by simpa using I0.out⟩
    case round =>
      obtain ⟨wk, rfl⟩ : ∃ W, W = wr := ⟨_, rfl⟩
      obtain ⟨k, u, fs0, hk, rfl, hI⟩ := hrel
      clear I0
      have hbk := hI.below HB3.out (by omega)
      have htl := hamP_len m p
      by_cases hlt : k < N
      case neg =>
        obtain rfl : k = N := by omega
        rw [List.take_of_length_le (by rw [htl, HN.out]; exact Nat.le_refl _)] at hI
        have hi0 := hI.c0
        have hi1 := hI.c1
        have hbk3 : Only [w1.heap.size] w1 wk := (Only.of_below HB13.out).trans hI.only
        have hc0 := cell_only hbk3 (by simp; omega) HR.out.1
        have hc1 := cell_only hbk3 (by simp; omega) HR.out.2.1
        have hf0 : wk.frozen? ⟨w.heap.size, 0, none⟩ = false := (World.frozen?_of_block (hbk3.block _ hsz1 (by simp; omega))).trans HR.out.2.2.1
        have hf1 : wk.frozen? ⟨w.heap.size, 1, none⟩ = false := (World.frozen?_of_block (hbk3.block _ hsz1 (by simp; omega))).trans HR.out.2.2.2
        have HI := Lib.hid hI
        have HBK := Lib.hid hbk
        obtain ⟨adu, lu, cu, rfl⟩ := ownMss_slice hI.own
        have hszk : w1.heap.size < wk.heap.size := World.block_lt_of_cell? _ _ hi0
        clear hI hbk htl hbk3
        go_wp2
        refine bodyPost_ret (v := .tuple #[.agg #[.int .i64 (k : Int), .slice adu lu cu], .bool true]) (by simp [results, Try.results29, go_sem, hc0, hc1]) rfl ?_
        rw [HEB.out]
        have hO2 : Only [w.heap.size] wk ((wk.setCell ⟨w.heap.size, 0, none⟩ (.int .i64 (k : Int))).setCell ⟨w.heap.size, 1, none⟩ (.slice adu lu cu)) := ((Only.refl _ _).setCell (by simp) _).setCell (by simp) _
        exact ⟨_, fs0, rfl, by rw [HE.out]; exact ⟨_, rfl, ⟨by show (-9223372036854775808 : Int) ≤ (k : Int); omega, by show (k : Int) ≤ 9223372036854775807; omega⟩, ownMss_only HI.out.own hO2 (fun b hb hm => by have := HI.out.new b hb; have := HB3.out.size; have := HI.out.lt; simp at hm; omega)⟩, fun b hb => by { have := HI.out.new b hb; have := HB3.out.size; omega }, (HBK.out.setCell (Nat.le_refl _) _).setCell (Nat.le_refl _) _⟩
      have hkl : ((hamP m p).take k).length = k := by rw [List.length_take, htl]; have := HN.out; omega
      have hi1 := hI.c1
      have hfi1 := hI.f1
      have HI := Lib.hid hI
      obtain ⟨us, fs, hown, hone, hels, rfl, hnd⟩ := hI.own
      have HOWN := Lib.hid hown
      rw [hkl] at hown
      obtain ⟨adu, capu, rfl, hluc, hcum, _⟩ := row_open hown
      have HNU := Lib.hid hown
      have HONE := Lib.hid hone
      have HELS := Lib.hid hels
      have HND := Lib.hid hnd
      have HKL := Lib.hid hkl
      have HBK := Lib.hid hbk
      have hdr : Below wk.heap.size wk wk.drew := (Below.refl _ _).drew
      have hlw := World.block_lt_of_cell? _ _ hi1
      simp only at hlw
      have HPS := Lib.hid (fun (wa w2 : World) (q : Value) (x : List MonZ) (f : List Nat) (gg capn : Nat) (hp : OwnMs 91 3 wa q x f) (hf : ∀ b ∈ f, wk.heap.size ≤ b) (hq : Below wk.heap.size wk wa)
          (hown1 : w2.ownsRow 0 45 1 (.slice (some ⟨gg, 0, none⟩) (k + 1) capn) (k + 1) (us.flatten ++ [q])) (hgrow : (wa.alloc (.cells #[q] 45)).grownBy w2 (Value.slice adu k capu).ownBlock) (hat : (Value.slice adu k capu).ownBlock = some gg ∨ gg = wa.heap.size + 1) =>
        FldInv.push HI.out HONE.out HELS.out HND.out HOWN.out HKL.out hp hf hq ((Below.refl _ _).alloc (Nat.le_refl _) _) hown1 hgrow (fun b hb => by
          simp [Value.ownBlock] at hb
          subst hb
          rcases hat with hat | hat
          · left; exact hat
          · right; rw [hat]; simp))
      clear hown hone hels hnd hkl hbk htl hI
      by_cases hkm : k < m
      case pos =>
        have hsn : (hamP m p).take (k + 1) = (hamP m p).take k ++ [partL (m + k) 1 p] := take_snoc (hamP_lo hkm)
        have HSN := Lib.hid hsn
        have CL := Lib.hid (fun (nz : Int) (hz : nz = (m : Int) + k) => sPart_at (.slice ad len cap) p (m + k) N nz 1 wk.drew (by rw [hz]; simp) (rdMs_mono (HBK.out.trans (hdr.mono HBK.out.size)) h') HP12.out HPF.out hN6 (by have := HN.out; omega) (by omega))
        have hqq : (N : Int) / 2 = (m : Int) := HQ.out
        have um1 : IntKind.i64.wrap (m : Int) = m := IntWalk.i64_in _ (by omega)
        have um2 : IntKind.i64.wrap ((m : Int) + k) = (m : Int) + k := IntWalk.i64_in _ (by omega)
        clear hsn
        go_wp2
        go_region_law (first | (refine step_append_lies _ (by rfl) _ _ _ (by rfl) 0 45 j1 _ 1 24 Try.underlying35 hj1 hw0 hw1 hw2 rfl (by omega) (.slice adu k capu) k _ (by rfl) (HNQ.out.alloc _) ⟨wa.heap.size, 0, none⟩ 1 1 [.slice adq lq capq] (by rfl) (by rfl) (World.news_of_block (cs := #[.slice adq lq capq]) (t := 45) (fr := (0, 0)) (heap_alloc_new wa _)) (by simp [Value.oneCell']) (by omega) (by unfold maxLen; omega) (by omega) (by simp) (wa.heap.size + 1) (by simp) ?_; intro gg capn w2 hown1 hgrow hat hlt1; obtain ⟨hcB, hfB, fp', hP⟩ := HPS.out wa w2 _ _ fp1 gg capn HOP.out HFP.out HRA.out hown1 hgrow hat; have HPP := Lib.hid hP; clear hP hown1 hgrow) | (go_simp; first | (go_at_call 75; (with_reducible refine (CL.out _ rfl).mono ?_); rintro e wa ⟨p1, fp1, rfl, hop1, hfp1, hba⟩; have hra := hdr.trans (hba.mono hdr.size); have hi1a := cell_below hra hi1; have hfi1a := (hra.frozen (p := ⟨w1.heap.size, 1, none⟩) hlw).trans hfi1; obtain ⟨adq, lq, capq, rfl⟩ := ownMs_open hop1; have hi1b := cell_below (w := wa) ((Below.refl _ _).alloc (Nat.le_refl _) (.cells #[.slice adq lq capq] 45)) hi1a; have HOP := Lib.hid hop1; have HFP := Lib.hid (show ∀ b ∈ fp1, wk.heap.size ≤ b from fun b hb => (by have h1 := hfp1 b hb; have h2 := hdr.size; omega)); have HRA := Lib.hid hra; have HNQ := Lib.hid (ownsRow_only HNU.out (Only.of_below (fp := []) hra) (by simp)); clear hop1 hfp1 hba hra)))
        all_goals (
          go_wp2
          go_roundw
          case rel => exact ⟨k + 1, _, fp', by omega, by go_num, by rw [HSN.out]; exact HPP.out⟩
          case measure => simp [intOf]; omega)
      case neg =>
        have hsn : (hamP m p).take (k + 1) = (hamP m p).take k ++ [partL (k - m) (-1) p] := take_snoc (hamP_hi (by omega) (by have := HN.out; omega))
        have HSN := Lib.hid hsn
        have CL := Lib.hid (fun (nz : Int) (hz : nz = (k : Int) - m) => sPart_at (.slice ad len cap) p (k - m) N nz (-1) wk.drew (by omega) (rdMs_mono (HBK.out.trans (hdr.mono HBK.out.size)) h') HP12.out HPF.out hN6 (by have := HN.out; omega) (by omega))
        have hqq : (N : Int) / 2 = (m : Int) := HQ.out
        have um1 : IntKind.i64.wrap (m : Int) = m := IntWalk.i64_in _ (by omega)
        have um2 : IntKind.i64.wrap ((k : Int) - m) = (k : Int) - m := IntWalk.i64_in _ (by omega)
        clear hsn
        go_wp2
        go_region_law (first | (refine step_append_lies _ (by rfl) _ _ _ (by rfl) 0 45 j1 _ 1 24 Try.underlying35 hj1 hw0 hw1 hw2 rfl (by omega) (.slice adu k capu) k _ (by rfl) (HNQ.out.alloc _) ⟨wa.heap.size, 0, none⟩ 1 1 [.slice adq lq capq] (by rfl) (by rfl) (World.news_of_block (cs := #[.slice adq lq capq]) (t := 45) (fr := (0, 0)) (heap_alloc_new wa _)) (by simp [Value.oneCell']) (by omega) (by unfold maxLen; omega) (by omega) (by simp) (wa.heap.size + 1) (by simp) ?_; intro gg capn w2 hown1 hgrow hat hlt1; obtain ⟨hcB, hfB, fp', hP⟩ := HPS.out wa w2 _ _ fp1 gg capn HOP.out HFP.out HRA.out hown1 hgrow hat; have HPP := Lib.hid hP; clear hP hown1 hgrow) | (go_simp; first | (go_at_call 75; (with_reducible refine (CL.out _ rfl).mono ?_); rintro e wa ⟨p1, fp1, rfl, hop1, hfp1, hba⟩; have hra := hdr.trans (hba.mono hdr.size); have hi1a := cell_below hra hi1; have hfi1a := (hra.frozen (p := ⟨w1.heap.size, 1, none⟩) hlw).trans hfi1; obtain ⟨adq, lq, capq, rfl⟩ := ownMs_open hop1; have hi1b := cell_below (w := wa) ((Below.refl _ _).alloc (Nat.le_refl _) (.cells #[.slice adq lq capq] 45)) hi1a; have HOP := Lib.hid hop1; have HFP := Lib.hid (show ∀ b ∈ fp1, wk.heap.size ≤ b from fun b hb => (by have h1 := hfp1 b hb; have h2 := hdr.size; omega)); have HRA := Lib.hid hra; have HNQ := Lib.hid (ownsRow_only HNU.out (Only.of_below (fp := []) hra) (by simp)); clear hop1 hfp1 hba hra)))
        all_goals (
          go_wp2
          go_roundw
          case rel => exact ⟨k + 1, _, fp', by omega, by go_num, by rw [HSN.out]; exact HPP.out⟩
          case measure => simp [intOf]; omega)
end Go.Proofs.Ytdaaamdighojdaa
