/- The texts HamI, AZero in one: each says at its head what it proves. Conditions: as said there. -/
import Derived.Lib.AppendZeros
import Derived.Lib.AppendZerosOnto
import Derived.Lib.SliceRun
import Derived.Deep.AppendLies
import Derived.Maps.AppendAt
import Derived.Test.YtbcjhpgkodeoeaaGreatDoorK26
import Derived.Test.YtbcjhpgkodeoeaaGreatDoorK01
set_option linter.unusedSimpArgs false
set_option linter.unusedVariables false
/- HamiltonField of the program. Conditions: lengths of slices up to 2^20. -/
namespace Go.Proofs.YtbcjhpgkodeoeaaGreatDoor
open Go.RowKit Go.Sort

theorem times_neg (c x : Int) : timesZ (timesZ c (1 * x)) (-1) = timesZ c (-1 * x) := by
  unfold timesZ
  rw [Int.mul_emod, Int.emod_emod_of_dvd _ (Int.dvd_refl _), ← Int.mul_emod]
  congr 1
  rw [Int.one_mul, Int.mul_assoc, Int.mul_comm x (-1)]
theorem scL_part (v : Nat) (p : List MonZ) : scL (-1) (partL v 1 p) = partL v (-1) p := by
  unfold scL partL
  rw [List.map_filterMap]
  congr 1
  funext m
  unfold partM
  split
  · rw [Option.map_some, times_neg]
  · rfl
theorem partL_le {n : Nat} (v : Nat) (s : Int) {p : List MonZ} (h : p.length ≤ n) : (partL v s p).length ≤ n := Nat.le_trans (List.length_filterMap_le _ _) h
theorem partL_pows {n v : Nat} {s : Int} {p : List MonZ} (h : ∀ m ∈ p, m.pows.length = n) : ∀ m ∈ partL v s p, m.pows.length = n := by
  intro m hm
  simp only [partL, List.mem_filterMap, partM] at hm
  obtain ⟨m', hm', hx⟩ := hm
  split at hx
  · simp at hx
    rw [← hx, List.length_set, h m' hm']
  · cases hx
/-- i rounds done -/
def hamS (m : Nat) (p : List MonZ) : Nat → List (List MonZ)
  | 0 => List.replicate (2 * m) []
  | i + 1 => ((hamS m p i).set i (partL (m + i) 1 p)).set (m + i) (partL i (-1) p)
theorem hamS_len (m : Nat) (p : List MonZ) (i : Nat) : (hamS m p i).length = 2 * m := by
  induction i with
  | zero => simp [hamS]
  | succ i ih => rw [hamS, List.length_set, List.length_set, ih]
theorem hamS_at (m : Nat) (p : List MonZ) (i : Nat) (hi : i ≤ m) : ∀ k, k < 2 * m → (hamS m p i)[k]? = some (if k < i then partL (m + k) 1 p else if m ≤ k ∧ k < m + i then partL (k - m) (-1) p else []) := by
  induction i with
  | zero =>
    intro k hk
    rw [hamS, List.getElem?_replicate, if_pos hk, if_neg (by omega), if_neg (by omega)]
  | succ i ih =>
    intro k hk
    rw [hamS]
    by_cases h1 : k = m + i
    · subst h1
      rw [List.getElem?_set_self (by rw [List.length_set, hamS_len]; omega), if_neg (by omega), if_pos (by omega)]
      congr 2
      omega
    · rw [List.getElem?_set_ne (by omega)]
      by_cases h2 : k = i
      · subst h2
        rw [List.getElem?_set_self (by rw [hamS_len]; omega), if_pos (by omega)]
      · rw [List.getElem?_set_ne (by omega), ih (by omega) k hk]
        congr 1
        by_cases h3 : k < i
        · rw [if_pos h3, if_pos (by omega)]
        · rw [if_neg h3, if_neg (show ¬ k < i + 1 by omega)]
          by_cases h4 : m ≤ k ∧ k < m + i
          · rw [if_pos h4, if_pos (by omega)]
          · rw [if_neg h4, if_neg (by omega)]
theorem hamS_done (m : Nat) (p : List MonZ) : hamS m p m = hamP m p := by
  refine List.ext_getElem? fun k => ?_
  by_cases hk : k < 2 * m
  · rw [hamS_at m p m (Nat.le_refl _) k hk]
    by_cases h1 : k < m
    · rw [if_pos h1, hamP_lo h1]
    · rw [if_neg h1, if_pos (by omega), hamP_hi (by omega) hk]
  · rw [List.getElem?_eq_none (by rw [hamS_len]; omega), List.getElem?_eq_none (by rw [hamP_len]; omega)]

/-- A field whose parts are replaced one by one. -/
structure FldPut (e1 e2 e : Nat) (W w : World) (Bf : Nat) (dim : Int) (g n cap : Nat) (xs : List (List MonZ)) (fs : List Nat) : Prop where
  own : OwnMss e1 e2 e w (.slice (some ⟨g, 0, none⟩) n cap) xs fs
  new : ∀ b ∈ fs, W.heap.size ≤ b ∧ b ≠ Bf
  below : Below W.heap.size W w
  c0 : w.cell? ⟨Bf, 0, none⟩ = some (.int .i64 dim)
  c1 : w.cell? ⟨Bf, 1, none⟩ = some (.slice (some ⟨g, 0, none⟩) n cap)
  hB : W.heap.size ≤ Bf
theorem FldPut.put {e1 e2 e : Nat} {W w wa : World} {Bf : Nat} {dim : Int} {g n cap : Nat} {xs : List (List MonZ)} {fs f : List Nat} {k : Nat} {x y : List MonZ} {u : Value} (h : FldPut e1 e2 e W w Bf dim g n cap xs fs) (hx : xs[k]? = some x)
    (hp : OwnMs e2 e wa u y f) (hf : ∀ b ∈ f, w.heap.size ≤ b) (hq : Below w.heap.size w wa) :
    (∃ c, wa.cell? ⟨g, k, none⟩ = some c) ∧ wa.frozen? ⟨g, k, none⟩ = false ∧ ∃ fp', FldPut e1 e2 e W (wa.setCell ⟨g, k, none⟩ u) Bf dim g n cap (xs.set k y) fp' := by
  have hwa := ownMss_only h.own (Only.of_below (fp := []) hq) (by simp)
  have hlt := ownMss_lt h.own
  have hBl := World.block_lt_of_cell? _ _ h.c0
  simp only at hBl
  obtain ⟨q1, q2, q3, fp', q4, q5⟩ := ownS_replace (El := OElMss e2 e) (fun w w' u x f g h ho hd => oelMss_only h ho hd) hwa hx ⟨u, rfl, hp⟩ (fun b hb hm => by have := hf b hb; have := hlt b hm; omega) (ownMs_nodup hp)
  have hgB : Bf ≠ g := fun e => (h.new g q3).2 e.symm
  have hSt : Only [g] wa (wa.setCell ⟨g, k, none⟩ u) := (Only.refl _ _).setCell (by simp) _
  refine ⟨q1, q2, fp', ⟨q4, fun b hb => ?_, ?_, cell_only hSt (by simpa using hgB) (cell_below hq h.c0), cell_only hSt (by simpa using hgB) (cell_below hq h.c1), h.hB⟩⟩
  · rcases q5 b hb with hb | hb
    · exact h.new b hb
    · have := hf b hb
      have := h.below.size
      exact ⟨by omega, by omega⟩
  · exact (h.below.trans (hq.mono h.below.size)).setCell (h.new g q3).1 _

theorem ownEls_nils {e2 e : Nat} {w : World} : ∀ N : Nat, OwnEls (OElMss e2 e) w (List.replicate N [.slice none 0 0]) (List.replicate N []) []
  | 0 => rfl
  | N + 1 => ⟨[], [], rfl, ⟨_, rfl, [], [], World.ownsRow_nil _ _ _ _, by simp, rfl, rfl, by simp⟩, ownEls_nils N⟩

set_option maxRecDepth 100000 in
set_option maxHeartbeats 6400000 in
theorem ham_any (vp : Value) (p : List MonZ) (dim : Int) (w : World) (hp : RdMs w vp p) (hI : I64 dim) (hfit : ∀ m ∈ p, Fit_Mon m) :
    Calls Tryz.prog 8 #[vp, .int .i64 dim] w (Gives2 (fun w' v fp => OwnFld 24 56 3 w' v (hamF p dim) fp) (hamB p dim) w) := by
  obtain ⟨hlo, hhi⟩ := hI
  have hb0 : Below w.heap.size w (w.alloc (.cells #[.int .i64 0, .slice none 0 0] 30)) := (Below.refl _ _).alloc (Nat.le_refl _) _
  have hnone : ∀ W, Below w.heap.size w W → hamB p dim = false → Gives2 (fun w' v fp => OwnFld 24 56 3 w' v (hamF p dim) fp) (hamB p dim) w (.returned (.tuple #[.agg #[.int .i64 0, .slice none 0 0], .bool false])) W := by
    intro W hW hd
    rw [hd]
    refine ⟨_, [], rfl, ?_, by simp, hW⟩
    rw [hamF, hd]
    exact ⟨_, rfl, ⟨(by decide : (-9223372036854775808 : Int) ≤ 0), (by decide : (0 : Int) ≤ 9223372036854775807)⟩, [], [], World.ownsRow_nil _ _ _ _, by simp, rfl, rfl, by simp⟩
  by_cases hev : dim.tmod 2 = 0
  case neg =>
    have HN := Lib.hid (fun W hW => hnone W hW (by simp [hamB, hev]))
    have hbb : (dim.tmod 2 != 0) = true := by simpa using hev
    clear hnone hev
    go_enter Tryz.func8, Tryz.ntmps8
    go_wp2
    exact bodyPost_ret (v := .tuple #[.agg #[.int .i64 0, .slice none 0 0], .bool false]) (by simp [results, Tryz.results8, go_sem]) rfl (HN.out _ hb0)
  case pos =>
  have hbb : (dim.tmod 2 != 0) = false := by simpa using hev
  obtain ⟨W0, hW0⟩ : ∃ W, W = w.alloc (.cells #[.int .i64 0, .slice none 0 0] 30) := ⟨_, rfl⟩
  rw [← hW0] at hb0
  have hr := box_at (w := w) (e := 30) (a := .int .i64 0) (b := .slice none 0 0) (W := W0) (hW0 ▸ Below.refl _ _)
  have hsz : w.heap.size < W0.heap.size := by rw [hW0]; simp
  have HW0 := Lib.hid hW0
  clear hW0
  obtain ⟨ad, len, cap, rfl, hl, hlc, hcm, h'⟩ := rdS_open hp
  cases hok : polyOkB p dim with
  | false =>
    have HN := Lib.hid (fun W hW => hnone W hW (by simp [hamB, hev, hok]))
    clear hnone hev hl
    go_enter Tryz.func8, Tryz.ntmps8
    go_wp2_with fail
    rw [← HW0.out]
    refine (polyOk_eq _ p dim _ (rdMs_mono hb0 h') hfit hok).mono ?_
    rintro e w1 ⟨rfl, hb1⟩
    obtain ⟨q0, q1, q2, q3⟩ := hr
    have hc0 := cell_below hb1 q0
    have hc1 := cell_below hb1 q1
    have hf0 := (hb1.frozen (p := ⟨w.heap.size, 0, none⟩) hsz).trans q2
    have hf1 := (hb1.frozen (p := ⟨w.heap.size, 1, none⟩) hsz).trans q3
    have HB := Lib.hid (hb0.trans (hb1.mono hb0.size))
    clear q0 q1 q2 q3 hb0 hb1 hp h'
    go_wp2
    exact bodyPost_ret (v := .tuple #[.agg #[.int .i64 0, .slice none 0 0], .bool false]) (by simp [results, Tryz.results8, go_sem, hc0, hc1]) rfl (HN.out _ ((HB.out.setCell (Nat.le_refl _) _).setCell (Nat.le_refl _) _))
  | true =>
    obtain ⟨N, m, rfl, hN, hm1, hm3, hq, hqt⟩ := ham_dim hev hok
    obtain ⟨_, _, p12, pfine⟩ := polyOk_facts hok
    have hE : hamF p (N : Int) = ⟨(N : Int), hamP m p⟩ := by
      rw [hamF, if_pos (by simp [hamB, hev, hok])]
      congr 2
      omega
    have HE := Lib.hid hE
    have HEB := Lib.hid (show hamB p (N : Int) = true by simp [hamB, hev, hok])
    have HP12 := Lib.hid p12
    have HPF := Lib.hid pfine
    have HN := Lib.hid hN
    have HQ := Lib.hid hq
    have hN6 : N ≤ 6 := by omega
    have hN1 : 1 ≤ N := by omega
    have hmN : m ≤ N := by omega
    have hbb2 : ((N : Int) % 2 != 0) = false := by
      have : (N : Int) % 2 = 0 := by omega
      simpa using this
    clear hbb
    clear hnone hev hl hE p12 pfine hN hqt hq
    obtain ⟨j1, hj1, hw0, hw1, hw2⟩ := info_parts Tryz.info_mons
    have hib : j1.bytes * N ≤ 281474976710656 := by rw [hw2]; omega
    go_enter Tryz.func8, Tryz.ntmps8
    go_wp2_with fail
    rw [← HW0.out]
    refine (polyOk_eq _ p (N : Int) _ (rdMs_mono hb0 h') hfit hok).mono ?_
    rintro e w1 ⟨rfl, hb1⟩
    obtain ⟨q0, q1, q2, q3⟩ := hr
    have hc0 := cell_below hb1 q0
    have hc1 := cell_below hb1 q1
    have hf0 := (hb1.frozen (p := ⟨w.heap.size, 0, none⟩) hsz).trans q2
    have hf1 := (hb1.frozen (p := ⟨w.heap.size, 1, none⟩) hsz).trans q3
    have hbw1 := hb0.trans (hb1.mono hb0.size)
    have hsz1 : w.heap.size < w1.heap.size := by have := hb1.size; omega
    have HR := Lib.hid (show _ ∧ _ ∧ _ ∧ _ from ⟨hc0, hc1, hf0, hf1⟩)
    have HBW1 := Lib.hid hbw1
    have hqq : (N : Int) / 2 = (m : Int) := HQ.out
    clear q0 q1 q2 q3 hb0 hb1 hp hc0 hc1 hf0 hf1 hbw1 hok
    go_wp2_with (first
      | (at_make; refine wpList_make_full _ rfl _ _ 28 rfl 0 24 j1 (.slice none 0 0) 1 Tryz.underlying28 hj1 hw0 hw1 .i64 .i64 _ _ N rfl rfl rfl rfl hib (by unfold maxLen; omega) (Nat.zero_le _) ?_; intro w2 hown1 hgrow1))
    have hm0 : (madeCells (Value.slice none 0 0).cells (N * 1)).toList = List.replicate N (.slice none 0 0) := by
      rw [Nat.mul_one]; exact toList_madeCells_one _ _
    rw [hm0] at hown1
    have hbl : Below w1.heap.size w1 w2 := (Below.refl _ _).grown hgrow1 (Nat.le_refl _) (fun k hk => by cases hk)
    obtain ⟨W3, hW3⟩ : ∃ W, W = w2.alloc (.cells #[.int .i64 (N : Int), .slice (some ⟨w1.heap.size, 0, none⟩) N N] 30) := ⟨_, rfl⟩
    have hb3 : Below w2.heap.size w2 W3 := hW3 ▸ (Below.refl _ _).alloc (Nat.le_refl _) _
    have hg2 : w1.heap.size < w2.heap.size := (hown1.lt _ rfl).2
    have I0 := Lib.hid (show FldPut 24 56 3 w1 W3 w2.heap.size (N : Int) w1.heap.size N N (hamS m p 0) [w1.heap.size] from by
      refine ⟨⟨(List.replicate N [.slice none 0 0]), [], ?_, by simp, ?_, rfl, by simp⟩, by simp; omega, hbl.trans (hb3.mono hbl.size), by rw [hW3]; simp, by rw [hW3]; simp, hbl.size⟩
      · rw [hamS_len, ← HN.out]
        have := ownsRow_only hown1 (Only.of_below (fp := []) hb3) (by simp)
        rw [show (List.replicate N [Value.slice none 0 0]).flatten = List.replicate N (Value.slice none 0 0) by simp]
        exact this
      · rw [hamS, ← HN.out]
        exact ownEls_nils N)
    have HW3 := Lib.hid hW3
    have HB13 := Lib.hid (hbl.trans (hb3.mono hbl.size))
    clear hm0 hgrow1 hown1 hbl hb3 hW3 hib
    rw [← HW3.out]
    go_loopw [26] (fun i wr => ∃ (k : Nat) (fs : List Nat), k ≤ m ∧ i = .int .i64 k ∧ FldPut 24 56 3 w1 wr w2.heap.size (N : Int) w1.heap.size N N (hamS m p k) fs) (fun i _ => m - (intOf i).toNat)
    case atStart => exact ⟨0, _, Nat.zero_le _, rfl, I0.out⟩
    case round =>
      obtain ⟨wk, rfl⟩ : ∃ W, W = wr := ⟨_, rfl⟩
      obtain ⟨k, fs0, hk, rfl, hI⟩ := hrel
      clear I0
      by_cases hlt : k < m
      case neg =>
        obtain rfl : k = m := by omega
        rw [hamS_done] at hI
        have hi0 := hI.c0
        have hi1 := hI.c1
        have hc0 := cell_below hI.below HR.out.1
        have hc1 := cell_below hI.below HR.out.2.1
        have hf0 := (hI.below.frozen (p := ⟨w.heap.size, 0, none⟩) hsz1).trans HR.out.2.2.1
        have hf1 := (hI.below.frozen (p := ⟨w.heap.size, 1, none⟩) hsz1).trans HR.out.2.2.2
        have HI := Lib.hid hI
        have HBK := Lib.hid (HBW1.out.trans (hI.below.mono HBW1.out.size))
        clear hI
        go_wp2
        refine bodyPost_ret (v := .tuple #[.agg #[.int .i64 (N : Int), .slice (some ⟨w1.heap.size, 0, none⟩) N N], .bool true]) (by simp [results, Tryz.results8, go_sem, hc0, hc1]) rfl ?_
        rw [HEB.out]
        have hO2 : Only [w.heap.size] wk ((wk.setCell ⟨w.heap.size, 0, none⟩ (.int .i64 (N : Int))).setCell ⟨w.heap.size, 1, none⟩ (.slice (some ⟨w1.heap.size, 0, none⟩) N N)) := ((Only.refl _ _).setCell (by simp) _).setCell (by simp) _
        exact ⟨_, fs0, rfl, by rw [HE.out]; exact ⟨_, rfl, ⟨by show (-9223372036854775808 : Int) ≤ (N : Int); omega, by show (N : Int) ≤ 9223372036854775807; omega⟩, ownMss_only HI.out.own hO2 (fun b hb hm => by have := HI.out.new b hb; simp at hm; omega)⟩, fun b hb => by { have := HI.out.new b hb; omega }, (HBK.out.setCell (Nat.le_refl _) _).setCell (Nat.le_refl _) _⟩
      have hNm := HN.out
      have hxk := hamS_at m p k hk k (by omega)
      have hi1 := hI.c1
      have HI := Lib.hid hI
      have hbk := HBW1.out.trans (hI.below.mono HBW1.out.size)
      have hdr : Below wk.heap.size wk wk.drew := (Below.refl _ _).drew
      have CL := Lib.hid (fun (nz : Int) (hz : nz = (m : Int) + k) => partial_at (.slice ad len cap) p (m + k) N nz wk.drew (by rw [hz]; simp) (rdMs_mono (hbk.trans (hdr.mono hbk.size)) h') HP12.out HPF.out hN6 (by omega))
      have um2 : IntKind.i64.wrap ((m : Int) + k) = (m : Int) + k := IntWalk.i64_in _ (by omega)
      have um3 : (0 : Int) ≤ (m : Int) + k := by omega
      have um4 : (m : Int) + k < N := by omega
      have um5 : ((m : Int) + k).toNat = m + k := by omega
      have hkN : k < N := by omega
      have HGX := Lib.hid hxk
      clear hI hxk hbk hNm
      go_wp2
      go_region_law (go_simp; first | (go_at_call 45; (with_reducible refine (CL.out _ rfl).mono ?_); rintro e wa ⟨p1, fp1, rfl, hop1, hfp1, hba⟩; have hra := hdr.trans (hba.mono hdr.size); have hi1a := cell_below hra hi1; obtain ⟨adq, lq, capq, rfl⟩ := ownMs_open hop1; obtain ⟨⟨cc, hcc⟩, hff, fp', hP⟩ := HI.out.put HGX.out hop1 (fun b hb => (by have h1 := hfp1 b hb; have h2 := hdr.size; omega)) hra; have HPP := Lib.hid hP; clear hop1 hfp1 hba hra hP))
      all_goals (
        obtain ⟨wm, hwm⟩ : ∃ W, W = wa.setCell ⟨w1.heap.size, k, none⟩ (.slice adq lq capq) := ⟨_, rfl⟩
        rw [← hwm] at HPP ⊢
        have hxk2 : ((hamS m p k).set k (partL (m + k) 1 p))[m + k]? = some [] := by
          rw [List.getElem?_set_ne (by omega), hamS_at m p k hk (m + k) (by have := HN.out; omega), if_neg (by omega), if_neg (by omega)]
        have HGX2 := Lib.hid hxk2
        have hj1 := HPP.out.c1
        have hbm := HBW1.out.trans (HPP.out.below.mono HBW1.out.size)
        have hdm : Below wm.heap.size wm wm.drew := (Below.refl _ _).drew
        have CM := Lib.hid (partial_any (.slice ad len cap) p k N wm.drew (rdMs_mono (hbm.trans (hdm.mono hbm.size)) h') HP12.out HPF.out hN6 (by omega))
        clear hwm hcc hff hxk2 hbm hi1 hi1a CL
        have hp2l : (partL k 1 p).length ≤ 12 := partL_le k 1 HP12.out
        have hp2m : ∀ m ∈ partL k 1 p, m.pows.length = N := partL_pows (n := N) (fun m hm => (HPF.out m hm).2.1)
        have HPL := Lib.hid hp2l
        have HPW := Lib.hid hp2m
        have hfin : ((hamS m p k).set k (partL (m + k) 1 p)).set (m + k) (scL (-1) (partL k 1 p)) = hamS m p (k + 1) := by rw [scL_part, hamS]
        have HFIN := Lib.hid hfin
        clear hp2l hp2m hfin
        go_wp2
        go_region_law (go_simp; first | (go_at_call 45; (with_reducible refine (CM.out).mono ?_); rintro e wb ⟨p2, fp2, rfl, hop2, hfp2, hbb⟩; have hrb := hdm.trans (hbb.mono hdm.size); have hj1b := cell_below hrb hj1; have HOP2 := Lib.hid hop2; have HRB := Lib.hid hrb; clear hop2 hfp2 hbb hrb) | (go_at_call 46; (with_reducible refine (scaled_any _ (partL k 1 p) (-1) N _ (ownMs_rd HOP2.out) HPL.out HPW.out hN1 hN6).mono ?_); rintro e wc ⟨p3, fp3, rfl, hop3, hfp3, hbc⟩; have hrc := HRB.out.trans (hbc.mono HRB.out.size); have hj1c := cell_below hrc hj1; obtain ⟨ad3, l3, cap3, rfl⟩ := ownMs_open hop3; obtain ⟨⟨cc, hcc⟩, hff, fp4, hP⟩ := HPP.out.put HGX2.out hop3 (fun b hb => (by have h1 := hfp3 b hb; have h2 := HRB.out.size; omega)) hrc; have HP2 := Lib.hid hP; clear hop3 hfp3 hbc hrc hP))
        all_goals (
          go_wp2
          go_roundw
          case rel => exact ⟨k + 1, fp4, by omega, by go_num, by rw [← HFIN.out]; exact HP2.out⟩
          case measure => simp [intOf]; omega))
end Go.Proofs.YtbcjhpgkodeoeaaGreatDoor

/- Appending zeros to a row of the call's own. Conditions: none. -/
namespace Go.Proofs.YtbcjhpgkodeoeaaGreatDoor
open Go.RowKit

theorem zeroCells_reps (z : Value) (hz : z.cells = #[z]) (n : Nat) : (Builtin.zeroCells z.cells n).toList = List.replicate n z := by
  rw [hz]
  simp [Builtin.zeroCells]
  apply List.ext_getElem
  · simp
  · intro i h1 h2
    simp [Nat.mod_one]

theorem run_zeros_room {P : Program} (w : World) (t tn ty e : TypeId) (i : TypeInfo) (z : Value) (kq kn : IntKind) (ht : P.underlying t = some (.slice e)) (htn : P.underlying tn = some (.int kn)) (hi : P.info? e = some i) (hz : i.zero = some z)
    (hs : i.size = 1) (hzc : z.cells = #[z]) (h1 : z.oneCell' = true) (g sLen sCap : Nat) (cur : Array Value) (hg : w.heap[g]? = some (.cells cur e (0, 0))) (k : Nat) (h0 : 0 < k) (hroom : sLen + k ≤ sCap) (hfit : sLen + k ≤ cur.size)
    (h63 : (k : Int) ≤ 9223372036854775807) (h48 : k * i.bytes ≤ 281474976710656) :
    (Builtin.append_ #[t, tn] ty #[.slice (some ⟨g, 0, none⟩) sLen sCap, .int kq k]).run P w =
      .ok (.slice (some ⟨g, 0, none⟩) (sLen + k) sCap) (w.setRow g (cur.toList.take sLen ++ List.replicate k z ++ cur.toList.drop (sLen + k)).toArray) := by
  have hk : k ≠ 0 := by omega
  have hw : IntKind.i64.wrap (k : Int) = k := by rw [IntKind.wrap_i64]; omega
  have h48i : ¬ (281474976710656 < (k : Int) * (i.bytes : Int)) := by
    rw [← Int.natCast_mul]
    omega
  have hneg : ¬ ((k : Int) < 0) := by omega
  have hst := run_storeCells_at P g (sLen * i.size) e (List.replicate k z) 0 cur w hg (by rw [hs]; simpa using hfit) (by intro u hu; rw [List.eq_of_mem_replicate hu]; exact h1)
  simp only [Nat.add_zero, hs, Nat.mul_one, List.length_replicate] at hst
  simp [Builtin.append_, run_underlying ht, run_underlying htn, sizeOf, typeInfo, zeroValue, hi, hz, asInt, asIntOf, hw, hk, hneg, h48i, hroom, hs, zeroCells_reps z hzc, Addr.add_lit, hst]

/-- Zeros appended to a row of the call's own, of one-cell elements. -/
theorem run_zeros_own {P : Program} (w : World) (t tn ty e : TypeId) (i : TypeInfo) (z : Value) (kq kn : IntKind) (ht : P.underlying t = some (.slice e)) (htn : P.underlying tn = some (.int kn)) (hi : P.info? e = some i) (hz : i.zero = some z)
    (hs : i.size = 1) (hb8 : i.bytes = 8) (hzc : z.cells = #[z]) (h1 : z.oneCell' = true) (g n cap : Nat) (xs : List Value) (hown : w.ownsRow 0 e 1 (.slice (some ⟨g, 0, none⟩) n cap) n xs) (k : Nat) (h0 : 0 < k) (hsm : n + k ≤ 1048576) :
    ∃ gg cap' w', (Builtin.append_ #[t, tn] ty #[.slice (some ⟨g, 0, none⟩) n cap, .int kq k]).run P w = .ok (.slice (some ⟨gg, 0, none⟩) (n + k) cap') w' ∧ w'.ownsRow 0 e 1 (.slice (some ⟨gg, 0, none⟩) (n + k) cap') (n + k) (xs ++ List.replicate k z) ∧
      w.grownBy w' (some g) ∧ (g = gg ∨ gg = w.heap.size) ∧ gg < w'.heap.size := by
  have hlen : (xs ++ List.replicate k z).length = (n + k) * 1 := by rw [List.length_append, hown.1, List.length_replicate, Nat.mul_one, Nat.mul_one]
  obtain ⟨hxl, ⟨hv, _⟩ | ⟨g', cap', cur, hv, _, hg, hnc, hcm, hcs, htake⟩⟩ := hown
  · cases hv
  · simp only [Value.slice.injEq, Option.some.injEq, Addr.mk.injEq, and_true, true_and] at hv
    obtain ⟨rfl, rfl⟩ := hv
    rw [Nat.mul_one] at htake hcs hxl
    by_cases hroom : n + k ≤ cap
    · have hr := run_zeros_room (P := P) w t tn ty e i z kq kn ht htn hi hz hs hzc h1 g n cap cur hg k h0 hroom (by omega) (by omega) (by rw [hb8]; omega)
      refine ⟨g, cap, _, hr, ⟨hlen, .inr ⟨g, cap, _, rfl, Nat.zero_le _, setRow_heap w g cur _ e _ hg, hroom, hcm, ?_, ?_⟩⟩, ⟨rfl, rfl, rfl, by simp, fun q _ hq => setRow_other w g q _ (fun e => hq (by simp [e]))⟩, .inl rfl, ?_⟩
      · simp only [List.size_toArray, List.length_append, List.length_take, List.length_drop, Array.length_toList, List.length_replicate]
        omega
      · rw [htake, ← hlen]
        exact List.take_left
      · have := (Array.getElem?_eq_some_iff.1 hg).1
        simpa using this
    · have holds : ∀ j u, xs[j]? = some u → w.cell? ((⟨g, 0, none⟩ : Addr).add j) = some u := (show w.ownsRow 0 e 1 (.slice (some ⟨g, 0, none⟩) n cap) n xs from ⟨by omega, .inr ⟨g, cap, cur, rfl, Nat.zero_le _, hg, hnc, hcm, by omega, by rw [Nat.mul_one]; exact htake⟩⟩).cells (g := g) rfl
      have hold := run_firstCells_some (P := P) w.drew i.size n ⟨g, 0, none⟩ n cap xs (by rw [hs]; omega) (fun j u hj => by have := holds j u hj; simpa using this)
      have hr := Lib.run_append_grow_zeros (P := P) w t tn ty e i z kq kn ht htn hi hz (some ⟨g, 0, none⟩) n cap xs hold k h0 (by omega) (by omega) (by omega) (by rw [hb8]; omega) (growslice_fits (by omega) (by rw [hb8]; omega))
      have hcm2 := grownCap_le_maxLen w (n + k) cap e (by unfold maxLen; omega)
      have hge := grownCap_ge w (n + k) cap e
      refine ⟨w.heap.size, _, _, hr, ⟨hlen, .inr ⟨w.heap.size, _, _, rfl, Nat.zero_le _, heap_alloc_new w.drew _, hge, hcm2, ?_, ?_⟩⟩, ⟨rfl, rfl, rfl, by simp, fun q hq _ => Below.heap_alloc w.drew _ q hq⟩, .inr rfl, by simp⟩
      · rw [hzc]
        simp only [Array.size_append, List.size_toArray, size_zeroCells, hxl, List.size_toArray, List.length_singleton, Nat.mul_one]
        omega
      · simp only [Array.toList_append, zeroCells_reps z hzc, List.append_assoc]
        rw [← List.append_assoc, ← hlen]
        exact List.take_left

/-- .. at a step of a walk. -/
theorem wp_zeros_own {P : Program} (w : World) {o : Oper} {a : Act} {K : Act → World → Prop} {Q : Exit → Act → World → Prop} (s x : Operand) (t tn : TypeId)
    (ho : o.op = .call { callee := .builtin .append, args := #[s, x], argTypes := #[t, tn] })
    (e : TypeId) (i : TypeInfo) (z : Value) (kq kn : IntKind) (ht : P.underlying t = some (.slice e)) (htn : P.underlying tn = some (.int kn)) (hi : P.info? e = some i) (hz : i.zero = some z)
    (hs : i.size = 1) (hb8 : i.bytes = 8) (hzc : z.cells = #[z]) (h1 : z.oneCell' = true) (g n cap : Nat) (xs : List Value) (hse : a.eval s = .slice (some ⟨g, 0, none⟩) n cap) (hown : w.ownsRow 0 e 1 (.slice (some ⟨g, 0, none⟩) n cap) n xs)
    (k : Nat) (hx : a.eval x = .int kq k) (h0 : 0 < k) (hsm : n + k ≤ 1048576) (N : Nat) (hN : n + k = N) (H : Nat) (hH : w.heap.size = H)
    (h : ∀ gg cap' w', w'.ownsRow 0 e 1 (.slice (some ⟨gg, 0, none⟩) N cap') N (xs ++ List.replicate k z) → w.grownBy w' (some g) → (g = gg ∨ gg = H) → gg < w'.heap.size → K (a.put o.dst (.slice (some ⟨gg, 0, none⟩) N cap')) w') : o.wp P a w K Q := by
  subst hN
  obtain ⟨gg, cap', w', hr, h2, h3, h4, h5⟩ := run_zeros_own (P := P) w t tn o.type e i z kq kn ht htn hi hz hs hb8 hzc h1 g n cap xs hown k h0 hsm
  exact Lib.wp_append_run w s x t tn ho _ _ hse hx _ _ hr (h gg cap' w' h2 h3 (hH ▸ h4) h5)

theorem step_zeros_own {P : Program} (w : World) {ops : Array Oper} {o : Oper} {a : Act} {K : Act → World → Prop} {Q : Exit → Act → World → Prop} {E : Prop} (hgd : o.guard = none) (s x : Operand) (t tn : TypeId)
    (ho : o.op = .call { callee := .builtin .append, args := #[s, x], argTypes := #[t, tn] })
    (e : TypeId) (i : TypeInfo) (z : Value) (kq kn : IntKind) (ht : P.underlying t = some (.slice e)) (htn : P.underlying tn = some (.int kn)) (hi : P.info? e = some i) (hz : i.zero = some z)
    (hs : i.size = 1) (hb8 : i.bytes = 8) (hzc : z.cells = #[z]) (h1 : z.oneCell' = true) (g n cap : Nat) (xs : List Value) (hse : a.eval s = .slice (some ⟨g, 0, none⟩) n cap) (hown : w.ownsRow 0 e 1 (.slice (some ⟨g, 0, none⟩) n cap) n xs)
    (k : Nat) (hx : a.eval x = .int kq k) (h0 : 0 < k) (hsm : n + k ≤ 1048576) (N : Nat) (hN : n + k = N) (H : Nat) (hH : w.heap.size = H)
    (h : ∀ gg cap' w', w'.ownsRow 0 e 1 (.slice (some ⟨gg, 0, none⟩) N cap') N (xs ++ List.replicate k z) → w.grownBy w' (some g) → (g = gg ∨ gg = H) → gg < w'.heap.size → K (a.put o.dst (.slice (some ⟨gg, 0, none⟩) N cap')) w') :
    if Region.wanted o (yielded ops a.tmps) = true then Oper.wp P o a w K Q else E := by
  have hw : Region.wanted o (yielded ops a.tmps) = true := by simp [Region.wanted, hgd]
  rw [if_pos hw]
  exact wp_zeros_own w s x t tn ho e i z kq kn ht htn hi hz hs hb8 hzc h1 g n cap xs hse hown k hx h0 hsm N hN H hH h
end Go.Proofs.YtbcjhpgkodeoeaaGreatDoor
