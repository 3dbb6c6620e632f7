/- RotorField of the reference. Conditions: none. -/
import Derived.Test.YtbcjhpgkodeoeaaGreatDoorN15
set_option linter.unusedSimpArgs false
set_option linter.unusedVariables false

namespace Go.Proofs.YtbcjhpgkodeoeaaGreatDoor
open Go.RowKit Go.Sort

/-- The monomial that a round makes: its powers, its box, and the row that it is appended to. -/
theorem rot_made2 {e2 e f : Nat} (wk : World) (k : Nat) (ps : List Int) (pc lc : Array Value) (x : Int) (hps : ps.length = 3 ∧ ∀ z ∈ ps, I64 z) (hpc : pc = (ps.map (Value.int .i64)).toArray) (hx0 : ¬ x % 1000000271 = 0) (hpk : ps = [1, 1, 1].set k 0) :
    (((((wk.alloc (.cells #[] e2)).alloc (.cells lc e)).alloc (.cells pc e)).alloc (.cells #[.int .i64 (x % 1000000271), .slice (some ⟨wk.heap.size + 1 + 1, 0, none⟩) 3 3] e2)).alloc (.cells #[.int .i64 (x % 1000000271), .slice (some ⟨wk.heap.size + 1 + 1, 0, none⟩) 3 3] e2)).ownsRow 0 e2 2 (.slice (some ⟨wk.heap.size, 0, none⟩) 0 0) 0 [] ∧
    (((((wk.alloc (.cells #[] e2)).alloc (.cells lc e)).alloc (.cells pc e)).alloc (.cells #[.int .i64 (x % 1000000271), .slice (some ⟨wk.heap.size + 1 + 1, 0, none⟩) 3 3] e2)).alloc (.cells #[.int .i64 (x % 1000000271), .slice (some ⟨wk.heap.size + 1 + 1, 0, none⟩) 3 3] e2)).heap[wk.heap.size + 1 + 1 + 1 + 1]? = some (.cells #[.int .i64 (x % 1000000271), .slice (some ⟨wk.heap.size + 1 + 1, 0, none⟩) 3 3] e2 (0, 0)) ∧
    ∀ (w6 : World) (g6 cap6 : Nat), w6.ownsRow 0 e2 2 (.slice (some ⟨g6, 0, none⟩) (0 + 1) cap6) (0 + 1) ([] ++ [.int .i64 (x % 1000000271), .slice (some ⟨wk.heap.size + 1 + 1, 0, none⟩) 3 3]) →
      (((((wk.alloc (.cells #[] e2)).alloc (.cells lc e)).alloc (.cells pc e)).alloc (.cells #[.int .i64 (x % 1000000271), .slice (some ⟨wk.heap.size + 1 + 1, 0, none⟩) 3 3] e2)).alloc (.cells #[.int .i64 (x % 1000000271), .slice (some ⟨wk.heap.size + 1 + 1, 0, none⟩) 3 3] e2)).grownBy w6 (some wk.heap.size) → (wk.heap.size = g6 ∨ g6 = wk.heap.size + 5) →
      ∃ f6, OwnMs e2 e w6 (.slice (some ⟨g6, 0, none⟩) 1 cap6) (rotM k x) f6 ∧ (∀ b ∈ f6, wk.heap.size ≤ b) ∧ Below wk.heap.size wk w6 := by
  obtain ⟨A0, hA0⟩ : ∃ W, W = wk.alloc (.cells #[] e2) := ⟨_, rfl⟩
  obtain ⟨A1, hA1⟩ : ∃ W, W = A0.alloc (.cells lc e) := ⟨_, rfl⟩
  obtain ⟨A2, hA2⟩ : ∃ W, W = A1.alloc (.cells pc e) := ⟨_, rfl⟩
  obtain ⟨A3, hA3⟩ : ∃ W, W = A2.alloc (.cells #[.int .i64 (x % 1000000271), .slice (some ⟨wk.heap.size + 1 + 1, 0, none⟩) 3 3] e2) := ⟨_, rfl⟩
  obtain ⟨A4, hA4⟩ : ∃ W, W = A3.alloc (.cells #[.int .i64 (x % 1000000271), .slice (some ⟨wk.heap.size + 1 + 1, 0, none⟩) 3 3] e2) := ⟨_, rfl⟩
  rw [← hA0, ← hA1, ← hA2, ← hA3, ← hA4]
  have s0 : A0.heap.size = wk.heap.size + 1 := by rw [hA0]; simp
  have s1 : A1.heap.size = wk.heap.size + 1 + 1 := by rw [hA1, ← s0]; simp
  have s2 : A2.heap.size = wk.heap.size + 1 + 1 + 1 := by rw [hA2, ← s1]; simp
  have s3 : A3.heap.size = wk.heap.size + 1 + 1 + 1 + 1 := by rw [hA3, ← s2]; simp
  have b0 : Below wk.heap.size wk A0 := hA0 ▸ (Below.refl _ _).alloc (Nat.le_refl _) _
  have b01 : Below A0.heap.size A0 A1 := hA1 ▸ (Below.refl _ _).alloc (Nat.le_refl _) _
  have b1 : Below wk.heap.size wk A1 := b0.trans (b01.mono b0.size)
  have b12 : Below A1.heap.size A1 A2 := hA2 ▸ (Below.refl _ _).alloc (Nat.le_refl _) _
  have b23 : Below A2.heap.size A2 A3 := hA3 ▸ (Below.refl _ _).alloc (Nat.le_refl _) _
  have b34 : Below A3.heap.size A3 A4 := hA4 ▸ (Below.refl _ _).alloc (Nat.le_refl _) _
  have b13 := b12.trans (b23.mono b12.size)
  have b14 := b13.trans (b34.mono b13.size)
  have r1 : A1.ownsRow 0 e2 2 (.slice (some ⟨wk.heap.size, 0, none⟩) 0 0) 0 [] := by
    refine ownsRow_only ?_ (Only.of_below (fp := []) b01) (by simp)
    rw [hA0]; simpa using World.ownsRow_lit (base := 0) (e := e2) (size := 2) wk #[] 0 (Nat.zero_le _) (Nat.zero_le _) rfl
  have p2 : OwnI e A2 (.slice (some ⟨wk.heap.size + 1 + 1, 0, none⟩) 3 3) ps [wk.heap.size + 1 + 1] := by
    refine ⟨⟨by simp [hps.1], .inr ⟨wk.heap.size + 1 + 1, 3, pc, by rw [hps.1], Nat.zero_le _, by rw [hA2, ← s1]; exact heap_alloc_new A1 _, by rw [hps.1]; exact Nat.le_refl _, by unfold maxLen; omega, by rw [hpc]; simp [hps.1], by rw [hpc, hps.1]; exact List.take_of_length_le (by simp [hps.1])⟩⟩, rfl, hps.2⟩
  have p3 := ownI_only p2 (Only.of_below (fp := []) b23) (by simp)
  refine ⟨ownsRow_only r1 (Only.of_below (fp := []) b14) (by simp), by rw [← s3, hA4]; exact heap_alloc_new A3 _, fun w6 g6 cap6 hown hg hat => ?_⟩
  obtain ⟨fp', hP, hfp, hO⟩ := ownS_push2 (El := OElMon e) (w := A3) (w1 := A4) (w2 := w6) (v := .slice (some ⟨wk.heap.size, 0, none⟩) 0 0) (v' := .slice (some ⟨g6, 0, none⟩) (0 + 1) cap6) (xs := []) (x := ⟨x % 1000000271, ps⟩) (us := []) (fs := []) (f := [wk.heap.size + 1 + 1]) (n := 0) (fun w w' u x f g h ho hd => oelMon_only h ho hd)
    (by simp) rfl (by simp [Value.ownBlock]) ⟨_, rfl, ⟨by show -9223372036854775808 ≤ x % 1000000271; omega, by show x % 1000000271 ≤ 9223372036854775807; omega⟩, p3⟩ rfl (by simp [Value.ownBlock]; omega) (by simp) (ownI_lt p3) (by simp) rfl b34 hown hg (fun b hb => by
      simp [Value.ownBlock] at hb
      subst hb
      rcases hat with hat | hat
      · left; rw [← hat]; rfl
      · right; rw [hat, hA4]; simp; omega)
  refine ⟨fp', ?_, fun b hb => ?_, ?_⟩
  · rw [rotM, if_neg hx0, ← hpk]
    exact hP
  · rcases hfp b hb with h | h | h
    · simp [Value.ownBlock] at h; omega
    · simp at h; omega
    · have := b14.size
      omega
  · exact (b1.trans (b13.mono b1.size)).trans (hO.below (by omega) (by simp [Value.ownBlock]))

theorem sTimes_one (x : Int) (w : World) : Calls Tryz.prog 23 #[.int .i64 x, .int .i64 1] w fun e w' => e = .returned (.int .i64 (x % 1000000271)) ∧ w = w' := by
  have h := sTimes_any x 1 w
  rw [show timesZ x 1 = x % 1000000271 by unfold timesZ; rw [Int.mul_one]] at h
  exact h

set_option maxRecDepth 100000 in
set_option maxHeartbeats 6400000 in
theorem sRotor_any (a b c : Int) (w : World) (ha : I64 a) (hb : I64 b) (hc : I64 c) :
    Calls Tryz.prog 73 #[.int .i64 a, .int .i64 b, .int .i64 c] w (Gives (fun w' v fp => OwnFld 24 56 3 w' v (rotF a b c) fp) w) := by
  obtain ⟨j1, hj1, hw0, hw1, hw2⟩ := info_parts Tryz.info_mon
  obtain ⟨j2, hj2, hx0', hx1, hx2⟩ := info_parts Tryz.info_mons'
  obtain ⟨a0, a1⟩ := ha
  obtain ⟨b0, b1⟩ := hb
  obtain ⟨c0, c1⟩ := hc
  go_enter Tryz.func73, Tryz.ntmps73
  go_wp2
  obtain ⟨W1, hW1⟩ : ∃ W, W = w.alloc (.cells #[.int .i64 0, .slice none 0 0] 30) := ⟨_, rfl⟩
  obtain ⟨W3, hW3⟩ : ∃ W, W = W1.alloc (.cells #[.int .i64 3, .slice none 0 0] 30) := ⟨_, rfl⟩
  rw [← hW1, ← hW3]
  have hb1 : Below w.heap.size w W1 := hW1 ▸ (Below.refl _ _).alloc (Nat.le_refl _) _
  have hb13 : Below W1.heap.size W1 W3 := hW3 ▸ (Below.refl _ _).alloc (Nat.le_refl _) _
  have hs1 : W1.heap.size = w.heap.size + 1 := by rw [hW1]; simp
  have hsz : W3.heap.size = w.heap.size + 1 + 1 := by rw [hW3, ← hs1]; simp
  have hr0 : W1.cell? ⟨w.heap.size, 0, none⟩ = some (.int .i64 0) := by rw [hW1]; simp
  have hr1 : W1.cell? ⟨w.heap.size, 1, none⟩ = some (.slice none 0 0) := by rw [hW1]; simp
  have hr2 : W1.frozen? ⟨w.heap.size, 0, none⟩ = false := by rw [hW1]; simp
  have hr3 : W1.frozen? ⟨w.heap.size, 1, none⟩ = false := by rw [hW1]; simp
  have hf0 : W3.cell? ⟨w.heap.size + 1, 0, none⟩ = some (.int .i64 3) := by rw [hW3, ← hs1]; simp
  have hf1 : W3.cell? ⟨w.heap.size + 1, 1, none⟩ = some (.slice none 0 0) := by rw [hW3, ← hs1]; simp
  have hf2 : W3.frozen? ⟨w.heap.size + 1, 1, none⟩ = false := by rw [hW3, ← hs1]; simp
  have HR := Lib.hid (show W3.cell? ⟨w.heap.size, 0, none⟩ = some (.int .i64 0) ∧ W3.cell? ⟨w.heap.size, 1, none⟩ = some (.slice none 0 0) ∧ W3.frozen? ⟨w.heap.size, 0, none⟩ = false ∧ W3.frozen? ⟨w.heap.size, 1, none⟩ = false from
    ⟨cell_below hb13 hr0, cell_below hb13 hr1, (hb13.frozen (p := ⟨w.heap.size, 0, none⟩) (by simp; omega)).trans hr2, (hb13.frozen (p := ⟨w.heap.size, 1, none⟩) (by simp; omega)).trans hr3⟩)
  have I0 := Lib.hid (show FldInv 24 56 3 W3 W3 (w.heap.size + 1) 3 (.slice none 0 0) [] [] from
    ⟨⟨[], [], World.ownsRow_nil _ _ _ _, by simp, rfl, rfl, by simp⟩, by simp, Only.refl _ _, hf0, hf1, hf2, by omega⟩)
  have HSZ := Lib.hid hsz
  have HBW := Lib.hid (hb1.trans (hb13.mono hb1.size))
  clear hW1 hW3 hsz hs1 hb1 hb13 hr0 hr1 hr2 hr3 hf0 hf1 hf2
  go_loopw [8] (fun i wr => ∃ (k : Nat) (u : Value) (fs : List Nat), k ≤ 3 ∧ i = .int .i64 k ∧ FldInv 24 56 3 W3 wr (w.heap.size + 1) 3 u ((rotF a b c).parts.take k) fs) (fun i _ => 3 - (intOf i).toNat)
  case atStart => exact ⟨0, _, _, Nat.zero_le _, rfl, I0.out⟩
  case round =>
    obtain ⟨wk, rfl⟩ : ∃ W, W = wr := ⟨_, rfl⟩
    obtain ⟨k, u, fs0, hk, rfl, hI⟩ := hrel
    clear I0
    have hs3 := hI.only.size
    have hz3 := HSZ.out
    have hbk := hI.below HBW.out (by omega)
    by_cases hlt : k < 3
    case neg =>
      obtain rfl : k = 3 := by omega
      have hi0 := hI.c0
      have hi1 := hI.c1
      have hc0 := cell_only hI.only (by simp) HR.out.1
      have hc1 := cell_only hI.only (by simp) HR.out.2.1
      have hf0 : wk.frozen? ⟨w.heap.size, 0, none⟩ = false := (World.frozen?_of_block (hI.only.block _ (by simp; omega) (by simp))).trans HR.out.2.2.1
      have hf1 : wk.frozen? ⟨w.heap.size, 1, none⟩ = false := (World.frozen?_of_block (hI.only.block _ (by simp; omega) (by simp))).trans HR.out.2.2.2
      have HI := Lib.hid hI
      have HBK := Lib.hid hbk
      obtain ⟨adu, lu, cu, rfl⟩ := ownMss_slice hI.own
      clear hI hbk hs3 hz3
      go_wp2
      refine bodyPost_ret (v := .agg #[.int .i64 3, .slice adu lu cu]) (by simp [results, Tryz.results73, go_sem, hc0, hc1]) rfl ?_
      have hO2 : Only [w.heap.size] wk ((wk.setCell ⟨w.heap.size, 0, none⟩ (.int .i64 3)).setCell ⟨w.heap.size, 1, none⟩ (.slice adu lu cu)) := ((Only.refl _ _).setCell (by simp) _).setCell (by simp) _
      exact ⟨_, fs0, rfl, ⟨_, rfl, ⟨by show (-9223372036854775808 : Int) ≤ 3; decide, by show (3 : Int) ≤ 9223372036854775807; decide⟩, ownMss_only HI.out.own hO2 (fun b hb hm => by have := HI.out.new b hb; have := HSZ.out; simp at hm; omega)⟩, fun b hb => by { have := HI.out.new b hb; have := HSZ.out; omega }, (HBK.out.setCell (Nat.le_refl _) _).setCell (Nat.le_refl _) _⟩
    have hkl : ((rotF a b c).parts.take k).length = k := by simp [rotF]; omega
    have hi1 := hI.c1
    have hfi1 := hI.f1
    have HI := Lib.hid hI
    obtain ⟨us, fs, hown, hone, hels, rfl, hnd⟩ := hI.own
    have HOWN := Lib.hid hown
    rw [hkl] at hown
    obtain ⟨adu, capu, rfl, hluc, hcum, _⟩ := row_open hown
    have HNU := Lib.hid hown
    have HONE := Lib.hid hone
    have HELS := Lib.hid hels
    have HND := Lib.hid hnd
    have HKL := Lib.hid hkl
    have HBK := Lib.hid hbk
    have hlw := World.block_lt_of_cell? _ _ hi1
    simp only at hlw
    clear hown hone hels hnd hkl hbk hI
    rcases (show k = 0 ∨ k = 1 ∨ k = 2 by omega) with rfl | rfl | rfl
    · have HSN := Lib.hid (show (rotF a b c).parts.take (0 + 1) = (rotF a b c).parts.take 0 ++ [rotM 0 a] from rfl)
      by_cases hx0 : a % 1000000271 = 0
      case pos =>
        have hbx : (a % 1000000271 != 0) = false := by simpa using hx0
        obtain ⟨A1, hA1⟩ : ∃ W, W = wk.alloc (.cells #[] 56) := ⟨_, rfl⟩
        obtain ⟨A2, hA2⟩ : ∃ W, W = A1.alloc (.cells #[.int .i64 a, .int .i64 b, .int .i64 c] 3) := ⟨_, rfl⟩
        have hq1 : Below wk.heap.size wk A1 := hA1 ▸ (Below.refl _ _).alloc (Nat.le_refl _) _
        have hq12 : Below A1.heap.size A1 A2 := hA2 ▸ (Below.refl _ _).alloc (Nat.le_refl _) _
        have hq := hq1.trans (hq12.mono hq1.size)
        have hM1 : OwnMs 56 3 A1 (.slice (some ⟨wk.heap.size, 0, none⟩) 0 0) (rotM 0 a) [wk.heap.size] := by
          rw [rotM, if_pos hx0, hA1]
          exact ⟨[], [], by simpa using World.ownsRow_lit (base := 0) (e := 56) (size := 2) wk #[] 0 (Nat.zero_le _) (Nat.zero_le _) rfl, by simp, rfl, rfl, by simp⟩
        have HP := Lib.hid (ownMs_only hM1 (Only.of_below (fp := []) hq12) (by simp))
        have HA1 := Lib.hid hA1
        have HA2 := Lib.hid hA2
        have HQ := Lib.hid hq
        have HNQ := Lib.hid (ownsRow_only HNU.out (Only.of_below (fp := []) hq) (by simp))
        have hi1A := cell_below hq hi1
        have HFR := Lib.hid (show ∀ b ∈ [wk.heap.size], wk.heap.size ≤ b by simp)
        have HPS := Lib.hid (fun (w5 : World) (gg capn : Nat) (hown1 : w5.ownsRow 0 24 1 (.slice (some ⟨gg, 0, none⟩) (0 + 1) capn) (0 + 1) (us.flatten ++ [.slice (some ⟨wk.heap.size, 0, none⟩) 0 0])) (hgrow : (A2.alloc (.cells #[.slice (some ⟨wk.heap.size, 0, none⟩) 0 0] 24)).grownBy w5 (Value.slice adu 0 capu).ownBlock) (hat : (Value.slice adu 0 capu).ownBlock = some gg ∨ gg = A2.heap.size + 1) => FldInv.push HI.out HONE.out HELS.out HND.out HOWN.out HKL.out HP.out HFR.out HQ.out ((Below.refl _ _).alloc (Nat.le_refl _) _) hown1 hgrow (fun b hb => by { simp [Value.ownBlock] at hb; subst hb; rcases hat with hat | hat; (left; exact hat); (right; rw [hat]; simp) }))
        clear hA1 hA2 hq hq1 hq12 hM1
        go_wp2_with fail
        rw [← HA1.out, ← HA2.out]
        refine (sTimes_one _ _).mono ?_
        rintro e w' ⟨rfl, rfl⟩
        go_wp2_with (first | (at_builtin; refine wpList_append_lies _ rfl _ _ _ rfl 0 24 j2 _ 1 24 Tryz.underlying28 hj2 hx0' hx1 hx2 rfl (by omega) (.slice adu 0 capu) 0 _ (by rfl) (HNQ.out.alloc _) ⟨A2.heap.size, 0, none⟩ 1 1 [.slice (some ⟨wk.heap.size, 0, none⟩) 0 0] (by rfl) (by rfl) (World.news_of_block (cs := #[.slice (some ⟨wk.heap.size, 0, none⟩) 0 0]) (t := 24) (fr := (0, 0)) (heap_alloc_new A2 _)) (by simp [Value.oneCell']) (by omega) (by unfold maxLen; omega) (by omega) (by simp) (A2.heap.size + 1) (by simp) ?_; intro gg capn w5 hown1 hgrow hat hlt1; obtain ⟨hcB, hfB, fs', hP⟩ := HPS.out w5 gg capn hown1 hgrow hat; have HPP := Lib.hid hP; clear hP hown1 hgrow))
        all_goals (
          go_roundw
          case rel => exact ⟨0 + 1, _, fs', by omega, by go_num, by rw [HSN.out]; exact HPP.out⟩
          case measure => simp [intOf])
      have hbx : (a % 1000000271 != 0) = true := by simpa using hx0
      have HPU := Lib.hid (rot_made2 (e2 := 56) (e := 3) (f := 0) wk 0 [0, 1, 1] #[.int .i64 0, .int .i64 1, .int .i64 1] #[.int .i64 a, .int .i64 b, .int .i64 c] a ⟨rfl, by intro z hz; simp at hz; constructor <;> omega⟩ rfl hx0 rfl)
      go_wp2_with fail
      refine (sTimes_one _ _).mono ?_
      rintro e w' ⟨rfl, rfl⟩
      go_wp2_with (first | (at_builtin; refine wpList_append_lies _ rfl _ _ _ rfl 0 56 j1 _ 2 32 Tryz.underlying24 hj1 hw0 hw1 hw2 rfl (by omega) (.slice (some ⟨wk.heap.size, 0, none⟩) 0 0) 0 [] (by rfl) HPU.out.1 ⟨wk.heap.size + 1 + 1 + 1 + 1, 0, none⟩ 1 1 [.int .i64 (a % 1000000271), .slice (some ⟨wk.heap.size + 1 + 1, 0, none⟩) 3 3] (by rfl) (by rfl) (World.news_of_block (cs := #[.int .i64 (a % 1000000271), .slice (some ⟨wk.heap.size + 1 + 1, 0, none⟩) 3 3]) (t := 56) (fr := (0, 0)) HPU.out.2.1) (by simp [Value.oneCell']) (by omega) (by unfold maxLen; omega) (by omega) (by simp) (wk.heap.size + 5) (by simp) ?_; intro g6 cap6 w6 hown6 hgrow6 hat6 hlt6; obtain ⟨f6, hM, hMf, hM0⟩ := HPU.out.2.2 w6 g6 cap6 hown6 (by simpa [Value.ownBlock] using hgrow6) (by simpa [Value.ownBlock] using hat6); have HP := Lib.hid hM; have HFR := Lib.hid hMf; have HQ := Lib.hid hM0; have HNQ := Lib.hid (ownsRow_only HNU.out (Only.of_below (fp := []) hM0) (by simp)); have hi1A := cell_below hM0 hi1; have HPS := Lib.hid (fun (w5 : World) (gg capn : Nat) (hown1 : w5.ownsRow 0 24 1 (.slice (some ⟨gg, 0, none⟩) (0 + 1) capn) (0 + 1) (us.flatten ++ [.slice (some ⟨g6, 0, none⟩) 1 cap6])) (hgrow : (w6.alloc (.cells #[.slice (some ⟨g6, 0, none⟩) 1 cap6] 24)).grownBy w5 (Value.slice adu 0 capu).ownBlock) (hat : (Value.slice adu 0 capu).ownBlock = some gg ∨ gg = w6.heap.size + 1) => FldInv.push HI.out HONE.out HELS.out HND.out HOWN.out HKL.out HP.out HFR.out HQ.out ((Below.refl _ _).alloc (Nat.le_refl _) _) hown1 hgrow (fun b hb => by { simp [Value.ownBlock] at hb; subst hb; rcases hat with hat | hat; (left; exact hat); (right; rw [hat]; simp) })); clear hM hMf hM0 hown6 hgrow6) | (at_builtin; refine wpList_append_lies _ rfl _ _ _ rfl 0 24 j2 _ 1 24 Tryz.underlying28 hj2 hx0' hx1 hx2 rfl (by omega) (.slice adu 0 capu) 0 _ (by rfl) (HNQ.out.alloc _) ⟨w6.heap.size, 0, none⟩ 1 1 [.slice (some ⟨g6, 0, none⟩) 1 cap6] (by rfl) (by rfl) (World.news_of_block (cs := #[.slice (some ⟨g6, 0, none⟩) 1 cap6]) (t := 24) (fr := (0, 0)) (heap_alloc_new w6 _)) (by simp [Value.oneCell']) (by omega) (by unfold maxLen; omega) (by omega) (by simp) (w6.heap.size + 1) (by simp) ?_; intro gg capn w5 hown1 hgrow hat hlt1; obtain ⟨hcB, hfB, fs', hP⟩ := HPS.out w5 gg capn hown1 hgrow hat; have HPP := Lib.hid hP; clear hP hown1 hgrow))
      all_goals (
        go_roundw
        case rel => exact ⟨0 + 1, _, fs', by omega, by go_num, by rw [HSN.out]; exact HPP.out⟩
        case measure => simp [intOf])
    · have HSN := Lib.hid (show (rotF a b c).parts.take (1 + 1) = (rotF a b c).parts.take 1 ++ [rotM 1 b] from rfl)
      by_cases hx0 : b % 1000000271 = 0
      case pos =>
        have hbx : (b % 1000000271 != 0) = false := by simpa using hx0
        obtain ⟨A1, hA1⟩ : ∃ W, W = wk.alloc (.cells #[] 56) := ⟨_, rfl⟩
        obtain ⟨A2, hA2⟩ : ∃ W, W = A1.alloc (.cells #[.int .i64 a, .int .i64 b, .int .i64 c] 3) := ⟨_, rfl⟩
        have hq1 : Below wk.heap.size wk A1 := hA1 ▸ (Below.refl _ _).alloc (Nat.le_refl _) _
        have hq12 : Below A1.heap.size A1 A2 := hA2 ▸ (Below.refl _ _).alloc (Nat.le_refl _) _
        have hq := hq1.trans (hq12.mono hq1.size)
        have hM1 : OwnMs 56 3 A1 (.slice (some ⟨wk.heap.size, 0, none⟩) 0 0) (rotM 1 b) [wk.heap.size] := by
          rw [rotM, if_pos hx0, hA1]
          exact ⟨[], [], by simpa using World.ownsRow_lit (base := 0) (e := 56) (size := 2) wk #[] 0 (Nat.zero_le _) (Nat.zero_le _) rfl, by simp, rfl, rfl, by simp⟩
        have HP := Lib.hid (ownMs_only hM1 (Only.of_below (fp := []) hq12) (by simp))
        have HA1 := Lib.hid hA1
        have HA2 := Lib.hid hA2
        have HQ := Lib.hid hq
        have HNQ := Lib.hid (ownsRow_only HNU.out (Only.of_below (fp := []) hq) (by simp))
        have hi1A := cell_below hq hi1
        have HFR := Lib.hid (show ∀ b ∈ [wk.heap.size], wk.heap.size ≤ b by simp)
        have HPS := Lib.hid (fun (w5 : World) (gg capn : Nat) (hown1 : w5.ownsRow 0 24 1 (.slice (some ⟨gg, 0, none⟩) (1 + 1) capn) (1 + 1) (us.flatten ++ [.slice (some ⟨wk.heap.size, 0, none⟩) 0 0])) (hgrow : (A2.alloc (.cells #[.slice (some ⟨wk.heap.size, 0, none⟩) 0 0] 24)).grownBy w5 (Value.slice adu 1 capu).ownBlock) (hat : (Value.slice adu 1 capu).ownBlock = some gg ∨ gg = A2.heap.size + 1) => FldInv.push HI.out HONE.out HELS.out HND.out HOWN.out HKL.out HP.out HFR.out HQ.out ((Below.refl _ _).alloc (Nat.le_refl _) _) hown1 hgrow (fun b hb => by { simp [Value.ownBlock] at hb; subst hb; rcases hat with hat | hat; (left; exact hat); (right; rw [hat]; simp) }))
        clear hA1 hA2 hq hq1 hq12 hM1
        go_wp2_with fail
        rw [← HA1.out, ← HA2.out]
        refine (sTimes_one _ _).mono ?_
        rintro e w' ⟨rfl, rfl⟩
        go_wp2_with (first | (at_builtin; refine wpList_append_lies _ rfl _ _ _ rfl 0 24 j2 _ 1 24 Tryz.underlying28 hj2 hx0' hx1 hx2 rfl (by omega) (.slice adu 1 capu) 1 _ (by rfl) (HNQ.out.alloc _) ⟨A2.heap.size, 0, none⟩ 1 1 [.slice (some ⟨wk.heap.size, 0, none⟩) 0 0] (by rfl) (by rfl) (World.news_of_block (cs := #[.slice (some ⟨wk.heap.size, 0, none⟩) 0 0]) (t := 24) (fr := (0, 0)) (heap_alloc_new A2 _)) (by simp [Value.oneCell']) (by omega) (by unfold maxLen; omega) (by omega) (by simp) (A2.heap.size + 1) (by simp) ?_; intro gg capn w5 hown1 hgrow hat hlt1; obtain ⟨hcB, hfB, fs', hP⟩ := HPS.out w5 gg capn hown1 hgrow hat; have HPP := Lib.hid hP; clear hP hown1 hgrow))
        all_goals (
          go_roundw
          case rel => exact ⟨1 + 1, _, fs', by omega, by go_num, by rw [HSN.out]; exact HPP.out⟩
          case measure => simp [intOf])
      have hbx : (b % 1000000271 != 0) = true := by simpa using hx0
      have HPU := Lib.hid (rot_made2 (e2 := 56) (e := 3) (f := 0) wk 1 [1, 0, 1] #[.int .i64 1, .int .i64 0, .int .i64 1] #[.int .i64 a, .int .i64 b, .int .i64 c] b ⟨rfl, by intro z hz; simp at hz; constructor <;> omega⟩ rfl hx0 rfl)
      go_wp2_with fail
      refine (sTimes_one _ _).mono ?_
      rintro e w' ⟨rfl, rfl⟩
      go_wp2_with (first | (at_builtin; refine wpList_append_lies _ rfl _ _ _ rfl 0 56 j1 _ 2 32 Tryz.underlying24 hj1 hw0 hw1 hw2 rfl (by omega) (.slice (some ⟨wk.heap.size, 0, none⟩) 0 0) 0 [] (by rfl) HPU.out.1 ⟨wk.heap.size + 1 + 1 + 1 + 1, 0, none⟩ 1 1 [.int .i64 (b % 1000000271), .slice (some ⟨wk.heap.size + 1 + 1, 0, none⟩) 3 3] (by rfl) (by rfl) (World.news_of_block (cs := #[.int .i64 (b % 1000000271), .slice (some ⟨wk.heap.size + 1 + 1, 0, none⟩) 3 3]) (t := 56) (fr := (0, 0)) HPU.out.2.1) (by simp [Value.oneCell']) (by omega) (by unfold maxLen; omega) (by omega) (by simp) (wk.heap.size + 5) (by simp) ?_; intro g6 cap6 w6 hown6 hgrow6 hat6 hlt6; obtain ⟨f6, hM, hMf, hM0⟩ := HPU.out.2.2 w6 g6 cap6 hown6 (by simpa [Value.ownBlock] using hgrow6) (by simpa [Value.ownBlock] using hat6); have HP := Lib.hid hM; have HFR := Lib.hid hMf; have HQ := Lib.hid hM0; have HNQ := Lib.hid (ownsRow_only HNU.out (Only.of_below (fp := []) hM0) (by simp)); have hi1A := cell_below hM0 hi1; have HPS := Lib.hid (fun (w5 : World) (gg capn : Nat) (hown1 : w5.ownsRow 0 24 1 (.slice (some ⟨gg, 0, none⟩) (1 + 1) capn) (1 + 1) (us.flatten ++ [.slice (some ⟨g6, 0, none⟩) 1 cap6])) (hgrow : (w6.alloc (.cells #[.slice (some ⟨g6, 0, none⟩) 1 cap6] 24)).grownBy w5 (Value.slice adu 1 capu).ownBlock) (hat : (Value.slice adu 1 capu).ownBlock = some gg ∨ gg = w6.heap.size + 1) => FldInv.push HI.out HONE.out HELS.out HND.out HOWN.out HKL.out HP.out HFR.out HQ.out ((Below.refl _ _).alloc (Nat.le_refl _) _) hown1 hgrow (fun b hb => by { simp [Value.ownBlock] at hb; subst hb; rcases hat with hat | hat; (left; exact hat); (right; rw [hat]; simp) })); clear hM hMf hM0 hown6 hgrow6) | (at_builtin; refine wpList_append_lies _ rfl _ _ _ rfl 0 24 j2 _ 1 24 Tryz.underlying28 hj2 hx0' hx1 hx2 rfl (by omega) (.slice adu 1 capu) 1 _ (by rfl) (HNQ.out.alloc _) ⟨w6.heap.size, 0, none⟩ 1 1 [.slice (some ⟨g6, 0, none⟩) 1 cap6] (by rfl) (by rfl) (World.news_of_block (cs := #[.slice (some ⟨g6, 0, none⟩) 1 cap6]) (t := 24) (fr := (0, 0)) (heap_alloc_new w6 _)) (by simp [Value.oneCell']) (by omega) (by unfold maxLen; omega) (by omega) (by simp) (w6.heap.size + 1) (by simp) ?_; intro gg capn w5 hown1 hgrow hat hlt1; obtain ⟨hcB, hfB, fs', hP⟩ := HPS.out w5 gg capn hown1 hgrow hat; have HPP := Lib.hid hP; clear hP hown1 hgrow))
      all_goals (
        go_roundw
        case rel => exact ⟨1 + 1, _, fs', by omega, by go_num, by rw [HSN.out]; exact HPP.out⟩
        case measure => simp [intOf])
    · have HSN := Lib.hid (show (rotF a b c).parts.take (2 + 1) = (rotF a b c).parts.take 2 ++ [rotM 2 c] from rfl)
      by_cases hx0 : c % 1000000271 = 0
      case pos =>
        have hbx : (c % 1000000271 != 0) = false := by simpa using hx0
        obtain ⟨A1, hA1⟩ : ∃ W, W = wk.alloc (.cells #[] 56) := ⟨_, rfl⟩
        obtain ⟨A2, hA2⟩ : ∃ W, W = A1.alloc (.cells #[.int .i64 a, .int .i64 b, .int .i64 c] 3) := ⟨_, rfl⟩
        have hq1 : Below wk.heap.size wk A1 := hA1 ▸ (Below.refl _ _).alloc (Nat.le_refl _) _
        have hq12 : Below A1.heap.size A1 A2 := hA2 ▸ (Below.refl _ _).alloc (Nat.le_refl _) _
        have hq := hq1.trans (hq12.mono hq1.size)
        have hM1 : OwnMs 56 3 A1 (.slice (some ⟨wk.heap.size, 0, none⟩) 0 0) (rotM 2 c) [wk.heap.size] := by
          rw [rotM, if_pos hx0, hA1]
          exact ⟨[], [], by simpa using World.ownsRow_lit (base := 0) (e := 56) (size := 2) wk #[] 0 (Nat.zero_le _) (Nat.zero_le _) rfl, by simp, rfl, rfl, by simp⟩
        have HP := Lib.hid (ownMs_only hM1 (Only.of_below (fp := []) hq12) (by simp))
        have HA1 := Lib.hid hA1
        have HA2 := Lib.hid hA2
        have HQ := Lib.hid hq
        have HNQ := Lib.hid (ownsRow_only HNU.out (Only.of_below (fp := []) hq) (by simp))
        have hi1A := cell_below hq hi1
        have HFR := Lib.hid (show ∀ b ∈ [wk.heap.size], wk.heap.size ≤ b by simp)
        have HPS := Lib.hid (fun (w5 : World) (gg capn : Nat) (hown1 : w5.ownsRow 0 24 1 (.slice (some ⟨gg, 0, none⟩) (2 + 1) capn) (2 + 1) (us.flatten ++ [.slice (some ⟨wk.heap.size, 0, none⟩) 0 0])) (hgrow : (A2.alloc (.cells #[.slice (some ⟨wk.heap.size, 0, none⟩) 0 0] 24)).grownBy w5 (Value.slice adu 2 capu).ownBlock) (hat : (Value.slice adu 2 capu).ownBlock = some gg ∨ gg = A2.heap.size + 1) => FldInv.push HI.out HONE.out HELS.out HND.out HOWN.out HKL.out HP.out HFR.out HQ.out ((Below.refl _ _).alloc (Nat.le_refl _) _) hown1 hgrow (fun b hb => by { simp [Value.ownBlock] at hb; subst hb; rcases hat with hat | hat; (left; exact hat); (right; rw [hat]; simp) }))
        clear hA1 hA2 hq hq1 hq12 hM1
        go_wp2_with fail
        rw [← HA1.out, ← HA2.out]
        refine (sTimes_one _ _).mono ?_
        rintro e w' ⟨rfl, rfl⟩
        go_wp2_with (first | (at_builtin; refine wpList_append_lies _ rfl _ _ _ rfl 0 24 j2 _ 1 24 Tryz.underlying28 hj2 hx0' hx1 hx2 rfl (by omega) (.slice adu 2 capu) 2 _ (by rfl) (HNQ.out.alloc _) ⟨A2.heap.size, 0, none⟩ 1 1 [.slice (some ⟨wk.heap.size, 0, none⟩) 0 0] (by rfl) (by rfl) (World.news_of_block (cs := #[.slice (some ⟨wk.heap.size, 0, none⟩) 0 0]) (t := 24) (fr := (0, 0)) (heap_alloc_new A2 _)) (by simp [Value.oneCell']) (by omega) (by unfold maxLen; omega) (by omega) (by simp) (A2.heap.size + 1) (by simp) ?_; intro gg capn w5 hown1 hgrow hat hlt1; obtain ⟨hcB, hfB, fs', hP⟩ := HPS.out w5 gg capn hown1 hgrow hat; have HPP := Lib.hid hP; clear hP hown1 hgrow))
        all_goals (
          go_roundw
          case rel => exact ⟨2 + 1, _, fs', by omega, by go_num, by rw [HSN.out]; exact HPP.out⟩
          case measure => simp [intOf])
      have hbx : (c % 1000000271 != 0) = true := by simpa using hx0
      have HPU := Lib.hid (rot_made2 (e2 := 56) (e := 3) (f := 0) wk 2 [1, 1, 0] #[.int .i64 1, .int .i64 1, .int .i64 0] #[.int .i64 a, .int .i64 b, .int .i64 c] c ⟨rfl, by intro z hz; simp at hz; constructor <;> omega⟩ rfl hx0 rfl)
      go_wp2_with fail
      refine (sTimes_one _ _).mono ?_
      rintro e w' ⟨rfl, rfl⟩
      go_wp2_with (first | (at_builtin; refine wpList_append_lies _ rfl _ _ _ rfl 0 56 j1 _ 2 32 Tryz.underlying24 hj1 hw0 hw1 hw2 rfl (by omega) (.slice (some ⟨wk.heap.size, 0, none⟩) 0 0) 0 [] (by rfl) HPU.out.1 ⟨wk.heap.size + 1 + 1 + 1 + 1, 0, none⟩ 1 1 [.int .i64 (c % 1000000271), .slice (some ⟨wk.heap.size + 1 + 1, 0, none⟩) 3 3] (by rfl) (by rfl) (World.news_of_block (cs := #[.int .i64 (c % 1000000271), .slice (some ⟨wk.heap.size + 1 + 1, 0, none⟩) 3 3]) (t := 56) (fr := (0, 0)) HPU.out.2.1) (by simp [Value.oneCell']) (by omega) (by unfold maxLen; omega) (by omega) (by simp) (wk.heap.size + 5) (by simp) ?_; intro g6 cap6 w6 hown6 hgrow6 hat6 hlt6; obtain ⟨f6, hM, hMf, hM0⟩ := HPU.out.2.2 w6 g6 cap6 hown6 (by simpa [Value.ownBlock] using hgrow6) (by simpa [Value.ownBlock] using hat6); have HP := Lib.hid hM; have HFR := Lib.hid hMf; have HQ := Lib.hid hM0; have HNQ := Lib.hid (ownsRow_only HNU.out (Only.of_below (fp := []) hM0) (by simp)); have hi1A := cell_below hM0 hi1; have HPS := Lib.hid (fun (w5 : World) (gg capn : Nat) (hown1 : w5.ownsRow 0 24 1 (.slice (some ⟨gg, 0, none⟩) (2 + 1) capn) (2 + 1) (us.flatten ++ [.slice (some ⟨g6, 0, none⟩) 1 cap6])) (hgrow : (w6.alloc (.cells #[.slice (some ⟨g6, 0, none⟩) 1 cap6] 24)).grownBy w5 (Value.slice adu 2 capu).ownBlock) (hat : (Value.slice adu 2 capu).ownBlock = some gg ∨ gg = w6.heap.size + 1) => FldInv.push HI.out HONE.out HELS.out HND.out HOWN.out HKL.out HP.out HFR.out HQ.out ((Below.refl _ _).alloc (Nat.le_refl _) _) hown1 hgrow (fun b hb => by { simp [Value.ownBlock] at hb; subst hb; rcases hat with hat | hat; (left; exact hat); (right; rw [hat]; simp) })); clear hM hMf hM0 hown6 hgrow6) | (at_builtin; refine wpList_append_lies _ rfl _ _ _ rfl 0 24 j2 _ 1 24 Tryz.underlying28 hj2 hx0' hx1 hx2 rfl (by omega) (.slice adu 2 capu) 2 _ (by rfl) (HNQ.out.alloc _) ⟨w6.heap.size, 0, none⟩ 1 1 [.slice (some ⟨g6, 0, none⟩) 1 cap6] (by rfl) (by rfl) (World.news_of_block (cs := #[.slice (some ⟨g6, 0, none⟩) 1 cap6]) (t := 24) (fr := (0, 0)) (heap_alloc_new w6 _)) (by simp [Value.oneCell']) (by omega) (by unfold maxLen; omega) (by omega) (by simp) (w6.heap.size + 1) (by simp) ?_; intro gg capn w5 hown1 hgrow hat hlt1; obtain ⟨hcB, hfB, fs', hP⟩ := HPS.out w5 gg capn hown1 hgrow hat; have HPP := Lib.hid hP; clear hP hown1 hgrow))
      all_goals (
        go_roundw
        case rel => exact ⟨2 + 1, _, fs', by omega, by go_num, by rw [HSN.out]; exact HPP.out⟩
        case measure => simp [intOf])
end Go.Proofs.YtbcjhpgkodeoeaaGreatDoor
