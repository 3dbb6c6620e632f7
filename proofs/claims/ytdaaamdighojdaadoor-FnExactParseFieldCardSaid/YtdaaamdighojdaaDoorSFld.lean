/- Fields read from texts: the reference. Conditions: texts of at most a million bytes. -/
import Derived.Test.YtdaaamdighojdaaDoorRFld
import Derived.Test.YtdaaamdighojdaaDoorFmtF
set_option linter.unusedSimpArgs false
set_option linter.unusedVariables false
namespace Go.Proofs.YtdaaamdighojdaaDoor
open Go.RowKit Go.Sort

theorem sFld_eq {l : List UInt8} {m k : Nat} (hm : (semiS l).length = m) (hk : k ≤ m) (h : (m ≤ 6 → k = m) ∧ (6 < m → k = 0)) : sFld l = ⟨(m : Int), ((semiS l).take k).map (sPart m)⟩ := by
  rw [sFld, hm]
  by_cases h6 : m ≤ 6
  · rw [if_pos h6, h.1 h6, List.take_of_length_le (by omega)]
  · rw [if_neg h6, h.2 (by omega), List.take_zero]; rfl
theorem parB_nil {l : List UInt8} (h : l.isEmpty = true) : parB l = false := by
  cases l with
  | nil => rfl
  | cons a r => cases h
theorem parB_cons {l : List UInt8} (h : l.isEmpty = false) : parB l = decide (fldT (sFld l) = l) := by
  cases l with
  | nil => cases h
  | cons a r => simp [parB]

/-- A monomial more in a row of the call's own, beside a row of texts. -/
theorem sMon_add {wz wk w6 w9 : World} {gu j cu gg capn g2 lm cm : Nat} {adm : Option Addr} {pt : List UInt8} {xs : List MonZ} {mz : MonZ} {us1 : List (List Value)} {fsu fp6 : List Nat}
    (hone : ∀ u ∈ us1, u.length = 2) (hels : OwnEls (OElMon 3) wk us1 xs fsu) (hnd : ((Value.slice (some ⟨gu, 0, none⟩) j cu).ownBlock.toList ++ fsu).Nodup) (hown0 : wk.ownsRow 0 35 2 (.slice (some ⟨gu, 0, none⟩) j cu) xs.length us1.flatten) (hn : xs.length = j)
    (hf : ∀ b ∈ (Value.slice (some ⟨gu, 0, none⟩) j cu).ownBlock.toList ++ fsu, wz.heap.size ≤ b) (hbz : Below wz.heap.size wz wk) (hgn : g2 ∉ (Value.slice (some ⟨gu, 0, none⟩) j cu).ownBlock.toList ++ fsu) (hgl : g2 < wk.heap.size ∧ True)
    (hcl : ∀ (jj : Nat) (x : List UInt8) (y : ByteArray), (plusS pt)[jj]? = some x → y = ByteArray.mk x.toArray → wk.cell? ⟨g2, jj, none⟩ = some (.string y))
    (ho6 : OwnI 3 w6 (.slice adm lm cm) mz.pows fp6) (hcI : I64 mz.coef) (hg6 : ∀ b ∈ fp6, wk.heap.size ≤ b) (hb6 : Below wk.heap.size wk w6)
    (hown1 : w9.ownsRow 0 35 2 (.slice (some ⟨gg, 0, none⟩) (j + 1) capn) (j + 1) (us1.flatten ++ [.int .i64 mz.coef, .slice adm lm cm])) (hgrow : (w6.alloc (.cells #[.int .i64 mz.coef, .slice adm lm cm] 35)).grownBy w9 (some gu)) (hat : some gu = some gg ∨ gg = w6.heap.size + 1) :
    ∃ f', OwnMs 35 3 w9 (.slice (some ⟨gg, 0, none⟩) (j + 1) capn) (xs ++ [mz]) f' ∧ (∀ b ∈ f', wz.heap.size ≤ b) ∧ Below wz.heap.size wz w9 ∧ g2 ∉ f' ∧ (g2 < w9.heap.size ∧ ∀ (jj : Nat) (x : List UInt8) (y : ByteArray), (plusS pt)[jj]? = some x → y = ByteArray.mk x.toArray → w9.cell? ⟨g2, jj, none⟩ = some (.string y)) := by
  have hal : Below w6.heap.size w6 (w6.alloc (.cells #[.int .i64 mz.coef, .slice adm lm cm] 35)) := (Below.refl _ _).alloc (Nat.le_refl _) _
  obtain ⟨f', hP1, hP2, hP3⟩ := ownMs_add (m := mz) hone hels hnd hown0 hn ho6 hcI hg6 hb6 hal hown1 hgrow (fun b hb => by
    simp [Value.ownBlock] at hb
    subst hb
    rcases hat with hat | hat
    · left; simpa [Value.ownBlock] using hat
    · right; rw [hat]; simp)
  have hgu : gu ∈ (Value.slice (some ⟨gu, 0, none⟩) j cu).ownBlock.toList := by simp [Value.ownBlock]
  have hguz := hf gu (List.mem_append.2 (Or.inl hgu))
  have hgug : g2 ≠ gu := fun e => hgn (List.mem_append.2 (Or.inl (e ▸ hgu)))
  have hO9 : Only [gu] w6 w9 := by simpa [Value.ownBlock] using hP3
  have hz6 := hbz.trans (hb6.mono hbz.size)
  have h6 := hb6.size
  have h8 := hO9.size
  have hz := hbz.size
  have hgl' := hgl.1
  have hszl : (w6.alloc (.cells #[.int .i64 mz.coef, .slice adm lm cm] 35)).heap.size = w6.heap.size + 1 := by simp
  refine ⟨f', hP1, fun b hb => ?_, hz6.trans (hO9.below hz6.size (by intro b hb; rw [List.mem_singleton.1 hb]; exact hguz)), fun hm => ?_, by omega, fun jj x y hx hy => cell_only hO9 (by simp; exact hgug) (cell_below hb6 (hcl jj x y hx hy))⟩
  · rcases hP2 b hb with h | h | h
    · exact hf b h
    · have := hg6 b h; omega
    · omega
  · rcases hP2 g2 hm with h | h | h
    · exact hgn h
    · have := hg6 g2 h; omega
    · omega

set_option maxRecDepth 100000 in
set_option maxHeartbeats 6400000 in
theorem sParse_any (l : List UInt8) (s : ByteArray) (hs : s = ByteArray.mk l.toArray) (hl : l.length ≤ 1048576) (w : World) :
    Calls Tryd.prog 4 #[.string s] w (GivesPar l w) := by
  obtain ⟨W0, hW0⟩ : ∃ W, W = w.alloc (.cells #[.int .i64 0, .slice none 0 0] 24) := ⟨_, rfl⟩
  have hb0 : Below w.heap.size w W0 := hW0 ▸ (Below.refl _ _).alloc (Nat.le_refl _) _
  have HB0 := Lib.hid hb0
  have HW0 := Lib.hid hW0
  have hsz : w.heap.size < W0.heap.size := by rw [hW0]; simp
  have HR := Lib.hid (show W0.cell? ⟨w.heap.size, 0, none⟩ = some (.int .i64 0) ∧ W0.cell? ⟨w.heap.size, 1, none⟩ = some (.slice none 0 0) ∧ W0.frozen? ⟨w.heap.size, 0, none⟩ = false ∧ W0.frozen? ⟨w.heap.size, 1, none⟩ = false from by rw [hW0]; refine ⟨?_, ?_, ?_, ?_⟩ <;> simp)
  have SP := Lib.hid (show Calls Tryd.prog 9 #[.string s, .string ⟨#[59, 32]⟩] W0 (Words W0 (semiS l)) from sWords_any l [59, 32] s _ hs rfl hl (by decide) (by decide) W0)
  have HL := Lib.hid hl
  have HS := Lib.hid hs
  have hnone : ∀ W, Below w.heap.size w W → parB l = false → GivesPar l w (.returned (.tuple #[.agg #[.int .i64 0, .slice none 0 0], .bool false])) W := by
    intro W hW hd
    unfold GivesPar
    rw [hd]
    refine ⟨_, [], rfl, ?_, by simp, hW⟩
    rw [parF_no hd]
    exact ⟨_, rfl, ⟨(by decide : (-9223372036854775808 : Int) ≤ 0), (by decide : (0 : Int) ≤ 9223372036854775807)⟩, [], [], World.ownsRow_nil _ _ _ _, by simp, rfl, rfl, by simp⟩
  have HNO := Lib.hid hnone
  clear hs hW0 hb0 hnone
  obtain ⟨i0, hi, hz0, hz1, hz2⟩ := info_parts Tryd.info_mon
  obtain ⟨j1, hj1, hw0, hw1, hw2⟩ := info_parts Tryd.info_mons
  go_enter Tryd.func4, Tryd.ntmps4
  go_wp2_with fail
  rw [← HW0.out]
  refine SP.out.mono ?_
  rintro e w1 ⟨g, cap, m, rfl, hR⟩
  have hpm := hR.len
  have hm1 : 1 ≤ m := by have := semi_pos l; omega
  have hmb : m ≤ 1048580 := by
    have h1 := split_len l [59, 32]
    have h2 := HL.out
    unfold semiS at hpm
    omega
  obtain ⟨W3, hW3⟩ : ∃ W, W = w1.alloc (.cells #[.int .i64 (m : Int), .slice none 0 0] 24) := ⟨_, rfl⟩
  have hb3 : Below w1.heap.size w1 W3 := hW3 ▸ (Below.refl _ _).alloc (Nat.le_refl _) _
  have hbw1 := HB0.out.trans (hR.below.mono HB0.out.size)
  have HBW1 := Lib.hid hbw1
  have I0 := Lib.hid (fldInv_start (e1 := 32) (e2 := 35) (e := 3) hW3)
  have HB3 := Lib.hid (hbw1.trans (hb3.mono hbw1.size))
  have HB13 := Lib.hid hb3
  have HW3 := Lib.hid hW3
  have HRR := Lib.hid hR
  have HPM := Lib.hid hpm
  have hgl : g < w1.heap.size := (hR.row.lt g (by simp [Value.ownBlock])).2
  have hsz1 : w.heap.size < w1.heap.size := by have := hR.below.size; omega
  -- what stays as it was: the result's own cells, the row of parts, the library's variable
  have SX := Lib.hid (fun (X : World) (hX : Only [w1.heap.size] W3 X) => show X.cell? ⟨w.heap.size, 0, none⟩ = some (.int .i64 0) ∧ X.cell? ⟨w.heap.size, 1, none⟩ = some (.slice none 0 0) ∧ X.frozen? ⟨w.heap.size, 0, none⟩ = false ∧ X.frozen? ⟨w.heap.size, 1, none⟩ = false from by
    have hb01 := HRR.out.below
    have hsz3 : w.heap.size < W3.heap.size := by have := hb3.size; omega
    refine ⟨cell_only hX (by simp; omega) (cell_below hb3 (cell_below hb01 HR.out.1)), cell_only hX (by simp; omega) (cell_below hb3 (cell_below hb01 HR.out.2.1)), ?_, ?_⟩
    · exact (World.frozen?_of_block (hX.block _ hsz3 (by simp; omega))).trans ((hb3.frozen (p := ⟨w.heap.size, 0, none⟩) hsz1).trans ((hb01.frozen (p := ⟨w.heap.size, 0, none⟩) hsz).trans HR.out.2.2.1))
    · exact (World.frozen?_of_block (hX.block _ hsz3 (by simp; omega))).trans ((hb3.frozen (p := ⟨w.heap.size, 1, none⟩) hsz1).trans ((hb01.frozen (p := ⟨w.heap.size, 1, none⟩) hsz).trans HR.out.2.2.2)))
  have SG := Lib.hid (fun (X : World) (hX : Only [w1.heap.size] W3 X) (k : Nat) (x : List UInt8) (y : ByteArray) (hx : (semiS l)[k]? = some x) (hy : y = ByteArray.mk x.toArray) => show X.cell? ⟨g, k, none⟩ = some (.string y) from cell_only hX (by simp; omega) (cell_below hb3 (HRR.out.at hx hy)))
  have SD := Lib.hid (fun (X : World) (hX : Only [w1.heap.size] W3 X) => show Below w.heap.size w X from HB3.out.trans (hX.below HB3.out.size (by intro b hb; simp at hb; omega)))
  clear hR hpm hb3 hbw1 hW3
  go_wp2
  rw [← HW3.out]
  go_loopw [6] (fun si wr => ∃ (k : Nat) (u : Value) (fs : List Nat), si = .int .i64 k ∧ k ≤ m ∧ (6 < m → k = 0) ∧ FldInv 32 35 3 W3 wr w1.heap.size (m : Int) u (((semiS l).take k).map (sPart m)) fs) (fun si _ => m - (intOf si).toNat)
  case atStart => exact ⟨0, _, _, rfl, Nat.zero_le _, fun _ => rfl, by simpa using I0.out⟩
  case round =>
    obtain ⟨wz, rfl⟩ : ∃ W, W = wr := ⟨_, rfl⟩
    obtain ⟨k, u, fs0, rfl, hk, hk0, hI⟩ := hrel
    clear I0
    have hO := hI.only
    have HO := Lib.hid hO
    by_cases hlt : k < m
    case neg =>
      obtain rfl : k = m := by omega
      have HKM := Lib.hid (show (k ≤ 6 → k = k) ∧ (6 < k → k = 0) from ⟨fun _ => rfl, hk0⟩)
      clear hk0
      obtain ⟨adu, lu, cu, rfl⟩ := ownMss_slice hI.own
      have hE := sFld_eq (l := l) (k := k) HPM.out hk HKM.out
      have hrd : RdFld wz (.agg #[.int .i64 (k : Int), .slice adu lu cu]) (sFld l) := by
        rw [hE]
        exact ⟨_, rfl, ⟨by show (-9223372036854775808 : Int) ≤ (k : Int); omega, by show (k : Int) ≤ 9223372036854775807; omega⟩, ownMss_rd hI.own⟩
      obtain ⟨x, hx⟩ : ∃ x, txt (fldT (sFld l)) = .string x := ⟨_, rfl⟩
      have F1 := Lib.hid (show Calls Tryd.prog 11 #[.agg #[.int .i64 (k : Int), .slice adu lu cu]] wz fun e w' => e = .returned (.string x) ∧ Below wz.heap.size wz w' from hx ▸ sFmtFld_any _ (sFld l) wz hrd)
      have hcmp0 : (x.toList == s.toList) = decide (fldT (sFld l) = l) := by
        unfold txt at hx
        injection hx with hx
        rw [← hx, HS.out, ByteArray.toList_mk, ByteArray.toList_mk, Bool.eq_iff_iff, beq_iff_eq, decide_eq_true_eq]
      have hem := str_empty HS.out
      have hi0 := hI.c0
      have hi1 := hI.c1
      have HI := Lib.hid hI
      have HE := Lib.hid hE
      clear hI hrd hE hx
      cases hle : l.isEmpty with
      | true =>
        rw [hle] at hem
        have HN := Lib.hid (fun W hW => HNO.out W hW (parB_nil hle))
        obtain ⟨hr0, hr1, hf0, hf1⟩ := SX.out _ hO
        have HD := Lib.hid (SD.out _ hO)
        clear hle hcmp0 hO hi0 hi1
        go_wp2
        exact bodyPost_ret (v := .tuple #[.agg #[.int .i64 0, .slice none 0 0], .bool false]) (by simp [results, Tryd.results4, go_sem, hr0, hr1]) rfl (HN.out _ ((HD.out.setCell (Nat.le_refl _) _).setCell (Nat.le_refl _) _))
      | false =>
        rw [hle] at hem
        have hcmp : (x.toList == s.toList) = parB l := by rw [parB_cons hle]; exact hcmp0
        cases hpb : parB l with
        | false =>
          rw [hpb] at hcmp
          have HN := Lib.hid (fun W hW => HNO.out W hW hpb)
          clear hpb hcmp0 hle
          go_wp2_with fail
          refine F1.out.mono ?_
          rintro e w4 ⟨rfl, hb4⟩
          have hO4 := HO.out.trans (Only.of_below hb4)
          obtain ⟨hr0, hr1, hf0, hf1⟩ := SX.out _ hO4
          have HD := Lib.hid (SD.out _ hO4)
          clear hb4 hO4 hi0 hi1 hO
          go_wp2
          exact bodyPost_ret (v := .tuple #[.agg #[.int .i64 0, .slice none 0 0], .bool false]) (by simp [results, Tryd.results4, go_sem, hr0, hr1]) rfl (HN.out _ ((HD.out.setCell (Nat.le_refl _) _).setCell (Nat.le_refl _) _))
        | true =>
          rw [hpb] at hcmp
          have HPB := Lib.hid hpb
          clear hpb hcmp0 hle
          go_wp2_with fail
          refine F1.out.mono ?_
          rintro e w4 ⟨rfl, hb4⟩
          have hO4 := HO.out.trans (Only.of_below hb4)
          obtain ⟨hr0, hr1, hf0, hf1⟩ := SX.out _ hO4
          have HD := Lib.hid (SD.out _ hO4)
          have HI4 := Lib.hid (HI.out.step hb4)
          have hi0 := cell_below hb4 hi0
          have hi1 := cell_below hb4 hi1
          clear hb4 hO4 hO
          go_wp2
          refine bodyPost_ret (v := .tuple #[.agg #[.int .i64 (k : Int), .slice adu lu cu], .bool true]) (by simp [results, Tryd.results4, go_sem, hr0, hr1]) rfl ?_
          show Gives2 _ (parB l) w _ _
          rw [HPB.out]
          have hO2 : Only [w.heap.size] w4 ((w4.setCell ⟨w.heap.size, 0, none⟩ (.int .i64 (k : Int))).setCell ⟨w.heap.size, 1, none⟩ (.slice adu lu cu)) := ((Only.refl _ _).setCell (by simp) _).setCell (by simp) _
          have hs3 := HB3.out.size
          have hs13 := HB13.out.size
          refine ⟨_, fs0, rfl, ?_, fun b hb => ?_, (HD.out.setCell (Nat.le_refl _) _).setCell (Nat.le_refl _) _⟩
          · rw [parF_yes HPB.out, HE.out]
            refine ⟨_, rfl, ⟨by show (-9223372036854775808 : Int) ≤ (k : Int); omega, by show (k : Int) ≤ 9223372036854775807; omega⟩, ownMss_only HI4.out.own hO2 (fun b hb hm => ?_)⟩
            have := HI4.out.new b hb
            simp at hm
            omega
          · have := HI4.out.new b hb
            omega
    case pos =>
    by_cases h6 : 6 < m
    · have HKM := Lib.hid (show (m ≤ 6 → k = m) ∧ (6 < m → k = 0) from ⟨fun h => by omega, hk0⟩)
      have h6I : ¬ ((m : Int) ≤ 6) := by omega
      have hltI : (k : Int) < m := by omega
      clear hk0
      obtain ⟨adu, lu, cu, rfl⟩ := ownMss_slice hI.own
      have hE := sFld_eq (l := l) (k := k) HPM.out hk HKM.out
      have hrd : RdFld wz (.agg #[.int .i64 (m : Int), .slice adu lu cu]) (sFld l) := by
        rw [hE]
        exact ⟨_, rfl, ⟨by show (-9223372036854775808 : Int) ≤ (m : Int); omega, by show (m : Int) ≤ 9223372036854775807; omega⟩, ownMss_rd hI.own⟩
      obtain ⟨x, hx⟩ : ∃ x, txt (fldT (sFld l)) = .string x := ⟨_, rfl⟩
      have F1 := Lib.hid (show Calls Tryd.prog 11 #[.agg #[.int .i64 (m : Int), .slice adu lu cu]] wz fun e w' => e = .returned (.string x) ∧ Below wz.heap.size wz w' from hx ▸ sFmtFld_any _ (sFld l) wz hrd)
      have hcmp0 : (x.toList == s.toList) = decide (fldT (sFld l) = l) := by
        unfold txt at hx
        injection hx with hx
        rw [← hx, HS.out, ByteArray.toList_mk, ByteArray.toList_mk, Bool.eq_iff_iff, beq_iff_eq, decide_eq_true_eq]
      have hem := str_empty HS.out
      have hi0 := hI.c0
      have hi1 := hI.c1
      have HI := Lib.hid hI
      have HE := Lib.hid hE
      clear hI hrd hE hx
      cases hle : l.isEmpty with
      | true =>
        rw [hle] at hem
        have HN := Lib.hid (fun W hW => HNO.out W hW (parB_nil hle))
        obtain ⟨hr0, hr1, hf0, hf1⟩ := SX.out _ hO
        have HD := Lib.hid (SD.out _ hO)
        clear hle hcmp0 hO hi0 hi1
        go_wp2
        exact bodyPost_ret (v := .tuple #[.agg #[.int .i64 0, .slice none 0 0], .bool false]) (by simp [results, Tryd.results4, go_sem, hr0, hr1]) rfl (HN.out _ ((HD.out.setCell (Nat.le_refl _) _).setCell (Nat.le_refl _) _))
      | false =>
        rw [hle] at hem
        have hcmp : (x.toList == s.toList) = parB l := by rw [parB_cons hle]; exact hcmp0
        cases hpb : parB l with
        | false =>
          rw [hpb] at hcmp
          have HN := Lib.hid (fun W hW => HNO.out W hW hpb)
          clear hpb hcmp0 hle
          go_wp2_with fail
          refine F1.out.mono ?_
          rintro e w4 ⟨rfl, hb4⟩
          have hO4 := HO.out.trans (Only.of_below hb4)
          obtain ⟨hr0, hr1, hf0, hf1⟩ := SX.out _ hO4
          have HD := Lib.hid (SD.out _ hO4)
          clear hb4 hO4 hi0 hi1 hO
          go_wp2
          exact bodyPost_ret (v := .tuple #[.agg #[.int .i64 0, .slice none 0 0], .bool false]) (by simp [results, Tryd.results4, go_sem, hr0, hr1]) rfl (HN.out _ ((HD.out.setCell (Nat.le_refl _) _).setCell (Nat.le_refl _) _))
        | true =>
          rw [hpb] at hcmp
          have HPB := Lib.hid hpb
          clear hpb hcmp0 hle
          go_wp2_with fail
          refine F1.out.mono ?_
          rintro e w4 ⟨rfl, hb4⟩
          have hO4 := HO.out.trans (Only.of_below hb4)
          obtain ⟨hr0, hr1, hf0, hf1⟩ := SX.out _ hO4
          have HD := Lib.hid (SD.out _ hO4)
          have HI4 := Lib.hid (HI.out.step hb4)
          have hi0 := cell_below hb4 hi0
          have hi1 := cell_below hb4 hi1
          clear hb4 hO4 hO
          go_wp2
          refine bodyPost_ret (v := .tuple #[.agg #[.int .i64 (m : Int), .slice adu lu cu], .bool true]) (by simp [results, Tryd.results4, go_sem, hr0, hr1]) rfl ?_
          show Gives2 _ (parB l) w _ _
          rw [HPB.out]
          have hO2 : Only [w.heap.size] w4 ((w4.setCell ⟨w.heap.size, 0, none⟩ (.int .i64 (m : Int))).setCell ⟨w.heap.size, 1, none⟩ (.slice adu lu cu)) := ((Only.refl _ _).setCell (by simp) _).setCell (by simp) _
          have hs3 := HB3.out.size
          have hs13 := HB13.out.size
          refine ⟨_, fs0, rfl, ?_, fun b hb => ?_, (HD.out.setCell (Nat.le_refl _) _).setCell (Nat.le_refl _) _⟩
          · rw [parF_yes HPB.out, HE.out]
            refine ⟨_, rfl, ⟨by show (-9223372036854775808 : Int) ≤ (m : Int); omega, by show (m : Int) ≤ 9223372036854775807; omega⟩, ownMss_only HI4.out.own hO2 (fun b hb hm => ?_)⟩
            have := HI4.out.new b hb
            simp at hm
            omega
          · have := HI4.out.new b hb
            omega
    · have h6I : (m : Int) ≤ 6 := by omega
      have hltI : (k : Int) < m := by omega
      have hm6 : m ≤ 6 := by omega
      clear hk0
      obtain ⟨pt, hpt⟩ : ∃ x, (semiS l)[k]? = some x := ⟨_, List.getElem?_eq_getElem (by rw [HPM.out]; exact hlt)⟩
      obtain ⟨y, hy⟩ : ∃ y, y = ByteArray.mk pt.toArray := ⟨_, rfl⟩
      have hcy := SG.out wz hO k pt y hpt hy
      have hptl : pt.length ≤ 1048576 := split_small (by simp) _ l HL.out pt (List.mem_of_getElem? hpt)
      have hi0 := hI.c0
      have hi1 := hI.c1
      have hfi1 := hI.f1
      have HI := Lib.hid hI
      have HI0 := Lib.hid hi0
      have HI1 := Lib.hid hi1
      have HFI1 := Lib.hid hfi1
      have hkl : (((semiS l).take k).map (sPart m)).length = k := by rw [List.length_map, List.length_take, HPM.out]; omega
      obtain ⟨us, fs, hown, hone, hels, rfl, hnd⟩ := hI.own
      have HOWN := Lib.hid hown
      rw [hkl] at hown
      obtain ⟨adu, capu, rfl, hluc, hcum, _⟩ := row_open hown
      have HNU := Lib.hid hown
      have HONE := Lib.hid hone
      have HELS := Lib.hid hels
      have HND := Lib.hid hnd
      have HKL := Lib.hid hkl
      have hlw := World.block_lt_of_cell? _ _ hi1
      simp only at hlw
      have HSN := Lib.hid (map_next (sPart m) hpt)
      have HPT := Lib.hid hpt
      have HPS := Lib.hid (fun (wa w2 : World) (q' : Value) (x : List MonZ) (f' : List Nat) (gg capn : Nat) (hp : OwnMs 35 3 wa q' x f') (hf : ∀ b ∈ f', wz.heap.size ≤ b) (hq : Below wz.heap.size wz wa)
          (hown1 : w2.ownsRow 0 32 1 (.slice (some ⟨gg, 0, none⟩) (k + 1) capn) (k + 1) (us.flatten ++ [q'])) (hgrow : (wa.alloc (.cells #[q'] 32)).grownBy w2 (Value.slice adu k capu).ownBlock) (hat : (Value.slice adu k capu).ownBlock = some gg ∨ gg = wa.heap.size + 1) =>
        FldInv.push HI.out HONE.out HELS.out HND.out HOWN.out HKL.out hp hf hq ((Below.refl _ _).alloc (Nat.le_refl _) _) hown1 hgrow (fun b hb => by
          simp [Value.ownBlock] at hb
          subst hb
          rcases hat with hat | hat
          · left; exact hat
          · right; rw [hat]; simp))
      have HQ0 := Lib.hid (show OwnMs 35 3 (wz.alloc (.cells #[] 35)) (.slice (some ⟨wz.heap.size, 0, none⟩) 0 0) [] [wz.heap.size] from ⟨[], [], by simpa using World.ownsRow_lit (base := 0) (e := 35) (size := 2) wz #[] 0 (Nat.zero_le _) (Nat.zero_le _) rfl, by simp, rfl, rfl, by simp⟩)
      have HB5 := Lib.hid (show Below wz.heap.size wz (wz.alloc (.cells #[] 35)) from (Below.refl _ _).alloc (Nat.le_refl _) _)
      have hdec : (y.toList == [48]) = decide (pt = [48]) := by rw [hy, ByteArray.toList_mk, Bool.eq_iff_iff, beq_iff_eq, decide_eq_true_eq]
      have hdec2 : (y.toList == (ByteArray.mk #[48]).toList) = decide (pt = [48]) := by rw [← hdec, show (ByteArray.mk #[48]).toList = [48] from ByteArray.toList_mk [48]]
      have HY := Lib.hid hy
      have SP2 := Lib.hid (sWords_any pt [32, 43, 32] y ⟨#[32, 43, 32]⟩ hy rfl hptl (by decide) (by decide) (wz.alloc (.cells #[] 35)))
      have HPTL := Lib.hid hptl
      have HCY := Lib.hid hcy
      have hcyE := cell_below HB5.out hcy
      clear hown hone hels hnd hkl hI hpt hy hptl
      go_wp2_with fail
      refine SP2.out.mono ?_
      rintro e w5 ⟨g2, cap2, q, rfl, hR2⟩
      have hqm := hR2.len
      have hqb : q ≤ 1048580 := by
        have h1 := split_len pt [32, 43, 32]
        have h2 := HPTL.out
        omega
      have HRQ := Lib.hid hR2
      have hg2l : g2 < w5.heap.size := (hR2.row.lt g2 (by simp [Value.ownBlock])).2
      have hg2z : wz.heap.size < g2 := by
        obtain ⟨_, _, hv9, hg9⟩ := hR2.shape
        simp only [Value.slice.injEq, Option.some.injEq, Addr.mk.injEq, and_true] at hv9
        have : (wz.alloc (.cells #[] 35)).heap.size = wz.heap.size + 1 := by simp
        omega
      have hq1 : 1 ≤ q := by have := List.length_pos_iff.2 (split_ne pt [32, 43, 32]); omega
      have HQM := Lib.hid (show (plusS pt).length = q from hqm)
      have HB55 := Lib.hid (HB5.out.trans (hR2.below.mono HB5.out.size))
      have HP1 := Lib.hid (show OwnMs 35 3 w5 (.slice (some ⟨wz.heap.size, 0, none⟩) 0 0) (((plusS pt).take 0).map (sMon m)) [wz.heap.size] from ownMs_only HQ0.out (Only.of_below (fp := []) hR2.below) (by simp))
      clear hR2 hqm HQ0 hi0 hi1 hfi1 hcy hcyE
      go_wp2
      go_loopw [7, 9] (fun u si wr => ∃ (j gu cu : Nat) (fs1 : List Nat), u = .slice (some ⟨gu, 0, none⟩) j cu ∧ si = .int .i64 j ∧ j ≤ q ∧ (pt = [48] → j = 0) ∧ OwnMs 35 3 wr u (((plusS pt).take j).map (sMon m)) fs1 ∧ (∀ b ∈ fs1, wz.heap.size ≤ b) ∧ Below wz.heap.size wz wr ∧ g2 ∉ fs1 ∧ (g2 < wr.heap.size ∧ ∀ (jj : Nat) (x : List UInt8) (y : ByteArray), (plusS pt)[jj]? = some x → y = ByteArray.mk x.toArray → wr.cell? ⟨g2, jj, none⟩ = some (.string y))) (fun _ si _ => q - (intOf si).toNat)
      case atStart => exact ⟨0, _, _, _, rfl, rfl, Nat.zero_le _, fun _ => rfl, HP1.out, by simp, HB55.out, by simp; omega, hg2l, fun jj x y hx hy => HRQ.out.at hx hy⟩
      case round =>
        obtain ⟨wk, rfl⟩ : ∃ W, W = wr := ⟨_, rfl⟩
        obtain ⟨j, gu, cu, fs1, rfl, rfl, hj, hj0, ho, hf, hbz, hgn, hgl2, hcells⟩ := hrel
        clear HP1
        have hcyk := cell_below hbz HCY.out
        by_cases hrun : j < q ∧ pt ≠ [48]
        case neg =>
          have hval : ((plusS pt).take j).map (sMon m) = sPart m pt := by
            rw [sPart]
            split
            · rename_i h48
              rw [hj0 h48]; rfl
            · rename_i h48
              rw [List.take_of_length_le (by rw [HQM.out]; by_cases hjq : j < q; exact absurd ⟨hjq, h48⟩ hrun; omega)]
          rw [hval] at ho
          have HOP := Lib.hid ho
          have HFP := Lib.hid hf
          have HRA := Lib.hid hbz
          have HNQ := Lib.hid (ownsRow_only HNU.out (Only.of_below (fp := []) hbz) (by simp))
          have hi1a := cell_below hbz HI1.out
          have hfi1a := (hbz.frozen (p := ⟨w1.heap.size, 1, none⟩) hlw).trans HFI1.out
          have hi1b := cell_below ((Below.refl _ _).alloc (Nat.le_refl _) (.cells #[.slice (some ⟨gu, 0, none⟩) j cu] 32)) hi1a
          have hszE : wk.heap.size = wk.heap.size := rfl
          by_cases hjq : j < q
          · have h48 : pt = [48] := by
              by_cases h : pt = [48]
              · exact h
              · exact absurd ⟨hjq, h⟩ hrun
            rw [decide_eq_true h48] at hdec hdec2
            have hjqI : (j : Int) < q := by omega
            clear ho hf hbz hcells hval hrun hj0 h48
            go_wp2_with (first | (at_builtin; refine wpList_append_lies _ rfl _ _ _ rfl 0 32 j1 _ 1 24 Tryd.underlying22 hj1 hw0 hw1 hw2 rfl (by omega) (.slice adu k capu) k _ (by rfl) (HNQ.out.alloc _) ⟨wk.heap.size, 0, none⟩ 1 1 [(.slice (some ⟨gu, 0, none⟩) j cu)] (by rfl) (by rfl) (World.news_of_block (cs := #[(.slice (some ⟨gu, 0, none⟩) j cu)]) (t := 32) (fr := (0, 0)) (by rw [← hszE]; exact heap_alloc_new _ _)) (by simp [Value.oneCell']) (by omega) (by unfold maxLen; omega) (by omega) (by simp) (wk.heap.size + 1) (by simp) ?_; intro gg capn w8 hown1 hgrow hat hlt1; obtain ⟨hcB, hfB, fp', hP⟩ := HPS.out wk w8 _ _ _ gg capn HOP.out HFP.out HRA.out hown1 hgrow (hat.imp id (fun h => by rw [h, hszE])); have HPP := Lib.hid hP; clear hP hown1 hgrow))
            go_roundw
            case rel => exact ⟨k + 1, _, fp', by go_num, by omega, fun h => absurd h h6, by rw [HSN.out]; exact HPP.out⟩
            case measure => simp [intOf]; omega
          · have hjqI : ¬ ((j : Int) < q) := by omega
            clear ho hf hbz hcells hval hrun hj0
            go_wp2_with (first | (at_builtin; refine wpList_append_lies _ rfl _ _ _ rfl 0 32 j1 _ 1 24 Tryd.underlying22 hj1 hw0 hw1 hw2 rfl (by omega) (.slice adu k capu) k _ (by rfl) (HNQ.out.alloc _) ⟨wk.heap.size, 0, none⟩ 1 1 [(.slice (some ⟨gu, 0, none⟩) j cu)] (by rfl) (by rfl) (World.news_of_block (cs := #[(.slice (some ⟨gu, 0, none⟩) j cu)]) (t := 32) (fr := (0, 0)) (by rw [← hszE]; exact heap_alloc_new _ _)) (by simp [Value.oneCell']) (by omega) (by unfold maxLen; omega) (by omega) (by simp) (wk.heap.size + 1) (by simp) ?_; intro gg capn w8 hown1 hgrow hat hlt1; obtain ⟨hcB, hfB, fp', hP⟩ := HPS.out wk w8 _ _ _ gg capn HOP.out HFP.out HRA.out hown1 hgrow (hat.imp id (fun h => by rw [h, hszE])); have HPP := Lib.hid hP; clear hP hown1 hgrow))
            go_roundw
            case rel => exact ⟨k + 1, _, fp', by go_num, by omega, fun h => absurd h h6, by rw [HSN.out]; exact HPP.out⟩
            case measure => simp [intOf]; omega
        case pos =>
          obtain ⟨hltj, h48⟩ := hrun
          rw [decide_eq_false h48] at hdec hdec2
          have hjqI : (j : Int) < q := by omega
          obtain ⟨tx, htx⟩ : ∃ x, (plusS pt)[j]? = some x := ⟨_, List.getElem?_eq_getElem (by rw [HQM.out]; exact hltj)⟩
          obtain ⟨y2, hy2⟩ : ∃ y, y = ByteArray.mk tx.toArray := ⟨_, rfl⟩
          have hct := hcells j tx y2 htx hy2
          have htl : tx.length ≤ 1048576 := split_small (by simp) _ pt HPTL.out tx (List.mem_of_getElem? htx)
          have hi0k := cell_below hbz HI0.out
          have hdr : Below wk.heap.size wk wk.drew := (Below.refl _ _).drew
          have RM := Lib.hid (sMon_any tx y2 m hy2 htl hm1 hm6 wk.drew)
          have HTN := Lib.hid (map_next (sMon m) htx)
          have H48 := Lib.hid h48
          obtain ⟨us1, fsu, hown, hone, hels, rfl, hnd⟩ := ho
          have hjl : (((plusS pt).take j).map (sMon m)).length = j := by rw [List.length_map, List.length_take, HQM.out]; omega
          have HJL := Lib.hid hjl
          have HOWN1 := Lib.hid hown
          have HONE1 := Lib.hid hone
          have HELS1 := Lib.hid hels
          have HND1 := Lib.hid hnd
          have HF1 := Lib.hid hf
          have HBZ := Lib.hid hbz
          have HCL := Lib.hid hcells
          have HGN := Lib.hid hgn
          clear hy2 htx htl hown hone hels hnd hf hbz hjl hcells hgn hj0 h48
          go_wp2
          go_region_law (first | (refine step_append_lies _ (by rfl) _ _ _ (by rfl) 0 35 i0 _ 2 32 Tryd.underlying32 hi hz0 hz1 hz2 rfl (by omega) (.slice (some ⟨gu, 0, none⟩) j cu) j _ (by rfl) (HNQ1.out.alloc _) ⟨w6.heap.size, 0, none⟩ 1 1 [.int .i64 (sMon m tx).coef, .slice adm lm cm] (by rfl) (by rfl) (World.news_of_block (cs := #[.int .i64 (sMon m tx).coef, .slice adm lm cm]) (t := 35) (fr := (0, 0)) (heap_alloc_new w6 _)) (by simp [Value.oneCell']) (by omega) (by unfold maxLen; omega) (by omega) (by simp) (w6.heap.size + 1) (by simp) ?_; intro gg capn w9 hown1 hgrow hat hlt1; have HN9 := Lib.hid (HFIN.out w9 gg capn hown1 hgrow hat); clear hown1 hgrow) | (go_simp; first | (go_at_call 10; (with_reducible refine (RM.out).mono ?_); rintro e w6 ⟨v6, fp6, rfl, ⟨vP6, rfl, hcI, ho6⟩, hg6, hb6⟩; obtain ⟨adm, lm, cm, rfl, _⟩ := ownI_open ho6; have hr6 := hdr.trans (hb6.mono hdr.size); have hct6 := cell_below hr6 hct; have hi06 := cell_below hr6 hi0k; have HR6 := Lib.hid hr6; have HO6 := Lib.hid ho6; have HNQ1 := Lib.hid (show w6.ownsRow 0 35 2 (.slice (some ⟨gu, 0, none⟩) j cu) j us1.flatten from (by have := ownsRow_only HOWN1.out (Only.of_below (fp := []) HR6.out) (by simp); rwa [HJL.out] at this)); have HFIN := Lib.hid (fun (w9 : World) (gg capn : Nat) (hown1 : w9.ownsRow 0 35 2 (.slice (some ⟨gg, 0, none⟩) (j + 1) capn) (j + 1) (us1.flatten ++ [.int .i64 (sMon m tx).coef, .slice adm lm cm])) (hgrow : (w6.alloc (.cells #[.int .i64 (sMon m tx).coef, .slice adm lm cm] 35)).grownBy w9 (some gu)) (hat : some gu = some gg ∨ gg = w6.heap.size + 1) => sMon_add (wz := wz) (g2 := g2) (pt := pt) HONE1.out HELS1.out HND1.out HOWN1.out HJL.out HF1.out HBZ.out HGN.out ⟨hgl2, trivial⟩ HCL.out HO6.out hcI (fun b hb => (by have h1 := hg6 b hb; have h2 := hdr.size; omega)) HR6.out hown1 hgrow hat); clear ho6 hb6 hr6)))
          all_goals (
            clear hct hi0k
            go_wp2
            go_roundw
            case rel =>
              obtain ⟨f', h1, h2, h3, h4, h5⟩ := HN9.out
              exact ⟨j + 1, _, _, f', rfl, by go_num, by omega, fun h => absurd h H48.out, by rw [HTN.out]; exact h1, h2, h3, h4, h5⟩
            case measure => (simp [intOf]; try omega))
end Go.Proofs.YtdaaamdighojdaaDoor
