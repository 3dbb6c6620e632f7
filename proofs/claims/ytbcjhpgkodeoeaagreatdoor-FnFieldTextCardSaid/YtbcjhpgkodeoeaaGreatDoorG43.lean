/- The texts SFld, PathAt in one: each says at its head what it proves. Conditions: as said there. -/
import Derived.Test.YtbcjhpgkodeoeaaGreatDoorG42
import Derived.Test.YtbcjhpgkodeoeaaGreatDoorG38
import Derived.Test.YtbcjhpgkodeoeaaGreatDoorG09
set_option linter.unusedSimpArgs false
set_option linter.unusedVariables false
/- Fields read from texts: the reference. Conditions: texts of at most a million bytes. -/
namespace Go.Proofs.YtbcjhpgkodeoeaaGreatDoor
open Go.RowKit Go.Sort

theorem sFld_eq {l : List UInt8} {m k : Nat} (hm : (semiS l).length = m) (hk : k ≤ m) (h : (m ≤ 6 → k = m) ∧ (6 < m → k = 0)) : sFld l = ⟨(m : Int), ((semiS l).take k).map (sPart m)⟩ := by
  rw [sFld, hm]
  by_cases h6 : m ≤ 6
  · rw [if_pos h6, h.1 h6, List.take_of_length_le (by omega)]
  · rw [if_neg h6, h.2 (by omega), List.take_zero]; rfl
theorem parB_nil {l : List UInt8} (h : l.isEmpty = true) : parB l = false := by
  cases l with
  | nil => rfl
  | cons a r => cases h
theorem parB_cons {l : List UInt8} (h : l.isEmpty = false) : parB l = decide (fldT (sFld l) = l) := by
  cases l with
  | nil => cases h
  | cons a r => simp [parB]

/-- A monomial more in a row of the call's own, beside a row of texts. -/
theorem sMon_add {wz wk w6 w9 : World} {gu j cu gg capn g2 lm cm : Nat} {adm : Option Addr} {pt : List UInt8} {xs : List MonZ} {mz : MonZ} {us1 : List (List Value)} {fsu fp6 : List Nat}
    (hone : ∀ u ∈ us1, u.length = 2) (hels : OwnEls (OElMon 3) wk us1 xs fsu) (hnd : ((Value.slice (some ⟨gu, 0, none⟩) j cu).ownBlock.toList ++ fsu).Nodup) (hown0 : wk.ownsRow 0 56 2 (.slice (some ⟨gu, 0, none⟩) j cu) xs.length us1.flatten) (hn : xs.length = j)
    (hf : ∀ b ∈ (Value.slice (some ⟨gu, 0, none⟩) j cu).ownBlock.toList ++ fsu, wz.heap.size ≤ b) (hbz : Below wz.heap.size wz wk) (hgn : g2 ∉ (Value.slice (some ⟨gu, 0, none⟩) j cu).ownBlock.toList ++ fsu) (hgl : g2 < wk.heap.size ∧ True)
    (hcl : ∀ (jj : Nat) (x : List UInt8) (y : ByteArray), (plusS pt)[jj]? = some x → y = ByteArray.mk x.toArray → wk.cell? ⟨g2, jj, none⟩ = some (.string y))
    (ho6 : OwnI 3 w6 (.slice adm lm cm) mz.pows fp6) (hcI : I64 mz.coef) (hg6 : ∀ b ∈ fp6, wk.heap.size ≤ b) (hb6 : Below wk.heap.size wk w6)
    (hown1 : w9.ownsRow 0 56 2 (.slice (some ⟨gg, 0, none⟩) (j + 1) capn) (j + 1) (us1.flatten ++ [.int .i64 mz.coef, .slice adm lm cm])) (hgrow : (w6.alloc (.cells #[.int .i64 mz.coef, .slice adm lm cm] 56)).grownBy w9 (some gu)) (hat : some gu = some gg ∨ gg = w6.heap.size + 1) :
    ∃ f', OwnMs 56 3 w9 (.slice (some ⟨gg, 0, none⟩) (j + 1) capn) (xs ++ [mz]) f' ∧ (∀ b ∈ f', wz.heap.size ≤ b) ∧ Below wz.heap.size wz w9 ∧ g2 ∉ f' ∧ (g2 < w9.heap.size ∧ ∀ (jj : Nat) (x : List UInt8) (y : ByteArray), (plusS pt)[jj]? = some x → y = ByteArray.mk x.toArray → w9.cell? ⟨g2, jj, none⟩ = some (.string y)) := by
  have hal : Below w6.heap.size w6 (w6.alloc (.cells #[.int .i64 mz.coef, .slice adm lm cm] 56)) := (Below.refl _ _).alloc (Nat.le_refl _) _
  obtain ⟨f', hP1, hP2, hP3⟩ := ownMs_add (m := mz) hone hels hnd hown0 hn ho6 hcI hg6 hb6 hal hown1 hgrow (fun b hb => by
    simp [Value.ownBlock] at hb
    subst hb
    rcases hat with hat | hat
    · left; simpa [Value.ownBlock] using hat
    · right; rw [hat]; simp)
  have hgu : gu ∈ (Value.slice (some ⟨gu, 0, none⟩) j cu).ownBlock.toList := by simp [Value.ownBlock]
  have hguz := hf gu (List.mem_append.2 (Or.inl hgu))
  have hgug : g2 ≠ gu := fun e => hgn (List.mem_append.2 (Or.inl (e ▸ hgu)))
  have hO9 : Only [gu] w6 w9 := by simpa [Value.ownBlock] using hP3
  have hz6 := hbz.trans (hb6.mono hbz.size)
  have h6 := hb6.size
  have h8 := hO9.size
  have hz := hbz.size
  have hgl' := hgl.1
  have hszl : (w6.alloc (.cells #[.int .i64 mz.coef, .slice adm lm cm] 56)).heap.size = w6.heap.size + 1 := by simp
  refine ⟨f', hP1, fun b hb => ?_, hz6.trans (hO9.below hz6.size (by intro b hb; rw [List.mem_singleton.1 hb]; exact hguz)), fun hm => ?_, by omega, fun jj x y hx hy => cell_only hO9 (by simp; exact hgug) (cell_below hb6 (hcl jj x y hx hy))⟩
  · rcases hP2 b hb with h | h | h
    · exact hf b h
    · have := hg6 b h; omega
    · omega
  · rcases hP2 g2 hm with h | h | h
    · exact hgn h
    · have := hg6 g2 h; omega
    · omega

set_option maxRecDepth 100000 in
set_option maxHeartbeats 6400000 in
theorem sParse_any (l : List UInt8) (s : ByteArray) (hs : s = ByteArray.mk l.toArray) (hl : l.length ≤ 1048576) (w : World) :
    Calls Tryz.prog 32 #[.string s] w (GivesPar l w) := by
  obtain ⟨W0, hW0⟩ : ∃ W, W = w.alloc (.cells #[.int .i64 0, .slice none 0 0] 30) := ⟨_, rfl⟩
  have hb0 : Below w.heap.size w W0 := hW0 ▸ (Below.refl _ _).alloc (Nat.le_refl _) _
  have HB0 := Lib.hid hb0
  have HW0 := Lib.hid hW0
  have hsz : w.heap.size < W0.heap.size := by rw [hW0]; simp
  have HR := Lib.hid (show W0.cell? ⟨w.heap.size, 0, none⟩ = some (.int .i64 0) ∧ W0.cell? ⟨w.heap.size, 1, none⟩ = some (.slice none 0 0) ∧ W0.frozen? ⟨w.heap.size, 0, none⟩ = false ∧ W0.frozen? ⟨w.heap.size, 1, none⟩ = false from by rw [hW0]; refine ⟨?_, ?_, ?_, ?_⟩ <;> simp)
  have SP := Lib.hid (show Calls Tryz.prog 94 #[.string s, .string ⟨#[59, 32]⟩] W0 (Words W0 (semiS l)) from sWords_any l [59, 32] s _ hs rfl hl (by decide) (by decide) W0)
  have HL := Lib.hid hl
  have HS := Lib.hid hs
  have hnone : ∀ W, Below w.heap.size w W → parB l = false → GivesPar l w (.returned (.tuple #[.agg #[.int .i64 0, .slice none 0 0], .bool false])) W := by
    intro W hW hd
    unfold GivesPar
    rw [hd]
    refine ⟨_, [], rfl, ?_, by simp, hW⟩
    rw [parF_no hd]
    exact ⟨_, rfl, ⟨(by decide : (-9223372036854775808 : Int) ≤ 0), (by decide : (0 : Int) ≤ 9223372036854775807)⟩, [], [], World.ownsRow_nil _ _ _ _, by simp, rfl, rfl, by simp⟩
  have HNO := Lib.hid hnone
  clear hs hW0 hb0 hnone
  obtain ⟨i0, hi, hz0, hz1, hz2⟩ := info_parts Tryz.info_mon
  obtain ⟨j1, hj1, hw0, hw1, hw2⟩ := info_parts Tryz.info_mons
  go_enter Tryz.func32, Tryz.ntmps32
  go_wp2_with fail
  rw [← HW0.out]
  refine SP.out.mono ?_
  rintro e w1 ⟨g, cap, m, rfl, hR⟩
  have hpm := hR.len
  have hm1 : 1 ≤ m := by have := semi_pos l; omega
  have hmb : m ≤ 1048580 := by
    have h1 := split_len l [59, 32]
    have h2 := HL.out
    unfold semiS at hpm
    omega
  obtain ⟨W3, hW3⟩ : ∃ W, W = w1.alloc (.cells #[.int .i64 (m : Int), .slice none 0 0] 30) := ⟨_, rfl⟩
  have hb3 : Below w1.heap.size w1 W3 := hW3 ▸ (Below.refl _ _).alloc (Nat.le_refl _) _
  have hbw1 := HB0.out.trans (hR.below.mono HB0.out.size)
  have HBW1 := Lib.hid hbw1
  have I0 := Lib.hid (fldInv_start (e1 := 24) (e2 := 56) (e := 3) hW3)
  have HB3 := Lib.hid (hbw1.trans (hb3.mono hbw1.size))
  have HB13 := Lib.hid hb3
  have HW3 := Lib.hid hW3
  have HRR := Lib.hid hR
  have HPM := Lib.hid hpm
  have hgl : g < w1.heap.size := (hR.row.lt g (by simp [Value.ownBlock])).2
  have hsz1 : w.heap.size < w1.heap.size := by have := hR.below.size; omega
  -- what stays as it was: the result's own cells, the row of parts, the library's variable
  have SX := Lib.hid (fun (X : World) (hX : Only [w1.heap.size] W3 X) => show X.cell? ⟨w.heap.size, 0, none⟩ = some (.int .i64 0) ∧ X.cell? ⟨w.heap.size, 1, none⟩ = some (.slice none 0 0) ∧ X.frozen? ⟨w.heap.size, 0, none⟩ = false ∧ X.frozen? ⟨w.heap.size, 1, none⟩ = false from by
    have hb01 := HRR.out.below
    have hsz3 : w.heap.size < W3.heap.size := by have := hb3.size; omega
    refine ⟨cell_only hX (by simp; omega) (cell_below hb3 (cell_below hb01 HR.out.1)), cell_only hX (by simp; omega) (cell_below hb3 (cell_below hb01 HR.out.2.1)), ?_, ?_⟩
    · exact (World.frozen?_of_block (hX.block _ hsz3 (by simp; omega))).trans ((hb3.frozen (p := ⟨w.heap.size, 0, none⟩) hsz1).trans ((hb01.frozen (p := ⟨w.heap.size, 0, none⟩) hsz).trans HR.out.2.2.1))
    · exact (World.frozen?_of_block (hX.block _ hsz3 (by simp; omega))).trans ((hb3.frozen (p := ⟨w.heap.size, 1, none⟩) hsz1).trans ((hb01.frozen (p := ⟨w.heap.size, 1, none⟩) hsz).trans HR.out.2.2.2)))
  have SG := Lib.hid (fun (X : World) (hX : Only [w1.heap.size] W3 X) (k : Nat) (x : List UInt8) (y : ByteArray) (hx : (semiS l)[k]? = some x) (hy : y = ByteArray.mk x.toArray) => show X.cell? ⟨g, k, none⟩ = some (.string y) from cell_only hX (by simp; omega) (cell_below hb3 (HRR.out.at hx hy)))
  have SD := Lib.hid (fun (X : World) (hX : Only [w1.heap.size] W3 X) => show Below w.heap.size w X from HB3.out.trans (hX.below HB3.out.size (by intro b hb; simp at hb; omega)))
  clear hR hpm hb3 hbw1 hW3
  go_wp2
  rw [← HW3.out]
  go_loopw [6] (fun si wr => ∃ (k : Nat) (u : Value) (fs : List Nat), si = .int .i64 k ∧ k ≤ m ∧ (6 < m → k = 0) ∧ FldInv 24 56 3 W3 wr w1.heap.size (m : Int) u (((semiS l).take k).map (sPart m)) fs) (fun si _ => m - (intOf si).toNat)
  case atStart => exact ⟨0, _, _, rfl, Nat.zero_le _, fun _ => rfl, by simpa using I0.out⟩
  case round =>
    obtain ⟨wz, rfl⟩ : ∃ W, W = wr := ⟨_, rfl⟩
    obtain ⟨k, u, fs0, rfl, hk, hk0, hI⟩ := hrel
    clear I0
    have hO := hI.only
    have HO := Lib.hid hO
    by_cases hlt : k < m
    case neg =>
      obtain rfl : k = m := by omega
      have HKM := Lib.hid (show (k ≤ 6 → k = k) ∧ (6 < k → k = 0) from ⟨fun _ => rfl, hk0⟩)
      clear hk0
      obtain ⟨adu, lu, cu, rfl⟩ := ownMss_slice hI.own
      have hE := sFld_eq (l := l) (k := k) HPM.out hk HKM.out
      have hrd : RdFld wz (.agg #[.int .i64 (k : Int), .slice adu lu cu]) (sFld l) := by
        rw [hE]
        exact ⟨_, rfl, ⟨by show (-9223372036854775808 : Int) ≤ (k : Int); omega, by show (k : Int) ≤ 9223372036854775807; omega⟩, ownMss_rd hI.own⟩
      obtain ⟨x, hx⟩ : ∃ x, txt (fldT (sFld l)) = .string x := ⟨_, rfl⟩
      have F1 := Lib.hid (show Calls Tryz.prog 36 #[.agg #[.int .i64 (k : Int), .slice adu lu cu]] wz fun e w' => e = .returned (.string x) ∧ Below wz.heap.size wz w' from hx ▸ sFmtFld_any _ (sFld l) wz hrd)
      have hcmp0 : (x.toList == s.toList) = decide (fldT (sFld l) = l) := by
        unfold txt at hx
        injection hx with hx
        rw [← hx, HS.out, ByteArray.toList_mk, ByteArray.toList_mk, Bool.eq_iff_iff, beq_iff_eq, decide_eq_true_eq]
      have hem := str_empty HS.out
      have hi0 := hI.c0
      have hi1 := hI.c1
      have HI := Lib.hid hI
      have HE := Lib.hid hE
      clear hI hrd hE hx
      cases hle : l.isEmpty with
      | true =>
        rw [hle] at hem
        have HN := Lib.hid (fun W hW => HNO.out W hW (parB_nil hle))
        obtain ⟨hr0, hr1, hf0, hf1⟩ := SX.out _ hO
        have HD := Lib.hid (SD.out _ hO)
        clear hle hcmp0 hO hi0 hi1
        go_wp2
        exact bodyPost_ret (v := .tuple #[.agg #[.int .i64 0, .slice none 0 0], .bool false]) (by simp [results, Tryz.results32, go_sem, hr0, hr1]) rfl (HN.out _ ((HD.out.setCell (Nat.le_refl _) _).setCell (Nat.le_refl _) _))
      | false =>
        rw [hle] at hem
        have hcmp : (x.toList == s.toList) = parB l := by rw [parB_cons hle]; exact hcmp0
        cases hpb : parB l with
        | false =>
          rw [hpb] at hcmp
          have HN := Lib.hid (fun W hW => HNO.out W hW hpb)
          clear hpb hcmp0 hle
          go_wp2_with fail
          refine F1.out.mono ?_
          rintro e w4 ⟨rfl, hb4⟩
          have hO4 := HO.out.trans (Only.of_below hb4)
          obtain ⟨hr0, hr1, hf0, hf1⟩ := SX.out _ hO4
          have HD := Lib.hid (SD.out _ hO4)
          clear hb4 hO4 hi0 hi1 hO
          go_wp2
          exact bodyPost_ret (v := .tuple #[.agg #[.int .i64 0, .slice none 0 0], .bool false]) (by simp [results, Tryz.results32, go_sem, hr0, hr1]) rfl (HN.out _ ((HD.out.setCell (Nat.le_refl _) _).setCell (Nat.le_refl _) _))
        | true =>
          rw [hpb] at hcmp
          have HPB := Lib.hid hpb
          clear hpb hcmp0 hle
          go_wp2_with fail
          refine F1.out.mono ?_
          rintro e w4 ⟨rfl, hb4⟩
          have hO4 := HO.out.trans (Only.of_below hb4)
          obtain ⟨hr0, hr1, hf0, hf1⟩ := SX.out _ hO4
          have HD := Lib.hid (SD.out _ hO4)
          have HI4 := Lib.hid (HI.out.step hb4)
          have hi0 := cell_below hb4 hi0
          have hi1 := cell_below hb4 hi1
          clear hb4 hO4 hO
          go_wp2
          refine bodyPost_ret (v := .tuple #[.agg #[.int .i64 (k : Int), .slice adu lu cu], .bool true]) (by simp [results, Tryz.results32, go_sem, hr0, hr1]) rfl ?_
          show Gives2 _ (parB l) w _ _
          rw [HPB.out]
          have hO2 : Only [w.heap.size] w4 ((w4.setCell ⟨w.heap.size, 0, none⟩ (.int .i64 (k : Int))).setCell ⟨w.heap.size, 1, none⟩ (.slice adu lu cu)) := ((Only.refl _ _).setCell (by simp) _).setCell (by simp) _
          have hs3 := HB3.out.size
          have hs13 := HB13.out.size
          refine ⟨_, fs0, rfl, ?_, fun b hb => ?_, (HD.out.setCell (Nat.le_refl _) _).setCell (Nat.le_refl _) _⟩
          · rw [parF_yes HPB.out, HE.out]
            refine ⟨_, rfl, ⟨by show (-9223372036854775808 : Int) ≤ (k : Int); omega, by show (k : Int) ≤ 9223372036854775807; omega⟩, ownMss_only HI4.out.own hO2 (fun b hb hm => ?_)⟩
            have := HI4.out.new b hb
            simp at hm
            omega
          · have := HI4.out.new b hb
            omega
    case pos =>
    by_cases h6 : 6 < m
    · have HKM := Lib.hid (show (m ≤ 6 → k = m) ∧ (6 < m → k = 0) from ⟨fun h => by omega, hk0⟩)
      have h6I : ¬ ((m : Int) ≤ 6) := by omega
      have hltI : (k : Int) < m := by omega
      clear hk0
      obtain ⟨adu, lu, cu, rfl⟩ := ownMss_slice hI.own
      have hE := sFld_eq (l := l) (k := k) HPM.out hk HKM.out
      have hrd : RdFld wz (.agg #[.int .i64 (m : Int), .slice adu lu cu]) (sFld l) := by
        rw [hE]
        exact ⟨_, rfl, ⟨by show (-9223372036854775808 : Int) ≤ (m : Int); omega, by show (m : Int) ≤ 9223372036854775807; omega⟩, ownMss_rd hI.own⟩
      obtain ⟨x, hx⟩ : ∃ x, txt (fldT (sFld l)) = .string x := ⟨_, rfl⟩
      have F1 := Lib.hid (show Calls Tryz.prog 36 #[.agg #[.int .i64 (m : Int), .slice adu lu cu]] wz fun e w' => e = .returned (.string x) ∧ Below wz.heap.size wz w' from hx ▸ sFmtFld_any _ (sFld l) wz hrd)
      have hcmp0 : (x.toList == s.toList) = decide (fldT (sFld l) = l) := by
        unfold txt at hx
        injection hx with hx
        rw [← hx, HS.out, ByteArray.toList_mk, ByteArray.toList_mk, Bool.eq_iff_iff, beq_iff_eq, decide_eq_true_eq]
      have hem := str_empty HS.out
      have hi0 := hI.c0
      have hi1 := hI.c1
      have HI := Lib.hid hI
      have HE := Lib.hid hE
      clear hI hrd hE hx
      cases hle : l.isEmpty with
      | true =>
        rw [hle] at hem
        have HN := Lib.hid (fun W hW => HNO.out W hW (parB_nil hle))
        obtain ⟨hr0, hr1, hf0, hf1⟩ := SX.out _ hO
        have HD := Lib.hid (SD.out _ hO)
        clear hle hcmp0 hO hi0 hi1
        go_wp2
        exact bodyPost_ret (v := .tuple #[.agg #[.int .i64 0, .slice none 0 0], .bool false]) (by simp [results, Tryz.results32, go_sem, hr0, hr1]) rfl (HN.out _ ((HD.out.setCell (Nat.le_refl _) _).setCell (Nat.le_refl _) _))
      | false =>
        rw [hle] at hem
        have hcmp : (x.toList == s.toList) = parB l := by rw [parB_cons hle]; exact hcmp0
        cases hpb : parB l with
        | false =>
          rw [hpb] at hcmp
          have HN := Lib.hid (fun W hW => HNO.out W hW hpb)
          clear hpb hcmp0 hle
          go_wp2_with fail
          refine F1.out.mono ?_
          rintro e w4 ⟨rfl, hb4⟩
          have hO4 := HO.out.trans (Only.of_below hb4)
          obtain ⟨hr0, hr1, hf0, hf1⟩ := SX.out _ hO4
          have HD := Lib.hid (SD.out _ hO4)
          clear hb4 hO4 hi0 hi1 hO
          go_wp2
          exact bodyPost_ret (v := .tuple #[.agg #[.int .i64 0, .slice none 0 0], .bool false]) (by simp [results, Tryz.results32, go_sem, hr0, hr1]) rfl (HN.out _ ((HD.out.setCell (Nat.le_refl _) _).setCell (Nat.le_refl _) _))
        | true =>
          rw [hpb] at hcmp
          have HPB := Lib.hid hpb
          clear hpb hcmp0 hle
          go_wp2_with fail
          refine F1.out.mono ?_
          rintro e w4 ⟨rfl, hb4⟩
          have hO4 := HO.out.trans (Only.of_below hb4)
          obtain ⟨hr0, hr1, hf0, hf1⟩ := SX.out _ hO4
          have HD := Lib.hid (SD.out _ hO4)
          have HI4 := Lib.hid (HI.out.step hb4)
          have hi0 := cell_below hb4 hi0
          have hi1 := cell_below hb4 hi1
          clear hb4 hO4 hO
          go_wp2
          refine bodyPost_ret (v := .tuple #[.agg #[.int .i64 (m : Int), .slice adu lu cu], .bool true]) (by simp [results, Tryz.results32, go_sem, hr0, hr1]) rfl ?_
          show Gives2 _ (parB l) w _ _
          rw [HPB.out]
          have hO2 : Only [w.heap.size] w4 ((w4.setCell ⟨w.heap.size, 0, none⟩ (.int .i64 (m : Int))).setCell ⟨w.heap.size, 1, none⟩ (.slice adu lu cu)) := ((Only.refl _ _).setCell (by simp) _).setCell (by simp) _
          have hs3 := HB3.out.size
          have hs13 := HB13.out.size
          refine ⟨_, fs0, rfl, ?_, fun b hb => ?_, (HD.out.setCell (Nat.le_refl _) _).setCell (Nat.le_refl _) _⟩
          · rw [parF_yes HPB.out, HE.out]
            refine ⟨_, rfl, ⟨by show (-9223372036854775808 : Int) ≤ (m : Int); omega, by show (m : Int) ≤ 9223372036854775807; omega⟩, ownMss_only HI4.out.own hO2 (fun b hb hm => ?_)⟩
            have := HI4.out.new b hb
            simp at hm
            omega
          · have := HI4.out.new b hb
            omega
    · have h6I : (m : Int) ≤ 6 := by omega
      have hltI : (k : Int) < m := by omega
      have hm6 : m ≤ 6 := by omega
      clear hk0
      obtain ⟨pt, hpt⟩ : ∃ x, (semiS l)[k]? = some x := ⟨_, List.getElem?_eq_getElem (by rw [HPM.out]; exact hlt)⟩
      obtain ⟨y, hy⟩ : ∃ y, y = ByteArray.mk pt.toArray := ⟨_, rfl⟩
      have hcy := SG.out wz hO k pt y hpt hy
      have hptl : pt.length ≤ 1048576 := split_small (by simp) _ l HL.out pt (List.mem_of_getElem? hpt)
      have hi0 := hI.c0
      have hi1 := hI.c1
      have hfi1 := hI.f1
      have HI := Lib.hid hI
      have HI0 := Lib.hid hi0
      have HI1 := Lib.hid hi1
      have HFI1 := Lib.hid hfi1
      have hkl : (((semiS l).take k).map (sPart m)).length = k := by rw [List.length_map, List.length_take, HPM.out]; omega
      obtain ⟨us, fs, hown, hone, hels, rfl, hnd⟩ := hI.own
      have HOWN := Lib.hid hown
      rw [hkl] at hown
      obtain ⟨adu, capu, rfl, hluc, hcum, _⟩ := row_open hown
      have HNU := Lib.hid hown
      have HONE := Lib.hid hone
      have HELS := Lib.hid hels
      have HND := Lib.hid hnd
      have HKL := Lib.hid hkl
      have hlw := World.block_lt_of_cell? _ _ hi1
      simp only at hlw
      have HSN := Lib.hid (map_next (sPart m) hpt)
      have HPT := Lib.hid hpt
      have HPS := Lib.hid (fun (wa w2 : World) (q' : Value) (x : List MonZ) (f' : List Nat) (gg capn : Nat) (hp : OwnMs 56 3 wa q' x f') (hf : ∀ b ∈ f', wz.heap.size ≤ b) (hq : Below wz.heap.size wz wa)
          (hown1 : w2.ownsRow 0 24 1 (.slice (some ⟨gg, 0, none⟩) (k + 1) capn) (k + 1) (us.flatten ++ [q'])) (hgrow : (wa.alloc (.cells #[q'] 24)).grownBy w2 (Value.slice adu k capu).ownBlock) (hat : (Value.slice adu k capu).ownBlock = some gg ∨ gg = wa.heap.size + 1) =>
        FldInv.push HI.out HONE.out HELS.out HND.out HOWN.out HKL.out hp hf hq ((Below.refl _ _).alloc (Nat.le_refl _) _) hown1 hgrow (fun b hb => by
          simp [Value.ownBlock] at hb
          subst hb
          rcases hat with hat | hat
          · left; exact hat
          · right; rw [hat]; simp))
      have HQ0 := Lib.hid (show OwnMs 56 3 (wz.alloc (.cells #[] 56)) (.slice (some ⟨wz.heap.size, 0, none⟩) 0 0) [] [wz.heap.size] from ⟨[], [], by simpa using World.ownsRow_lit (base := 0) (e := 56) (size := 2) wz #[] 0 (Nat.zero_le _) (Nat.zero_le _) rfl, by simp, rfl, rfl, by simp⟩)
      have HB5 := Lib.hid (show Below wz.heap.size wz (wz.alloc (.cells #[] 56)) from (Below.refl _ _).alloc (Nat.le_refl _) _)
      have hdec : (y.toList == [48]) = decide (pt = [48]) := by rw [hy, ByteArray.toList_mk, Bool.eq_iff_iff, beq_iff_eq, decide_eq_true_eq]
      have hdec2 : (y.toList == (ByteArray.mk #[48]).toList) = decide (pt = [48]) := by rw [← hdec, show (ByteArray.mk #[48]).toList = [48] from ByteArray.toList_mk [48]]
      have HY := Lib.hid hy
      have SP2 := Lib.hid (sWords_any pt [32, 43, 32] y ⟨#[32, 43, 32]⟩ hy rfl hptl (by decide) (by decide) (wz.alloc (.cells #[] 56)))
      have HPTL := Lib.hid hptl
      have HCY := Lib.hid hcy
      have hcyE := cell_below HB5.out hcy
      clear hown hone hels hnd hkl hI hpt hy hptl
      go_wp2_with fail
      refine SP2.out.mono ?_
      rintro e w5 ⟨g2, cap2, q, rfl, hR2⟩
      have hqm := hR2.len
      have hqb : q ≤ 1048580 := by
        have h1 := split_len pt [32, 43, 32]
        have h2 := HPTL.out
        omega
      have HRQ := Lib.hid hR2
      have hg2l : g2 < w5.heap.size := (hR2.row.lt g2 (by simp [Value.ownBlock])).2
      have hg2z : wz.heap.size < g2 := by
        obtain ⟨_, _, hv9, hg9⟩ := hR2.shape
        simp only [Value.slice.injEq, Option.some.injEq, Addr.mk.injEq, and_true] at hv9
        have : (wz.alloc (.cells #[] 56)).heap.size = wz.heap.size + 1 := by simp
        omega
      have hq1 : 1 ≤ q := by have := List.length_pos_iff.2 (split_ne pt [32, 43, 32]); omega
      have HQM := Lib.hid (show (plusS pt).length = q from hqm)
      have HB55 := Lib.hid (HB5.out.trans (hR2.below.mono HB5.out.size))
      have HP1 := Lib.hid (show OwnMs 56 3 w5 (.slice (some ⟨wz.heap.size, 0, none⟩) 0 0) (((plusS pt).take 0).map (sMon m)) [wz.heap.size] from ownMs_only HQ0.out (Only.of_below (fp := []) hR2.below) (by simp))
      clear hR2 hqm HQ0 hi0 hi1 hfi1 hcy hcyE
      go_wp2
      go_loopw [7, 9] (fun u si wr => ∃ (j gu cu : Nat) (fs1 : List Nat), u = .slice (some ⟨gu, 0, none⟩) j cu ∧ si = .int .i64 j ∧ j ≤ q ∧ (pt = [48] → j = 0) ∧ OwnMs 56 3 wr u (((plusS pt).take j).map (sMon m)) fs1 ∧ (∀ b ∈ fs1, wz.heap.size ≤ b) ∧ Below wz.heap.size wz wr ∧ g2 ∉ fs1 ∧ (g2 < wr.heap.size ∧ ∀ (jj : Nat) (x : List UInt8) (y : ByteArray), (plusS pt)[jj]? = some x → y = ByteArray.mk x.toArray → wr.cell? ⟨g2, jj, none⟩ = some (.string y))) (fun _ si _ => q - (intOf si).toNat)
      case atStart => exact ⟨0, _, _, _, rfl, rfl, Nat.zero_le _, fun _ => rfl, HP1.out, by simp, HB55.out, by simp; omega, hg2l, fun jj x y hx hy => HRQ.out.at hx hy⟩
      case round =>
        obtain ⟨wk, rfl⟩ : ∃ W, W = wr := ⟨_, rfl⟩
        obtain ⟨j, gu, cu, fs1, rfl, rfl, hj, hj0, ho, hf, hbz, hgn, hgl2, hcells⟩ := hrel
        clear HP1
        have hcyk := cell_below hbz HCY.out
        by_cases hrun : j < q ∧ pt ≠ [48]
        case neg =>
          have hval : ((plusS pt).take j).map (sMon m) = sPart m pt := by
            rw [sPart]
            split
            · rename_i h48
              rw [hj0 h48]; rfl
            · rename_i h48
              rw [List.take_of_length_le (by rw [HQM.out]; by_cases hjq : j < q; exact absurd ⟨hjq, h48⟩ hrun; omega)]
          rw [hval] at ho
          have HOP := Lib.hid ho
          have HFP := Lib.hid hf
          have HRA := Lib.hid hbz
          have HNQ := Lib.hid (ownsRow_only HNU.out (Only.of_below (fp := []) hbz) (by simp))
          have hi1a := cell_below hbz HI1.out
          have hfi1a := (hbz.frozen (p := ⟨w1.heap.size, 1, none⟩) hlw).trans HFI1.out
          have hi1b := cell_below ((Below.refl _ _).alloc (Nat.le_refl _) (.cells #[.slice (some ⟨gu, 0, none⟩) j cu] 24)) hi1a
          have hszE : wk.heap.size = wk.heap.size := rfl
          by_cases hjq : j < q
          · have h48 : pt = [48] := by
              by_cases h : pt = [48]
              · exact h
              · exact absurd ⟨hjq, h⟩ hrun
            rw [decide_eq_true h48] at hdec hdec2
            have hjqI : (j : Int) < q := by omega
            clear ho hf hbz hcells hval hrun hj0 h48
            go_wp2_with (first | (at_builtin; refine wpList_append_lies _ rfl _ _ _ rfl 0 24 j1 _ 1 24 Tryz.underlying28 hj1 hw0 hw1 hw2 rfl (by omega) (.slice adu k capu) k _ (by rfl) (HNQ.out.alloc _) ⟨wk.heap.size, 0, none⟩ 1 1 [(.slice (some ⟨gu, 0, none⟩) j cu)] (by rfl) (by rfl) (World.news_of_block (cs := #[(.slice (some ⟨gu, 0, none⟩) j cu)]) (t := 24) (fr := (0, 0)) (by rw [← hszE]; exact heap_alloc_new _ _)) (by simp [Value.oneCell']) (by omega) (by unfold maxLen; omega) (by omega) (by simp) (wk.heap.size + 1) (by simp) ?_; intro gg capn w8 hown1 hgrow hat hlt1; obtain ⟨hcB, hfB, fp', hP⟩ := HPS.out wk w8 _ _ _ gg capn HOP.out HFP.out HRA.out hown1 hgrow (hat.imp id (fun h => by rw [h, hszE])); have HPP := Lib.hid hP; clear hP hown1 hgrow))
            go_roundw
            case rel => exact ⟨k + 1, _, fp', by go_num, by omega, fun h => absurd h h6, by rw [HSN.out]; exact HPP.out⟩
            case measure => simp [intOf]; omega
          · have hjqI : ¬ ((j : Int) < q) := by omega
            clear ho hf hbz hcells hval hrun hj0
            go_wp2_with (first | (at_builtin; refine wpList_append_lies _ rfl _ _ _ rfl 0 24 j1 _ 1 24 Tryz.underlying28 hj1 hw0 hw1 hw2 rfl (by omega) (.slice adu k capu) k _ (by rfl) (HNQ.out.alloc _) ⟨wk.heap.size, 0, none⟩ 1 1 [(.slice (some ⟨gu, 0, none⟩) j cu)] (by rfl) (by rfl) (World.news_of_block (cs := #[(.slice (some ⟨gu, 0, none⟩) j cu)]) (t := 24) (fr := (0, 0)) (by rw [← hszE]; exact heap_alloc_new _ _)) (by simp [Value.oneCell']) (by omega) (by unfold maxLen; omega) (by omega) (by simp) (wk.heap.size + 1) (by simp) ?_; intro gg capn w8 hown1 hgrow hat hlt1; obtain ⟨hcB, hfB, fp', hP⟩ := HPS.out wk w8 _ _ _ gg capn HOP.out HFP.out HRA.out hown1 hgrow (hat.imp id (fun h => by rw [h, hszE])); have HPP := Lib.hid hP; clear hP hown1 hgrow))
            go_roundw
            case rel => exact ⟨k + 1, _, fp', by go_num, by omega, fun h => absurd h h6, by rw [HSN.out]; exact HPP.out⟩
            case measure => simp [intOf]; omega
        case pos =>
          obtain ⟨hltj, h48⟩ := hrun
          rw [decide_eq_false h48] at hdec hdec2
          have hjqI : (j : Int) < q := by omega
          obtain ⟨tx, htx⟩ : ∃ x, (plusS pt)[j]? = some x := ⟨_, List.getElem?_eq_getElem (by rw [HQM.out]; exact hltj)⟩
          obtain ⟨y2, hy2⟩ : ∃ y, y = ByteArray.mk tx.toArray := ⟨_, rfl⟩
          have hct := hcells j tx y2 htx hy2
          have htl : tx.length ≤ 1048576 := split_small (by simp) _ pt HPTL.out tx (List.mem_of_getElem? htx)
          have hi0k := cell_below hbz HI0.out
          have hdr : Below wk.heap.size wk wk.drew := (Below.refl _ _).drew
          have RM := Lib.hid (sMon_any tx y2 m hy2 htl hm1 hm6 wk.drew)
          have HTN := Lib.hid (map_next (sMon m) htx)
          have H48 := Lib.hid h48
          obtain ⟨us1, fsu, hown, hone, hels, rfl, hnd⟩ := ho
          have hjl : (((plusS pt).take j).map (sMon m)).length = j := by rw [List.length_map, List.length_take, HQM.out]; omega
          have HJL := Lib.hid hjl
          have HOWN1 := Lib.hid hown
          have HONE1 := Lib.hid hone
          have HELS1 := Lib.hid hels
          have HND1 := Lib.hid hnd
          have HF1 := Lib.hid hf
          have HBZ := Lib.hid hbz
          have HCL := Lib.hid hcells
          have HGN := Lib.hid hgn
          clear hy2 htx htl hown hone hels hnd hf hbz hjl hcells hgn hj0 h48
          go_wp2
          go_region_law (first | (refine step_append_lies _ (by rfl) _ _ _ (by rfl) 0 56 i0 _ 2 32 Tryz.underlying24 hi hz0 hz1 hz2 rfl (by omega) (.slice (some ⟨gu, 0, none⟩) j cu) j _ (by rfl) (HNQ1.out.alloc _) ⟨w6.heap.size, 0, none⟩ 1 1 [.int .i64 (sMon m tx).coef, .slice adm lm cm] (by rfl) (by rfl) (World.news_of_block (cs := #[.int .i64 (sMon m tx).coef, .slice adm lm cm]) (t := 56) (fr := (0, 0)) (heap_alloc_new w6 _)) (by simp [Value.oneCell']) (by omega) (by unfold maxLen; omega) (by omega) (by simp) (w6.heap.size + 1) (by simp) ?_; intro gg capn w9 hown1 hgrow hat hlt1; have HN9 := Lib.hid (HFIN.out w9 gg capn hown1 hgrow hat); clear hown1 hgrow) | (go_simp; first | (go_at_call 95; (with_reducible refine (RM.out).mono ?_); rintro e w6 ⟨v6, fp6, rfl, ⟨vP6, rfl, hcI, ho6⟩, hg6, hb6⟩; obtain ⟨adm, lm, cm, rfl, _⟩ := ownI_open ho6; have hr6 := hdr.trans (hb6.mono hdr.size); have hct6 := cell_below hr6 hct; have hi06 := cell_below hr6 hi0k; have HR6 := Lib.hid hr6; have HO6 := Lib.hid ho6; have HNQ1 := Lib.hid (show w6.ownsRow 0 56 2 (.slice (some ⟨gu, 0, none⟩) j cu) j us1.flatten from (by have := ownsRow_only HOWN1.out (Only.of_below (fp := []) HR6.out) (by simp); rwa [HJL.out] at this)); have HFIN := Lib.hid (fun (w9 : World) (gg capn : Nat) (hown1 : w9.ownsRow 0 56 2 (.slice (some ⟨gg, 0, none⟩) (j + 1) capn) (j + 1) (us1.flatten ++ [.int .i64 (sMon m tx).coef, .slice adm lm cm])) (hgrow : (w6.alloc (.cells #[.int .i64 (sMon m tx).coef, .slice adm lm cm] 56)).grownBy w9 (some gu)) (hat : some gu = some gg ∨ gg = w6.heap.size + 1) => sMon_add (wz := wz) (g2 := g2) (pt := pt) HONE1.out HELS1.out HND1.out HOWN1.out HJL.out HF1.out HBZ.out HGN.out ⟨hgl2, trivial⟩ HCL.out HO6.out hcI (fun b hb => (by have h1 := hg6 b hb; have h2 := hdr.size; omega)) HR6.out hown1 hgrow hat); clear ho6 hb6 hr6)))
          all_goals (
            clear hct hi0k
            go_wp2
            go_roundw
            case rel =>
              obtain ⟨f', h1, h2, h3, h4, h5⟩ := HN9.out
              exact ⟨j + 1, _, _, f', rfl, by go_num, by omega, fun h => absurd h H48.out, by rw [HTN.out]; exact h1, h2, h3, h4, h5⟩
            case measure => (simp [intOf]; try omega))
end Go.Proofs.YtbcjhpgkodeoeaaGreatDoor

/- PathAt, of the program and of the reference: both give the value of the path's polynomials. Conditions: none. -/
namespace Go.Proofs.YtbcjhpgkodeoeaaGreatDoor
open Go.RowKit

/-- The value of the polynomial of the coordinate i, whose coefficients are those of the rows, at h. -/
def hornZ (h : Int) (i : Nat) : List (List Int) → Int
  | [] => 0
  | y :: ys => plusZ (timesZ (hornZ h i ys) h) (y[i]?.getD 0)

/-- .. and the sum of the first terms. -/
def psumZ (h : Int) (i : Nat) (xs : List (List Int)) : Nat → Int
  | 0 => 0
  | k + 1 => plusZ (psumZ h i xs k) (timesZ ((xs[k]?.getD [])[i]?.getD 0) (powZ h k))

def pathAtZ (h : Int) (xs : List (List Int)) (n : Nat) : List Int := (List.range n).map fun i => hornZ h i xs

theorem psum_horn (h : Int) (i : Nat) (xs : List (List Int)) : ∀ k, k ≤ xs.length → (psumZ h i xs k + hornZ h i (xs.drop k) * h ^ k) % 1000000271 = hornZ h i xs % 1000000271 := by
  intro k
  induction k with
  | zero => intro _; simp [psumZ]
  | succ k ih =>
    intro hk
    rw [← ih (by omega)]
    have hd : xs.drop k = xs[k] :: xs.drop (k + 1) := List.drop_eq_getElem_cons (by omega)
    rw [hd]
    simp only [psumZ, hornZ, List.getElem?_eq_getElem (show k < xs.length by omega), Option.getD_some]
    generalize hornZ h i (xs.drop (k + 1)) = a
    generalize psumZ h i xs k = b
    generalize (xs[k])[i]?.getD 0 = c
    have hp : powZ h k = h ^ k % 1000000271 := by
      unfold powZ; rw [if_neg (by omega)]; simp
    simp only [plusZ, timesZ, hp]
    have e1 : (c * (h ^ k % 1000000271)) % 1000000271 = (c * h ^ k) % 1000000271 := by rw [Int.mul_emod, Int.emod_emod, ← Int.mul_emod]
    have e2 : ((a * h % 1000000271 + c) % 1000000271 * h ^ k) % 1000000271 = ((a * h + c) * h ^ k) % 1000000271 := by
      rw [Int.mul_emod, Int.emod_emod, ← Int.mul_emod, Int.mul_emod, Int.add_emod, Int.emod_emod, ← Int.add_emod, ← Int.mul_emod]
    have e3 : (a * h + c) * h ^ k = a * h ^ (k + 1) + c * h ^ k := by rw [Int.add_mul, Int.pow_succ, Int.mul_assoc, Int.mul_comm h]
    rw [e1]
    rw [e3] at e2
    omega

theorem horn_bd (h : Int) (i : Nat) (xs : List (List Int)) : 0 ≤ hornZ h i xs ∧ hornZ h i xs ≤ 1000000270 := by
  cases xs with
  | nil => simp [hornZ]
  | cons y ys => exact plusZ_bd _ _
theorem psum_bd (h : Int) (i : Nat) (xs : List (List Int)) (k : Nat) : 0 ≤ psumZ h i xs k ∧ psumZ h i xs k ≤ 1000000270 := by
  cases k with
  | zero => simp [psumZ]
  | succ k => exact plusZ_bd _ _
theorem psum_full (h : Int) (i : Nat) (xs : List (List Int)) : psumZ h i xs xs.length = hornZ h i xs := by
  have := psum_horn h i xs xs.length (Nat.le_refl _)
  simp [hornZ] at this
  have := psum_bd h i xs xs.length
  have := horn_bd h i xs
  omega


theorem pathAtZ_len (h : Int) (xs : List (List Int)) (n : Nat) : (pathAtZ h xs n).length = n := by simp [pathAtZ]
theorem pathAtZ_i64 (h : Int) (xs : List (List Int)) (n : Nat) : ∀ x ∈ pathAtZ h xs n, I64 x := by
  intro x hx
  simp only [pathAtZ, List.mem_map] at hx
  obtain ⟨i, _, rfl⟩ := hx
  exact i64_of_bd (horn_bd h i xs)

/-- Where PathAt is defined: the dimension of the path, else none. -/
def pathDimB (xs : List (List Int)) : Bool := match xs with
  | [] => false
  | y :: _ => decide (1 ≤ y.length ∧ y.length ≤ 6) && pathOkB xs y.length
def pathAtL (xs : List (List Int)) (h : Int) : List Int := if pathDimB xs = true then pathAtZ h xs (xs.head?.getD []).length else []

theorem rowIn {xs : List (List Int)} {y : List Int} {i k : Nat} {dim : Int} (ho : pathOkB xs dim = true) (hx : xs[k]? = some y) (hi : (i : Int) < dim) : ∃ z, y[i]? = some z := by
  simp only [pathOkB, Bool.and_eq_true, List.all_eq_true] at ho
  have := ho.2 y (List.mem_of_getElem? hx)
  simp only [rowOkB, Bool.and_eq_true, decide_eq_true_eq] at this
  exact ⟨_, List.getElem?_eq_getElem (by omega)⟩

/-- The row while the coordinate k is summed up: j terms so far. -/
def midRow (h : Int) (xs : List (List Int)) (n k j : Nat) : List Value := ((pathAtZ h xs n).take k).map (Value.int .i64) ++ .int .i64 (psumZ h k xs j) :: List.replicate (n - (k + 1)) (.int .i64 0)
theorem midRow_start (h : Int) (xs : List (List Int)) {n k : Nat} (hk : k < n) : ((pathAtZ h xs n).take k).map (Value.int .i64) ++ List.replicate (n - k) (.int .i64 0) = midRow h xs n k 0 := by
  obtain ⟨m, hm⟩ : ∃ m, n - k = m + 1 := ⟨n - k - 1, by omega⟩
  have h2 : n - (k + 1) = m := by omega
  unfold midRow
  rw [hm, h2, List.replicate_succ]
  rfl
theorem midRow_end (h : Int) (xs : List (List Int)) {n k : Nat} (hk : k < n) : midRow h xs n k xs.length = ((pathAtZ h xs n).take (k + 1)).map (Value.int .i64) ++ List.replicate (n - (k + 1)) (.int .i64 0) := by
  unfold midRow
  have : (pathAtZ h xs n)[k]? = some (hornZ h k xs) := by simp [pathAtZ, hk]
  rw [take_snoc this, psum_full]
  simp

set_option maxRecDepth 100000 in
set_option maxHeartbeats 1600000 in
theorem pathAt_any (v : Value) (xs : List (List Int)) (h0 : Int) (w : World) (h : RdII w v xs) :
    Calls Tryz.prog 33 #[v, .int .i64 h0] w (Gives (fun w' v fp => OwnI 3 w' v (pathAtL xs h0) fp) w) := by
  have hnone : pathDimB xs = false → Gives (fun w' v fp => OwnI 3 w' v (pathAtL xs h0) fp) w (.returned (.slice none 0 0)) w := by
    intro hd
    refine ⟨_, [], rfl, ?_, by simp, Below.refl _ _⟩
    rw [pathAtL, hd]
    exact ⟨World.ownsRow_nil _ _ _ _, rfl, by simp⟩
  have hrd := h
  obtain ⟨ad, len, cap, rfl, hl, hlc, hcm, h'⟩ := rdS_open h
  have hlen := Lib.hid hl
  clear h
  by_cases hz : len = 0
  · subst hz
    have HN := Lib.hid (hnone (by rw [List.eq_nil_of_length_eq_zero hl]; rfl))
    clear hnone hl
    go_enter Tryz.func33, Tryz.ntmps33
    go_wp2
    go_ret
    exact HN.out
  obtain ⟨b, off, ad', n, cap', x0, rfl, hx0, hcc, h6, h7, h8, h9, hbs⟩ := rdII_get h' (k := 0) (by omega)
  have hdd : pathDimB xs = (dimB n && pathOkB xs n) := by
    cases xs with
    | nil => simp at hx0
    | cons y ys =>
      simp only [List.getElem?_cons_zero, Option.some.injEq] at hx0
      subst hx0
      simp only [pathDimB, h6, dimB]
      congr 1
      rw [decide_eq_decide]
      omega
  have hhd : (xs.head?.getD []).length = n := by
    cases xs with
    | nil => simp at hx0
    | cons y ys =>
      simp only [List.getElem?_cons_zero, Option.some.injEq] at hx0
      subst hx0
      exact h6
  have hzb : ((len : Int) == 0) = false := by simp; omega
  have hzp : (0 : Int) < len := by omega
  have HX0 := Lib.hid hx0
  have HDD := Lib.hid hdd
  have HHD := Lib.hid hhd
  clear hx0 h6 hl hdd hhd
  simp only [Nat.add_zero] at hcc
  cases hdim : dimB (n : Int) with
  | false =>
    have HN := Lib.hid (hnone (by rw [HDD.out, hdim]; rfl))
    clear hnone
    go_enter Tryz.func33, Tryz.ntmps33
    go_wp2_with (go_at_call 88; ((with_reducible refine (isDim_any _ _).mono ?_); rintro e w' ⟨rfl, rfl⟩; rw [hdim]))
    go_ret
    exact HN.out
  | true =>
  cases hok : pathOkB xs n with
  | false =>
    have HN := Lib.hid (hnone (by rw [HDD.out, hdim, hok]; rfl))
    clear hnone
    go_enter Tryz.func33, Tryz.ntmps33
    go_wp2_with (first
      | (go_at_call 88; ((with_reducible refine (isDim_any _ _).mono ?_); rintro e w' ⟨rfl, rfl⟩; rw [hdim]))
      | (go_at_call 67; ((with_reducible refine (pathOk_any _ xs _ _ h').mono ?_); rintro e w' ⟨rfl, rfl⟩; rw [hok])))
    go_ret
    exact HN.out
  | true =>
  have HL := Lib.hid (show pathAtL xs h0 = pathAtZ h0 xs n by rw [pathAtL, if_pos (by rw [HDD.out, hdim, hok]; rfl), HHD.out])
  clear hnone
  have hn6 : n ≤ 6 := by simp [dimB] at hdim; omega
  obtain ⟨i0, hi, hz0, hz1, hz2⟩ := info_parts Tryz.info_int
  have hib : i0.bytes * n ≤ 281474976710656 := by rw [hz2]; omega
  go_enter Tryz.func33, Tryz.ntmps33
  go_wp2_with (first
    | (go_at_call 88; ((with_reducible refine (isDim_any _ _).mono ?_); rintro e w' ⟨rfl, rfl⟩; rw [hdim]))
    | (go_at_call 67; ((with_reducible refine (pathOk_any _ xs _ _ h').mono ?_); rintro e w' ⟨rfl, rfl⟩; rw [hok]))
    | (at_make; refine wpList_make_full _ rfl _ _ 35 rfl 0 3 i0 (.int .i64 0) 1 Tryz.underlying35 hi hz0 hz1 .i64 .i64 _ _ n rfl rfl rfl rfl hib (by unfold maxLen; omega) (Nat.zero_le _) ?_; intro w1 hown1 hgrow1))
  have hm0 : (madeCells (Value.int .i64 0).cells (n * 1)).toList = List.replicate n (.int .i64 0) := by
    rw [Nat.mul_one]; exact toList_madeCells_one _ _
  rw [hm0] at hown1
  have hbl : Below w.heap.size w w1 := (Below.refl _ _).grown hgrow1 (Nat.le_refl _) (fun k hk => by cases hk)
  clear hm0 hgrow1 hi hz0 hz1 hz2 hib h7 h8 h9 hcc
  go_loopw [36] (fun i wr => ∃ k : Nat, k ≤ n ∧ i = .int .i64 k ∧ wr.ownsRow 0 3 1 (.slice (some ⟨w.heap.size, 0, none⟩) n n) n (((pathAtZ h0 xs n).take k).map (Value.int .i64) ++ List.replicate (n - k) (.int .i64 0)) ∧ Below w.heap.size w wr)
    (fun i _ => n - (intOf i).toNat)
  case atStart => exact ⟨0, Nat.zero_le _, rfl, by simpa using hown1, hbl⟩
  case round =>
    obtain ⟨k, hk, rfl, hown, hb⟩ := hrel
    clear hown1 hbl
    by_cases hlt : k < n
    · rw [midRow_start h0 xs hlt] at hown
      have HO := Lib.hid hown
      clear hown
      go_wp2
      go_loopw [41] (fun j wq => ∃ j' : Nat, j' ≤ len ∧ j = .int .i64 j' ∧ wq.ownsRow 0 3 1 (.slice (some ⟨w.heap.size, 0, none⟩) n n) n (midRow h0 xs n k j') ∧ Below w.heap.size w wq)
        (fun j _ => len - (intOf j).toNat)
      case atStart => exact ⟨0, Nat.zero_le _, rfl, HO.out, hb⟩
      case round =>
        obtain ⟨j, hj, rfl, hown, hb2⟩ := hrel
        have h'r := rdII_mono hb2 h'
        by_cases hjl : j < len
        · obtain ⟨b', off', ad2, len2, cap2, y, hbe, hy, hcc, h6, h7, h8, h9, _⟩ := rdII_get h'r hjl
          simp only [Option.some.injEq, Addr.mk.injEq] at hbe
          obtain ⟨rfl, rfl, _⟩ := hbe
          obtain ⟨z, hz'⟩ := rowIn hok hy (by omega : (k : Int) < n)
          obtain ⟨b3, off3, z', rfl, hz2, hcz, hIz, hb3⟩ := rdI_get h9 (k := k) (by have := (List.getElem?_eq_some_iff.1 hz').1; omega)
          obtain rfl : z = z' := Option.some.inj (hz'.symm.trans hz2)
          have hk2 : k < len2 := by have := (List.getElem?_eq_some_iff.1 hz').1; omega
          have hsum : psumZ h0 k xs (j + 1) = plusZ (psumZ h0 k xs j) (timesZ z (powZ h0 j)) := by simp [psumZ, hy, hz']
          unfold midRow at hown
          obtain ⟨hcN, hfN, hs⟩ := own_put hown (k := k) (by simp [pathAtZ_len]; omega) (.int .i64 (plusZ (psumZ h0 k xs j) (timesZ z (powZ h0 j))))
          have HS := Lib.hid hs
          have HSUM := Lib.hid hsum
          clear hs hown hz' hz2 hy h6 hsum HO
          go_wp2
          (refine wp_region_still_tail 16 (by kernel_rfl) (by kernel_rfl) ?_; simp only [List.take_succ_cons, List.take_zero, List.drop_succ_cons, List.drop_zero]; (repeat (first | still_step | still_call (still_of (power_any _ _ _ (by omega))) | still_call (still_of (times_any _ _ _)) | still_call (still_of (plus_any _ _ _)))); refine wpStill_nil ?_; change wpList _ _ _ _ _ (World.drew _))
          go_wp2
          go_roundw
          case rel => exact ⟨j + 1, by omega, by go_num, World.ownsRow.drew (by unfold midRow; rw [HSUM.out]; simpa using HS.out), (hb2.setCell (by simp) _).drew⟩
          case measure => simp [intOf]; omega
        · obtain rfl : j = len := by omega
          have hl2 := hlen.out
          subst hl2
          rw [midRow_end h0 xs hlt] at hown
          have HO2 := Lib.hid hown
          clear hown HO
          go_wp2
          go_roundw
          case rel => exact ⟨k + 1, by omega, by go_num, HO2.out, hb2⟩
          case measure => simp [intOf]; omega
    · go_wp2
      go_ret
      have HO := own_i64 hown (pathAtZ_len _ _ _) (by omega) (pathAtZ_i64 _ _ _)
      exact ⟨_, [w.heap.size], rfl, by rw [HL.out]; exact HO, by simp, hb⟩

/-- The row while a step of Horner's runs: the first k coordinates have the row p too. -/
def hornMid (h : Int) (xs : List (List Int)) (n p k : Nat) : List Value := ((pathAtZ h (xs.drop p) n).take k).map (Value.int .i64) ++ ((pathAtZ h (xs.drop (p + 1)) n).drop k).map (Value.int .i64)
theorem hornMid_zero (h : Int) (xs : List (List Int)) (n p : Nat) : hornMid h xs n p 0 = (pathAtZ h (xs.drop (p + 1)) n).map (Value.int .i64) := by simp [hornMid]
theorem hornMid_full (h : Int) (xs : List (List Int)) {n p k : Nat} (hk : n ≤ k) : hornMid h xs n p k = (pathAtZ h (xs.drop p) n).map (Value.int .i64) := by
  unfold hornMid
  rw [List.take_of_length_le (show (pathAtZ h (xs.drop p) n).length ≤ k by rw [pathAtZ_len]; exact hk), List.drop_of_length_le (show (pathAtZ h (xs.drop (p + 1)) n).length ≤ k by rw [pathAtZ_len]; exact hk)]
  simp
theorem pathAtZ_get (h : Int) (xs : List (List Int)) {n k : Nat} (hk : k < n) : (pathAtZ h xs n)[k]? = some (hornZ h k xs) := by simp [pathAtZ, hk]
theorem hornMid_cons (h : Int) (xs : List (List Int)) {n p k : Nat} (hk : k < n) : hornMid h xs n p k =
    ((pathAtZ h (xs.drop p) n).take k).map (Value.int .i64) ++ .int .i64 (hornZ h k (xs.drop (p + 1))) :: ((pathAtZ h (xs.drop (p + 1)) n).drop (k + 1)).map (Value.int .i64) := by
  unfold hornMid
  have hg := pathAtZ_get h (xs.drop (p + 1)) hk
  obtain ⟨hl, he⟩ := List.getElem?_eq_some_iff.1 hg
  rw [List.drop_eq_getElem_cons hl, List.map_cons, he]
theorem hornMid_succ (h : Int) (xs : List (List Int)) {n p k : Nat} (hk : k < n) : hornMid h xs n p (k + 1) =
    ((pathAtZ h (xs.drop p) n).take k).map (Value.int .i64) ++ [.int .i64 (hornZ h k (xs.drop p))] ++ ((pathAtZ h (xs.drop (p + 1)) n).drop (k + 1)).map (Value.int .i64) := by
  unfold hornMid
  rw [take_snoc (pathAtZ_get h (xs.drop p) hk)]
  simp

end Go.Proofs.YtbcjhpgkodeoeaaGreatDoor
