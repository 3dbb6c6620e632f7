/- The texts Drw, DrwN in one: each says at its head what it proves. Conditions: as said there. -/
import Derived.Deep.AppendLies
import Derived.Test.YtbcjhpgkodeoeaaGreatDoorN05
import Derived.Test.YtbcjhpgkodeoeaaGreatDoorN02
import Derived.Test.YtbcjhpgkodeoeaaGreatDoorN04
set_option linter.unusedSimpArgs false
set_option linter.unusedVariables false
/- The draws of numbers. Conditions: a cursor. -/
namespace Go.Proofs.YtbcjhpgkodeoeaaGreatDoor
open Go.RowKit

set_option maxHeartbeats 1600000 in
theorem byte_any (g : Nat) (w : World) (hc : Cur w g) : Calls Tryz.prog 103 #[.pointer (some ⟨g, 0, none⟩)] w (Draws g 256 w) := by
  obtain ⟨hl, w0, v, xs, i, h, h1, h2, h3, h4, h5, c0, c1, c2, f0, f1, f2⟩ := hc
  obtain ⟨ad, len, cap, rfl, hlen, hlc, hcm, h3'⟩ := rdS_open h3
  obtain ⟨k1, hk1⟩ : ∃ k, IntKind.i64.wrap (h * 6364136223846793005) = k := ⟨_, rfl⟩
  obtain ⟨k2, hk2⟩ : ∃ k, IntKind.i64.wrap (k1 + 1442695040888963407) = k := ⟨_, rfl⟩
  have hI2 : I64 k2 := by rw [← hk2, IntKind.wrap_i64]; unfold I64; omega
  have HK1 := Lib.hid hk1
  have HK2 := Lib.hid hk2
  go_enter Tryz.func103, Tryz.ntmps103
  go_wp2
  obtain ⟨w1, hw1⟩ : ∃ W, W = w.setCell ⟨g, 2, none⟩ (.int .i64 k2) := ⟨_, rfl⟩
  rw [← hw1]
  have hon : Only [g] w w1 := hw1 ▸ (Only.refl _ _).setCell (by simp) _
  have d0 : w1.cell? ⟨g, 0, none⟩ = some (.slice ad len cap) := by rw [hw1]; exact (World.cell?_setCell_other _ _ _ _ (by simp)).trans c0
  have d1 : w1.cell? ⟨g, 1, none⟩ = some (.int .i64 i) := by rw [hw1]; exact (World.cell?_setCell_other _ _ _ _ (by simp)).trans c1
  have d2 : w1.cell? ⟨g, 2, none⟩ = some (.int .i64 k2) := by rw [hw1]; exact World.cell?_setCell_same _ _ _ c2
  have p0 : w1.frozen? ⟨g, 0, none⟩ = false := by rw [hw1]; simpa using f0
  have p1 : w1.frozen? ⟨g, 1, none⟩ = false := by rw [hw1]; simpa using f1
  have p2 : w1.frozen? ⟨g, 2, none⟩ = false := by rw [hw1]; simpa using f2
  have HON := Lib.hid hon
  clear hw1 hon c0 c1 c2 f0 f1 f2
  go_quiet (fail)
  obtain ⟨x0, hx0, hx0b⟩ : ∃ x : Nat, bits .and .i64 (bits .xor .i64 (k2 / 8589934592) (k2 / 35184372088832)) 255 = (x : Int) ∧ x < 256 := by
    rw [mask255]
    exact ⟨(bits .xor .i64 (k2 / 8589934592) (k2 / 35184372088832) % 256).toNat, by omega, by omega⟩
  rw [hx0]
  clear hx0
  obtain ⟨w2, hw2⟩ : ∃ W, W = w1.drewN nq := ⟨_, rfl⟩
  rw [← hw2]
  have e0 : w2.cell? ⟨g, 0, none⟩ = some (.slice ad len cap) := by rw [hw2]; simpa using d0
  have e1 : w2.cell? ⟨g, 1, none⟩ = some (.int .i64 i) := by rw [hw2]; simpa using d1
  have e2 : w2.cell? ⟨g, 2, none⟩ = some (.int .i64 k2) := by rw [hw2]; simpa using d2
  have o0 : w2.frozen? ⟨g, 0, none⟩ = false := by rw [hw2]; simpa using p0
  have o1 : w2.frozen? ⟨g, 1, none⟩ = false := by rw [hw2]; simpa using p1
  have o2 : w2.frozen? ⟨g, 2, none⟩ = false := by rw [hw2]; simpa using p2
  have hb12 : Below w1.heap.size w1 w2 := hw2 ▸ blw_drewN (Below.refl _ _) _
  have hon2 : Only [g] w w2 := HON.out.trans (Only.of_below hb12)
  have hl2 : g < w2.heap.size := Nat.lt_of_lt_of_le hl hon2.size
  have hb02 : Below w0.heap.size w0 w2 := h2.trans (hon2.below h2.size (by simpa using h1))
  have HO2 := Lib.hid hon2
  have HB2 := Lib.hid hb02
  clear hw2 hon2 hb02 d0 d1 d2 p0 p1 p2 hb12
  have CM := Lib.hid (fun (W : World) (y : Nat) (hy : y ≤ len) (ho : Only [g] w W) (a0 : W.cell? ⟨g, 0, none⟩ = some (.slice ad len cap)) (a1 : W.cell? ⟨g, 1, none⟩ = some (.int .i64 (y : Int))) (a2 : W.cell? ⟨g, 2, none⟩ = some (.int .i64 k2)) (q0 : W.frozen? ⟨g, 0, none⟩ = false) (q1 : W.frozen? ⟨g, 1, none⟩ = false) (q2 : W.frozen? ⟨g, 2, none⟩ = false) => show Drawn g w W from
    ⟨ho, Nat.lt_of_lt_of_le hl ho.size, w0, _, xs, y, k2, h1, h2.trans (ho.below h2.size (by simpa using h1)), h3, hI2, by omega, a0, a1, a2, q0, q1, q2⟩)
  by_cases hlt : i < len
  · have hltI : (i : Int) < len := by omega
    obtain ⟨b, off, us, x, rfl, hx, hus, hcell, hux, hx0', hx1'⟩ := rdS_get h3' hlt
    have hcx : w0.cell? ⟨b, off + i, none⟩ = some (.int .u8 x) := by
      have := hcell 0 _ (by rw [hux]; rfl)
      simpa using this
    go_wp2
    go_quiet (fail)
    obtain ⟨w3, hw3⟩ : ∃ W, W = w2.drewN nq := ⟨_, rfl⟩
    rw [← hw3]
    have b0 : w3.cell? ⟨g, 0, none⟩ = some (.slice (some ⟨b, off, none⟩) len cap) := by rw [hw3]; simpa using e0
    have b1 : w3.cell? ⟨g, 1, none⟩ = some (.int .i64 i) := by rw [hw3]; simpa using e1
    have b2 : w3.cell? ⟨g, 2, none⟩ = some (.int .i64 k2) := by rw [hw3]; simpa using e2
    have n0 : w3.frozen? ⟨g, 0, none⟩ = false := by rw [hw3]; simpa using o0
    have n1 : w3.frozen? ⟨g, 1, none⟩ = false := by rw [hw3]; simpa using o1
    have n2 : w3.frozen? ⟨g, 2, none⟩ = false := by rw [hw3]; simpa using o2
    have hb23 : Below w2.heap.size w2 w3 := hw3 ▸ blw_drewN (Below.refl _ _) _
    have b3 : w3.cell? ⟨b, off + i, none⟩ = some (.int .u8 x) := cell_below (HB2.out.trans (hb23.mono HB2.out.size)) hcx
    have HO3 := Lib.hid (HO2.out.trans (Only.of_below (fp := [g]) hb23))
    clear hw3 e0 e1 e2 o0 o1 o2 hb23 hcx hux hus hcell hx
    go_wp2
    go_quiet (fail)
    rw [mask255]
    obtain ⟨y0, hy0, hy0b⟩ : ∃ y : Nat, ((x0 : Int) + x) % 256 = (y : Int) ∧ y < 256 := ⟨(((x0 : Int) + x) % 256).toNat, by omega, by omega⟩
    rw [hy0]
    obtain ⟨w4, hw4⟩ : ∃ W, W = w3.drewN nq := ⟨_, rfl⟩
    rw [← hw4]
    have a0 : w4.cell? ⟨g, 0, none⟩ = some (.slice (some ⟨b, off, none⟩) len cap) := by rw [hw4]; simpa using b0
    have a1 : w4.cell? ⟨g, 1, none⟩ = some (.int .i64 i) := by rw [hw4]; simpa using b1
    have a2 : w4.cell? ⟨g, 2, none⟩ = some (.int .i64 k2) := by rw [hw4]; simpa using b2
    have m0 : w4.frozen? ⟨g, 0, none⟩ = false := by rw [hw4]; simpa using n0
    have m1 : w4.frozen? ⟨g, 1, none⟩ = false := by rw [hw4]; simpa using n1
    have m2 : w4.frozen? ⟨g, 2, none⟩ = false := by rw [hw4]; simpa using n2
    have hb34 : Below w3.heap.size w3 w4 := hw4 ▸ blw_drewN (Below.refl _ _) _
    have HO4 := Lib.hid (HO3.out.trans (Only.of_below (fp := [g]) hb34))
    clear hw4 b0 b1 b2 n0 n1 n2 hb34 hy0
    go_wp2
    go_ret
    refine ⟨y0, rfl, hy0b, CM.out _ (i + 1) (by omega) (HO4.out.setCell (by simp) _) ?_ ?_ ?_ (by simpa using m0) (by simpa using m1) (by simpa using m2)⟩
    · exact (World.cell?_setCell_other _ _ _ _ (by simp)).trans a0
    · exact World.cell?_setCell_same _ _ _ a1
    · exact (World.cell?_setCell_other _ _ _ _ (by simp)).trans a2
  · have hltI : ¬ ((i : Int) < len) := by omega
    go_wp2
    go_quiet (fail)
    go_wp2
    go_ret
    have hb23 : Below w2.heap.size w2 (w2.drewN nq) := blw_drewN (Below.refl _ _) _
    exact ⟨x0, rfl, hx0b, CM.out _ i (by omega) (HO2.out.trans (Only.of_below hb23)) (by simpa using e0) (by simpa using e1) (by simpa using e2) (by simpa using o0) (by simpa using o1) (by simpa using o2)⟩

set_option maxHeartbeats 1600000 in
theorem below_any (g n : Nat) (nz : Int) (hnz : nz = n) (h1 : 1 ≤ n) (hn : n ≤ 9223372036854775807) (w : World) (hc : Cur w g) : Calls Tryz.prog 42 #[.pointer (some ⟨g, 0, none⟩), .int .i64 nz] w (Draws g n w) := by
  have hn0 : ¬ nz ≤ 0 := by omega
  have hn00 : nz ≠ 0 := by omega
  go_enter Tryz.func42, Tryz.ntmps42
  by_cases h256 : n ≤ 256
  · have h256I : nz ≤ 256 := by omega
    go_wp2_with fail
    refine (byte_any g w hc).mono ?_
    rintro e w1 ⟨x, rfl, hx, hd⟩
    have hm : ((x : Int).tmod nz) = ((x % n : Nat) : Int) := by rw [hnz, Int.tmod_eq_emod_of_nonneg (by omega)]; omega
    go_wp2
    go_ret
    exact ⟨x % n, by simp, Nat.mod_lt _ (by omega), hd⟩
  · have h256I : ¬ nz ≤ 256 := by omega
    go_wp2_with fail
    refine (byte_any g w hc).mono ?_
    rintro e w1 ⟨x, rfl, hx, hd1⟩
    go_wp2_with fail
    refine (byte_any g w1 hd1.cur).mono ?_
    rintro e w2 ⟨y, rfl, hy, hd2⟩
    go_wp2_with fail
    refine (byte_any g w2 hd2.cur).mono ?_
    rintro e w3 ⟨z, rfl, hz, hd3⟩
    go_wp2_with fail
    refine (byte_any g w3 hd3.cur).mono ?_
    rintro e w4 ⟨u, rfl, hu, hd4⟩
    have hx1 : IntKind.i64.wrap ((x : Int) * 16777216) = ((x * 16777216 : Nat) : Int) := by rw [IntKind.wrap_i64]; omega
    have hy1 : IntKind.i64.wrap ((y : Int) * 65536) = ((y * 65536 : Nat) : Int) := by rw [IntKind.wrap_i64]; omega
    have hz1 : IntKind.i64.wrap ((z : Int) * 256) = ((z * 256 : Nat) : Int) := by rw [IntKind.wrap_i64]; omega
    obtain ⟨X, hX⟩ : ∃ X, X = x * 16777216 := ⟨_, rfl⟩
    obtain ⟨Y, hY⟩ : ∃ Y, Y = y * 65536 := ⟨_, rfl⟩
    obtain ⟨Z, hZ⟩ : ∃ Z, Z = z * 256 := ⟨_, rfl⟩
    rw [← hX] at hx1
    rw [← hY] at hy1
    rw [← hZ] at hz1
    obtain ⟨S1, hS1⟩ : ∃ S, S = X + Y := ⟨_, rfl⟩
    obtain ⟨S2, hS2⟩ : ∃ S, S = S1 + Z := ⟨_, rfl⟩
    obtain ⟨S3, hS3⟩ : ∃ S, S = S2 + u := ⟨_, rfl⟩
    have hs1 : IntKind.i64.wrap ((X : Int) + Y) = (S1 : Int) := by rw [IntKind.wrap_i64]; omega
    have hs2 : IntKind.i64.wrap ((S1 : Int) + Z) = (S2 : Int) := by rw [IntKind.wrap_i64]; omega
    have hs3 : IntKind.i64.wrap ((S2 : Int) + u) = (S3 : Int) := by rw [IntKind.wrap_i64]; omega
    clear hS1 hS2 hS3
    clear hX hY hZ
    go_wp2
    go_ret
    exact ⟨S3 % n, by simp, Nat.mod_lt _ (by omega), hd1.trans (hd2.trans (hd3.trans hd4))⟩

set_option maxRecDepth 100000 in
theorem once_any (g n : Nat) (nz : Int) (hnz : nz = n) (h1 : 1 ≤ n) (hn : n ≤ 9223372036854775807) (w : World) (hc : Cur w g) :
    Calls Tryz.prog 70 #[.pointer (some ⟨g, 0, none⟩), .int .i64 nz] w fun e w' => ∃ b, e = .returned (.bool b) ∧ Drawn g w w' := by
  have HB := Lib.hid (below_any g n nz hnz h1 hn w hc)
  clear hnz
  go_enter Tryz.func70, Tryz.ntmps70
  go_wp2_with fail
  refine HB.out.mono ?_
  rintro e w1 ⟨x, rfl, hx, hd⟩
  go_wp2
  go_ret
  exact ⟨_, rfl, hd⟩

/-- A cursor is made: in a block of its own. -/
def Starts (w : World) : Ending → World → Prop := fun e w' => ∃ g, e = .returned (.pointer (some ⟨g, 0, none⟩)) ∧ w.heap.size ≤ g ∧ Cur w' g ∧ Below w.heap.size w w'
set_option maxHeartbeats 1600000 in
theorem new_any (v : Value) (xs : List Int) (w : World) (h : RdB w v xs) : Calls Tryz.prog 40 #[v] w (Starts w) := by
  obtain ⟨ad, len, cap, rfl, hlen, hlc, hcm, h'⟩ := rdS_open h
  obtain ⟨h0, hh0⟩ : ∃ k, IntKind.i64.wrap (242017 + (len : Int)) = k := ⟨_, rfl⟩
  have hI0 : I64 h0 := by rw [← hh0, IntKind.wrap_i64]; unfold I64; omega
  have HL := Lib.hid hlen
  clear hlen
  go_enter Tryz.func40, Tryz.ntmps40
  go_wp2
  go_loopw [3, 4] (fun hv iv wr => ∃ (k : Nat) (z : Int), k ≤ len ∧ hv = .int .i64 z ∧ I64 z ∧ iv = .int .i64 k ∧ wr = w) (fun _ iv _ => len - (intOf iv).toNat)
  case atStart => exact ⟨0, h0, Nat.zero_le _, rfl, hI0, rfl, rfl⟩
  case round =>
    obtain ⟨k, z, hk, rfl, hz, rfl, rfl⟩ := hrel
    have hfin : ∀ (z : Int), I64 z → Starts wr (.returned (.pointer (some ⟨wr.heap.size, 0, none⟩))) (wr.alloc (.cells #[.slice ad len cap, .int .i64 0, .int .i64 z] 116)) := fun z hz =>
      ⟨wr.heap.size, rfl, Nat.le_refl _, ⟨by simp, wr, _, xs, 0, z, Nat.le_refl _, (Below.refl _ _).alloc (Nat.le_refl _) _, h', hz, Nat.zero_le _, by simp, by simp, by simp, by simp, by simp, by simp⟩, (Below.refl _ _).alloc (Nat.le_refl _) _⟩
    have HF := Lib.hid hfin
    clear hfin
    by_cases hlt : k < len ∧ k < 4000
    · obtain ⟨hlt, hlt4⟩ := hlt
      have hltI : (k : Int) < len := by omega
      have hlt4I : (k : Int) < 4000 := by omega
      obtain ⟨b, off, us, x, rfl, hx, hus, hcell, hux, hx0', hx1'⟩ := rdS_get h' hlt
      have hcx : wr.cell? ⟨b, off + k, none⟩ = some (.int .u8 x) := by
        have := hcell 0 _ (by rw [hux]; rfl)
        simpa using this
      clear hcell hux hus hx
      go_wp2
      exact ⟨⟨k + 1, _, by omega, rfl, by rw [mask30]; unfold I64; omega, by go_num, trivial⟩, by simp [intOf]; omega⟩
    · by_cases h2 : k < len
      · have hltI : (k : Int) < len := by omega
        have hlt4I : ¬ ((k : Int) < 4000) := by omega
        go_wp2
        go_ret
        exact HF.out z hz
      · have hltI : ¬ ((k : Int) < len) := by omega
        go_wp2
        go_ret
        exact HF.out z hz
end Go.Proofs.YtbcjhpgkodeoeaaGreatDoor

/- Drawn numbers and rows of them. Conditions: a cursor. -/
namespace Go.Proofs.YtbcjhpgkodeoeaaGreatDoor
open Go.RowKit

/-- A number is drawn. -/
def DrawsNum (g : Nat) (w : World) : Ending → World → Prop := fun e w' => ∃ x : Int, e = .returned (.int .i64 x) ∧ 0 ≤ x ∧ x ≤ 1000000270 ∧ Drawn g w w'
set_option maxHeartbeats 1600000 in
theorem num_any (g : Nat) (w : World) (hc : Cur w g) : Calls Tryz.prog 74 #[.pointer (some ⟨g, 0, none⟩)] w (DrawsNum g w) := by
  go_enter Tryz.func74, Tryz.ntmps74
  go_wp2_with fail
  refine (below_any g 8 8 rfl (by omega) (by omega) w hc).mono ?_
  rintro e w1 ⟨x, rfl, hx, hd⟩
  by_cases h0 : x = 0
  · subst h0
    go_wp2
    go_ret
    exact ⟨0, rfl, by omega, by omega, hd⟩
  have h0I : ¬ ((x : Int) = 0) := by omega
  by_cases h1 : x = 1
  · subst h1
    go_wp2
    go_ret
    exact ⟨1, rfl, by omega, by omega, hd⟩
  have h1I : ¬ ((x : Int) = 1) := by omega
  by_cases h2 : x = 2
  · subst h2
    go_wp2_with fail
    refine (sFraction_any 1 2 w1).mono ?_
    rintro e w2 ⟨rfl, rfl⟩
    go_wp2
    go_ret
    exact ⟨_, rfl, (fracZ_bd _ _).1, (fracZ_bd _ _).2, hd⟩
  have h2I : ¬ ((x : Int) = 2) := by omega
  by_cases h3 : x = 3
  · subst h3
    go_wp2_with fail
    refine (below_any g 1000000271 1000000271 rfl (by omega) (by omega) w1 hd.cur).mono ?_
    rintro e w2 ⟨y, rfl, hy, hd2⟩
    go_wp2
    go_ret
    exact ⟨y, rfl, by omega, by omega, hd.trans hd2⟩
  have h3I : ¬ ((x : Int) = 3) := by omega
  go_wp2_with fail
  refine (below_any g 13 13 rfl (by omega) (by omega) w1 hd.cur).mono ?_
  rintro e w2 ⟨y, rfl, hy, hd2⟩
  go_wp2_with fail
  refine (below_any g 6 6 rfl (by omega) (by omega) w2 hd2.cur).mono ?_
  rintro e w3 ⟨z, rfl, hz, hd3⟩
  go_wp2_with fail
  refine (sFraction_any _ _ w3).mono ?_
  rintro e w4 ⟨rfl, rfl⟩
  go_wp2
  go_ret
  exact ⟨_, rfl, (fracZ_bd _ _).1, (fracZ_bd _ _).2, hd.trans (hd2.trans hd3)⟩

end Go.Proofs.YtbcjhpgkodeoeaaGreatDoor
