/- AdjointTableau of the program. Conditions: none. -/
import Derived.Test.YtkmcpcbfoiflbaaAdjP
import Derived.Test.YtkmcpcbfoiflbaaSymp
import Derived.Test.YtkmcpcbfoiflbaaSame
import Derived.RegionTactic
import Derived.ChangeAlike
import Derived.Deep.RegionHeld3
set_option linter.unusedSimpArgs false
set_option linter.unusedVariables false
namespace Go.Proofs.Ytkmcpcbfoiflbaa
open Go.RowKit Go.Sort

theorem row_bd' {n i : Nat} (hi : i < n) (hn : n ≤ 8) : 0 ≤ (i : Int) * n ∧ (i : Int) * n ≤ 64 ∧ ((i : Int) * n).toNat = i * n ∧ ((i : Int) + 1) * n = (i : Int) * n + n ∧ i * n + n ≤ n * n ∧ ((n * n : Nat) : Int) ≤ 64 ∧ ((i * n : Nat) : Int) = (i : Int) * n := by
  have h1 : i * n ≤ 8 * 8 := Nat.mul_le_mul (by omega) hn
  have h2 : ((i * n : Nat) : Int) = (i : Int) * n := by simp
  have h3 : (i + 1) * n ≤ n * n := Nat.mul_le_mul_right n hi
  have h4 : n * n ≤ 8 * 8 := Nat.mul_le_mul hn hn
  rw [Nat.succ_mul] at h3
  refine ⟨by omega, by omega, by omega, ?_, h3, by omega, h2⟩
  rw [Int.add_mul, Int.one_mul]
theorem below_drew' (w : World) : Below w.heap.size w w.drew := (Below.refl _ _).drew
theorem mk_row (n : Nat) (h : n ≤ 64) : ∀ w : World, (Instr.makeSlice 27 (.int .i64 (n : Int)) (.int .i64 (n : Int))).run Try.prog w = .ok (.slice (some ⟨w.heap.size, 0, none⟩) n n) (w.alloc (.cells (Array.replicate n (.int .i64 0)) 3)) := by
  intro w
  obtain ⟨i0, hi, hz0, hz1, hz2⟩ := info_parts Try.info_int
  have hr := run_make (P := Try.prog) w 27 3 i0 (.int .i64 0) Try.underlying27 hi hz0 .i64 .i64 n n (by omega) (Int.le_refl _) (by rw [hz2]; omega) (by omega)
  simp only [Int.toNat_natCast] at hr
  rw [hr]
  have hm : madeCells (Value.int .i64 0).cells (n * i0.size) = Array.replicate n (Value.int .i64 0) := by
    rw [hz1, Nat.mul_one]
    exact Array.toList_inj.1 ((toList_madeCells_one _ _).trans (by simp))
  rw [hm]
theorem zero_own {e n : Nat} (w : World) (h : n ≤ 64) : OwnI e (w.alloc (.cells (Array.replicate n (.int .i64 0)) e)) (.slice (some ⟨w.heap.size, 0, none⟩) n n) (List.replicate n 0) [w.heap.size] := by
  refine ⟨⟨by simp, .inr ⟨w.heap.size, n, Array.replicate n (.int .i64 0), by simp, Nat.zero_le _, heap_alloc_new w _, by simp, by unfold maxLen; omega, by simp, by simp⟩⟩, rfl, fun x hx => ?_⟩
  rw [List.mem_replicate] at hx
  rw [hx.2]
  exact ⟨by decide, by decide⟩

theorem two_rows {e : Nat} (w : World) (o : Obj) (p q : Nat) (hp : p ≤ 64) (hq : q ≤ 64) :
    OwnI e ((((w.alloc o).alloc (.cells (Array.replicate p (.int .i64 0)) e)).alloc (.cells (Array.replicate q (.int .i64 0)) e)).drew) (.slice (some ⟨w.heap.size + 1, 0, none⟩) p p) (List.replicate p 0) [w.heap.size + 1] ∧
    OwnI e ((((w.alloc o).alloc (.cells (Array.replicate p (.int .i64 0)) e)).alloc (.cells (Array.replicate q (.int .i64 0)) e)).drew) (.slice (some ⟨w.heap.size + 1 + 1, 0, none⟩) q q) (List.replicate q 0) [w.heap.size + 1 + 1] ∧
    Below w.heap.size w ((((w.alloc o).alloc (.cells (Array.replicate p (.int .i64 0)) e)).alloc (.cells (Array.replicate q (.int .i64 0)) e)).drew) := by
  obtain ⟨A, hA⟩ : ∃ A, A = w.alloc o := ⟨_, rfl⟩
  obtain ⟨B, hB⟩ : ∃ B, B = A.alloc (.cells (Array.replicate p (.int .i64 0)) e) := ⟨_, rfl⟩
  rw [← hA, ← hB]
  have s1 : A.heap.size = w.heap.size + 1 := by rw [hA]; simp
  have s2 : B.heap.size = w.heap.size + 1 + 1 := by rw [hB, ← s1]; simp
  have b1 : Below w.heap.size w A := hA ▸ (Below.refl _ _).alloc (Nat.le_refl _) _
  have b2 : Below A.heap.size A B := hB ▸ (Below.refl _ _).alloc (Nat.le_refl _) _
  have b3 : Below B.heap.size B ((B.alloc (.cells (Array.replicate q (.int .i64 0)) e)).drew) := ((Below.refl _ _).alloc (Nat.le_refl _) _).drew
  have z1 := zero_own (e := e) A hp
  have z2 := zero_own (e := e) B hq
  rw [← hB, s1] at z1
  rw [s2] at z2
  exact ⟨ownI_only z1 (Only.of_below (fp := []) b3) (by simp), ownI_only z2 (Only.of_below (fp := []) (below_drew' _)) (by simp), (b1.trans (b2.mono b1.size)).trans (b3.mono (b1.trans (b2.mono b1.size)).size)⟩

/-- Two rows of zeros in a tableau. -/
def ZTab (e n N : Nat) (w : World) : Ending → World → Prop := fun e' w' =>
  ∃ g h : Nat, e' = .returned (.agg #[.int .i64 (n : Int), .slice (some ⟨g, 0, none⟩) N N, .slice (some ⟨h, 0, none⟩) n n]) ∧ OwnI e w' (.slice (some ⟨g, 0, none⟩) N N) (List.replicate N 0) [g] ∧ OwnI e w' (.slice (some ⟨h, 0, none⟩) n n) (List.replicate n 0) [h] ∧ g ≠ h ∧ w.heap.size ≤ g ∧ w.heap.size ≤ h ∧ Below w.heap.size w w'

set_option maxRecDepth 100000 in
set_option maxHeartbeats 3200000 in
theorem empty_any (n N : Nat) (w : World) (hn : n ≤ 8) (hN : N = n * n) : Calls Try.prog 72 #[.int .i64 (n : Int)] w (ZTab 3 n N w) := by
  have h64 : N ≤ 64 := by rw [hN]; exact Nat.mul_le_mul hn hn
  have hsq : (n : Int) * (n : Int) = (N : Int) := by rw [hN]; simp
  have m1 := mk_row n (by omega)
  have m2 := mk_row N h64
  clear hN
  go_enter Try.func72, Try.ntmps72
  go_wp2
  go_region
  all_goals go_wp2
  · obtain ⟨q1, q2, q3⟩ := two_rows (e := 3) w (.cells #[.int .i64 (n : Int), .slice (some ⟨w.heap.size + 1, 0, none⟩) N N, .slice (some ⟨w.heap.size + 1 + 1, 0, none⟩) n n] 32) N n h64 (by omega)
    exact bodyPost_ret (v := .agg #[.int .i64 (n : Int), .slice (some ⟨w.heap.size + 1, 0, none⟩) N N, .slice (some ⟨w.heap.size + 1 + 1, 0, none⟩) n n]) (by simp [results, Try.results72, go_sem]) rfl ⟨_, _, rfl, q1, q2, by omega, by omega, by omega, q3⟩
  · obtain ⟨q1, q2, q3⟩ := two_rows (e := 3) w (.cells #[.int .i64 (n : Int), .slice (some ⟨w.heap.size + 1 + 1, 0, none⟩) N N, .slice (some ⟨w.heap.size + 1, 0, none⟩) n n] 32) n N (by omega) h64
    exact bodyPost_ret (v := .agg #[.int .i64 (n : Int), .slice (some ⟨w.heap.size + 1 + 1, 0, none⟩) N N, .slice (some ⟨w.heap.size + 1, 0, none⟩) n n]) (by simp [results, Try.results72, go_sem]) rfl ⟨_, _, rfl, q2, q1, by omega, by omega, by omega, q3⟩
theorem row_at (g n N i : Nat) (nz : Int) (vB : Value) (w : World) (hz : nz = (i : Int)) (hn8 : n ≤ 8) (hN : N = n * n) (hi : i < n) :
    Calls Try.prog 74 #[.agg #[.int .i64 (n : Int), .slice (some ⟨g, 0, none⟩) N N, vB], .int .i64 nz] w fun e w' => e = .returned (.slice (some ⟨g, i * n, none⟩) n (N - i * n)) ∧ Below w.heap.size w w' := by
  subst hz
  have hb0 : Below w.heap.size w (w.alloc (.cells #[.int .i64 (n : Int), .slice (some ⟨g, 0, none⟩) N N, vB] 32)) := (Below.refl _ _).alloc (Nat.le_refl _) _
  obtain ⟨p0, p1, p2, p3, p4, p5, p7⟩ := row_bd' hi hn8
  rw [← hN] at p4 p5
  have q1 : (i : Int) * n + n ≤ N := by omega
  have q2 : (i : Int) * n ≤ (i : Int) * n + n := by omega
  have q3 : ((i : Int) * n + n).toNat = i * n + n := by omega
  have q4 : 0 ≤ (i : Int) * n + n := by omega
  have q5 : ¬ N - i * n = 0 := by omega
  have q6 : (i : Int) * n + n ≤ 72 := by omega
  have q7 : ¬ N = i * n := by omega
  have q8 : i * n + n - i * n = n := by omega
  clear p7 p4 p5 hN
  go_enter Try.func74, Try.ntmps74
  go_wp2
  go_ret
  exact ⟨by simp [q8], hb0⟩
end Go.Proofs.Ytkmcpcbfoiflbaa
