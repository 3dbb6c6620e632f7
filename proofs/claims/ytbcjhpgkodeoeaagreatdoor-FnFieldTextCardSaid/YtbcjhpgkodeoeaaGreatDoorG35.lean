/- The texts TreS, TreL, TreA, PBox, TreF in one: each says at its head what it proves. Conditions: as said there. -/
import Derived.Deep.AppendLies
import Derived.Test.YtbcjhpgkodeoeaaGreatDoorG17
import Derived.Test.YtbcjhpgkodeoeaaGreatDoorG03
import Derived.Test.YtbcjhpgkodeoeaaGreatDoorG04
import Derived.Test.YtbcjhpgkodeoeaaGreatDoorG15
import Derived.Test.YtbcjhpgkodeoeaaGreatDoorG01
import Derived.Test.YtbcjhpgkodeoeaaGreatDoorG12
import Derived.Test.YtbcjhpgkodeoeaaGreatDoorG07
set_option linter.unusedSimpArgs false
set_option linter.unusedVariables false
/- The reference's lists of trees: their orders and levels. Conditions: numbers of trees. -/
namespace Go.Proofs.YtbcjhpgkodeoeaaGreatDoor
open Go.RowKit

def startsL : List Int := [0, 1, 2, 4, 8, 17, 37]
def placeL : List Int := [0, 0, 2, 5, 13, 33, 87]
def ordN (k : Nat) : Nat := if k < 1 then 1 else if k < 2 then 2 else if k < 4 then 3 else if k < 8 then 4 else if k < 17 then 5 else 6
def startsZ (n : Nat) : Int := startsL[n]?.getD 0
def placeZ (n : Nat) : Int := placeL[n]?.getD 0
theorem ord_chk : ((List.range 37).all fun k => (List.range 7).all fun n => !(decide (1 ≤ n) && decide (n ≤ ordN k)) || ((!decide (startsZ n ≤ (k : Int)) || decide (n + 1 ≤ ordN k)) && (!decide ((k : Int) < startsZ n) || decide (n = ordN k)))) = true := by decide
theorem ord_step (k : Nat) (hk : k < 37) (n : Nat) (hn : n < 7) (h1 : 1 ≤ n) (h2 : n ≤ ordN k) : (startsZ n ≤ k → n + 1 ≤ ordN k) ∧ ((k : Int) < startsZ n → n = ordN k) := by
  have h := ord_chk
  simp only [List.all_eq_true, List.mem_range] at h
  have h3 := h k hk n hn
  simp only [h1, h2, decide_true, Bool.and_self, Bool.not_true, Bool.false_or, Bool.and_eq_true, Bool.or_eq_true, Bool.not_eq_true', decide_eq_false_iff_not, decide_eq_true_eq] at h3
  exact ⟨fun hs => h3.1.resolve_left (fun hn => hn hs), fun hs => h3.2.resolve_left (fun hn => hn hs)⟩
theorem ord_bd (k : Nat) : 1 ≤ ordN k ∧ ordN k ≤ 6 := by unfold ordN; split <;> (try split) <;> (try split) <;> (try split) <;> (try split) <;> omega
theorem starts_bd : ∀ n, n < 7 → 0 ≤ startsZ n ∧ startsZ n ≤ 37 := by decide
theorem place_bd : ∀ n, n < 7 → 0 ≤ placeZ n ∧ placeZ n ≤ 87 := by decide
theorem at_bd : ∀ k : Nat, k < 37 → 0 ≤ (k : Int) - startsZ (ordN k - 1) ∧ (k : Int) - startsZ (ordN k - 1) ≤ 36 ∧ 0 ≤ placeZ (ordN k) + ((k : Int) - startsZ (ordN k - 1)) * ((ordN k : Int) + 1) ∧ placeZ (ordN k) + ((k : Int) - startsZ (ordN k - 1)) * ((ordN k : Int) + 1) + ordN k ≤ 227 ∧ ((k : Int) - startsZ (ordN k - 1)) * ((ordN k : Int) + 1) ≤ 227 ∧ 0 ≤ ((k : Int) - startsZ (ordN k - 1)) * ((ordN k : Int) + 1) := by decide
theorem l2Tree_any (k : Nat) (hk : k < 37) (w : World) : Calls Tryz.prog 191 #[.int .i64 (k : Int)] w fun e w' => e = .returned (.bool true) ∧ w = w' := by
  have hb : inB (k : Int) 0 36 = true := by simp [inB]; omega
  have HB := Lib.hid hb
  clear hb
  go_enter Tryz.func191, Tryz.ntmps191
  go_wp2_with (go_at_call 131; ((with_reducible refine (l1In_eq' HB.out _).mono ?_); rintro e w' ⟨rfl, rfl⟩))
  go_ret
  exact ⟨rfl, rfl⟩
theorem starts_any (w : World) : Calls Tryz.prog 212 #[] w fun e w' => e = .returned (.slice (some ⟨w.heap.size, 0, none⟩) 7 7) ∧ w' = w.alloc (.cells #[.int .i64 0, .int .i64 1, .int .i64 2, .int .i64 4, .int .i64 8, .int .i64 17, .int .i64 37] 3) := by
  go_enter Tryz.func212, Tryz.ntmps212
  go_wp2
  go_ret
  exact ⟨rfl, rfl⟩
theorem count_any (n : Nat) (nz : Int) (hnz : nz = n) (hn : n < 7) (w : World) : Calls Tryz.prog 194 #[.int .i64 nz] w fun e w' => e = .returned (.int .i64 (startsZ n)) ∧ Below w.heap.size w w' := by
  have hb : inB nz 0 6 = true := by simp [inB]; omega
  have HB := Lib.hid hb
  have HC := Lib.hid (show ∀ W : World, (W.alloc (.cells #[.int .i64 0, .int .i64 1, .int .i64 2, .int .i64 4, .int .i64 8, .int .i64 17, .int .i64 37] 3)).cell? ⟨W.heap.size, nz.toNat, none⟩ = some (.int .i64 (startsZ n)) from fun W => by
    have e : nz.toNat = n := by omega
    rw [e]
    match n, hn with
    | 0, _ => simp [startsZ, startsL]
    | 1, _ => simp [startsZ, startsL]
    | 2, _ => simp [startsZ, startsL]
    | 3, _ => simp [startsZ, startsL]
    | 4, _ => simp [startsZ, startsL]
    | 5, _ => simp [startsZ, startsL]
    | 6, _ => simp [startsZ, startsL])
  have hn0 : 0 ≤ nz := by omega
  have hn7 : nz < 7 := by omega
  clear hb hnz
  go_enter Tryz.func194, Tryz.ntmps194
  go_wp2_with (first | (go_at_call 131; ((with_reducible refine (l1In_eq' HB.out _).mono ?_); rintro e w' ⟨rfl, rfl⟩)) | fail)
  refine (starts_any w).mono ?_
  rintro e w1 ⟨rfl, rfl⟩
  have hcc := HC.out w
  go_wp2
  go_ret
  exact ⟨rfl, (Below.refl _ _).alloc (Nat.le_refl _) _⟩
theorem place_any (n : Nat) (nz : Int) (hnz : nz = n) (hn : n < 7) (w : World) : Calls Tryz.prog 193 #[.int .i64 nz] w fun e w' => e = .returned (.int .i64 (placeZ n)) ∧ Below w.heap.size w w' := by
  have hcc : (w.alloc (.cells #[.int .i64 0, .int .i64 0, .int .i64 2, .int .i64 5, .int .i64 13, .int .i64 33, .int .i64 87] 3)).cell? ⟨w.heap.size, nz.toNat, none⟩ = some (.int .i64 (placeZ n)) := by
    have e : nz.toNat = n := by omega
    rw [e]
    match n, hn with
    | 0, _ => simp [placeZ, placeL]
    | 1, _ => simp [placeZ, placeL]
    | 2, _ => simp [placeZ, placeL]
    | 3, _ => simp [placeZ, placeL]
    | 4, _ => simp [placeZ, placeL]
    | 5, _ => simp [placeZ, placeL]
    | 6, _ => simp [placeZ, placeL]
  have hn0 : 0 ≤ nz := by omega
  have hn7 : nz < 7 := by omega
  clear hnz
  go_enter Tryz.func193, Tryz.ntmps193
  go_wp2
  go_ret
  exact ⟨rfl, (Below.refl _ _).alloc (Nat.le_refl _) _⟩
theorem listed_any (w : World) : Calls Tryz.prog 195 #[] w fun e w' => (∃ s : ByteArray, e = .returned (.string s) ∧ s.size = 227) ∧ w = w' := by
  go_enter Tryz.func195, Tryz.ntmps195
  go_wp2
  go_ret
  exact ⟨⟨_, rfl, by rfl⟩, rfl⟩
set_option maxHeartbeats 800000 in
theorem order_any (k : Nat) (hk : k < 37) (w : World) : Calls Tryz.prog 192 #[.int .i64 (k : Int)] w fun e w' => e = .returned (.int .i64 (ordN k : Int)) ∧ Below w.heap.size w w' := by
  have HT := Lib.hid (l2Tree_any k hk)
  have HO := Lib.hid (ord_bd k)
  go_enter Tryz.func192, Tryz.ntmps192
  go_wp2_with fail
  refine (HT.out w).mono ?_
  rintro e w1 ⟨rfl, rfl⟩
  go_wp2
  go_loopw [3] (fun sn wq => ∃ n : Nat, 1 ≤ n ∧ n ≤ ordN k ∧ sn = .int .i64 n ∧ Below w.heap.size w wq) (fun sn _ => 7 - (intOf sn).toNat)
  case atStart => exact ⟨1, by omega, HO.out.1, rfl, Below.refl _ _⟩
  case round =>
    obtain ⟨wk, rfl⟩ : ∃ W, W = wr := ⟨_, rfl⟩
    obtain ⟨n, h1, hn, rfl, hb⟩ := hrel
    have hn6 := HO.out.2
    obtain ⟨s1, s2⟩ := ord_step k hk n (by omega) h1 hn
    go_wp2_with fail
    refine (count_any n n rfl (by omega) wk).mono ?_
    rintro e w2 ⟨rfl, hb2⟩
    have HB2 := Lib.hid (hb.trans (hb2.mono hb.size))
    clear hb hb2
    by_cases hs : startsZ n ≤ (k : Int)
    · have s3 := s1 hs
      clear s1 s2
      go_wp2
      go_roundw
      case rel => exact ⟨n + 1, by omega, s3, by go_num, HB2.out⟩
      case measure => simp [intOf]; omega
    · have s3 := s2 (by omega)
      clear s1 s2
      have HE := Lib.hid s3
      clear s3
      go_wp2
      go_ret
      exact ⟨ret_int (by rw [← HE.out]), HB2.out⟩
end Go.Proofs.YtbcjhpgkodeoeaaGreatDoor

/- The reference's levels of a tree: some row. Conditions: numbers of trees. -/
namespace Go.Proofs.YtbcjhpgkodeoeaaGreatDoor
open Go.RowKit

/-- Some row of one to six numbers. -/
def GivesLev (w : World) : Ending → World → Prop := fun e w' => ∃ v xs f, e = .returned v ∧ OwnI 3 w' v xs f ∧ 1 ≤ xs.length ∧ xs.length ≤ 6 ∧ (∀ b ∈ f, w.heap.size ≤ b) ∧ Below w.heap.size w w'
set_option maxRecDepth 100000 in
set_option maxHeartbeats 3200000 in
theorem levels_any (k : Nat) (hk : k < 37) (w : World) : Calls Tryz.prog 163 #[.int .i64 (k : Int)] w (GivesLev w) := by
  obtain ⟨ji, hji, hji0, hji1, hji2⟩ := info_parts Tryz.info_int
  obtain ⟨n, hn⟩ : ∃ n, n = ordN k := ⟨_, rfl⟩
  have hnb := ord_bd k
  have hab := at_bd k hk
  rw [← hn] at hnb hab
  have HT := Lib.hid (l2Tree_any k hk)
  have HO := Lib.hid (fun W => (hn ▸ order_any k hk W : Calls Tryz.prog 192 #[.int .i64 (k : Int)] W fun e w' => e = .returned (.int .i64 (n : Int)) ∧ Below W.heap.size W w'))
  obtain ⟨P, hP⟩ : ∃ P, P = placeZ n := ⟨_, rfl⟩
  obtain ⟨S, hS⟩ : ∃ S, S = startsZ (n - 1) := ⟨_, rfl⟩
  rw [← hP, ← hS] at hab
  have HP := Lib.hid (fun W => (hP ▸ place_any n n rfl (by omega) W : Calls Tryz.prog 193 #[.int .i64 (n : Int)] W fun e w' => e = .returned (.int .i64 P) ∧ Below W.heap.size W w'))
  have HS := Lib.hid (fun W => (hS ▸ count_any (n - 1) ((n : Int) - 1) (by omega) (by omega) W : Calls Tryz.prog 194 #[.int .i64 ((n : Int) - 1)] W fun e w' => e = .returned (.int .i64 S) ∧ Below W.heap.size W w'))
  obtain ⟨Q, hQ⟩ : ∃ Q, Q = ((k : Int) - S) * ((n : Int) + 1) := ⟨_, rfl⟩
  rw [← hQ] at hab
  obtain ⟨h1, h2, h3, h4, h5, h6⟩ := hab
  have hpb := place_bd n (by omega)
  rw [← hP] at hpb
  have hwq : IntKind.i64.wrap (((k : Int) - S) * ((n : Int) + 1)) = Q := by rw [← hQ]; exact IntWalk.i64_in _ (by omega)
  have hn1 := hnb.1
  have hn6 := hnb.2
  obtain ⟨hp0, hp87⟩ := hpb
  clear hn hP hS hQ hnb
  go_enter Tryz.func163, Tryz.ntmps163
  go_wp2_with fail
  refine (HT.out w).mono ?_
  rintro e w1 ⟨rfl, rfl⟩
  go_wp2_with fail
  refine (HO.out w).mono ?_
  rintro e w1 ⟨rfl, hb1⟩
  go_wp2_with fail
  refine (HP.out w1).mono ?_
  rintro e w2 ⟨rfl, hb2⟩
  go_wp2_with fail
  refine (HS.out w2).mono ?_
  rintro e w3 ⟨rfl, hb3⟩
  have hb02 := hb1.trans (hb2.mono hb1.size)
  have hb03 := hb02.trans (hb3.mono hb02.size)
  have hal := below_lit w3 3
  have HST := Lib.hid (show OwnI 3 (w3.alloc (.cells #[] 3)) (.slice (some ⟨w3.heap.size, 0, none⟩) 0 0) [] [w3.heap.size] ∧ w.heap.size ≤ w3.heap.size ∧ Below w.heap.size w (w3.alloc (.cells #[] 3)) from ⟨own_lit w3, hb03.size, hb03.trans (hal.mono hb03.size)⟩)
  clear hb1 hb2 hb3 hb02 hb03 hal HT HO HP HS
  have hwt : IntKind.i64.wrap (P + Q) = P + Q := IntWalk.i64_in _ (by omega)
  go_wp2
  go_loopw [5, 6] (fun so si wq => ∃ (j : Nat) (ys : List Int) (f : List Nat), j ≤ n ∧ si = .int .i64 (P + Q + j) ∧ OwnI 3 wq so ys f ∧ ys.length = j ∧ (∀ b ∈ f, w.heap.size ≤ b) ∧ Below w.heap.size w wq) (fun _ si _ => (P + Q + n - intOf si).toNat)
  case atStart => exact ⟨0, [], [w3.heap.size], Nat.zero_le _, by simp, HST.out.1, rfl, by have := HST.out.2.1; simp; omega, HST.out.2.2⟩
  case round =>
    obtain ⟨wk, rfl⟩ : ∃ W, W = wr := ⟨_, rfl⟩
    obtain ⟨j, ys, f, hj, rfl, ho, hyl, hfn, hb⟩ := hrel
    clear HST
    obtain ⟨ada, la, ca, rfl, _, _, _, _, _, _⟩ := ownI_open ho
    by_cases hjl : j < n
    case neg =>
      have hjI : ¬ (P + Q + (j : Int) < P + Q + (n : Int)) := by omega
      have HO := Lib.hid ho
      clear ho
      go_wp2
      go_ret
      exact ⟨_, ys, f, rfl, HO.out, by omega, by omega, hfn, hb⟩
    have hjI : P + Q + (j : Int) < P + Q + (n : Int) := by omega
    have HO := Lib.hid ho
    have HB := Lib.hid hb
    clear ho hb
    go_wp2_with fail
    refine (listed_any wk).mono ?_
    rintro e w4 ⟨⟨sl, rfl, hsl⟩, rfl⟩
    have hix0 : 0 ≤ P + Q + (j : Int) := by omega
    have hixI : (P + Q + (j : Int)).toNat < sl.size := by omega
    have hix2 : P + Q + (j : Int) < 227 := by omega
    obtain ⟨X, hX⟩ : ∃ X : Int, (((sl[(P + Q + (j : Int)).toNat]'hixI).toNat : Int) - 48) % 256 = X := ⟨_, rfl⟩
    have hXI : I64 X := ⟨by omega, by omega⟩
    have hal := below_lit1 wk 3 X
    have HOA := Lib.hid (ownI_only HO.out (Only.of_below (fp := []) hal) (by simp))
    have HBA := Lib.hid (HB.out.trans (hal.mono HB.out.size))
    have HSRC := Lib.hid (src_lit (e := 3) wk X hXI)
    have HAL := Lib.hid (show ys.length + 1 ≤ 1000000 from by omega)
    clear hal hXI
    go_wp2_with (first | (at_builtin; refine wpList_append_I _ (by rfl) _ _ 35 3 (by rfl) ji Tryz.underlying35 hji hji0 hji1 hji2 (v := .slice ada la ca) (vx := .slice (some ⟨wk.heap.size, 0, none⟩) 1 1) (by rfl) (by rfl) HOA.out HSRC.out HAL.out ?_; intro v' w' f' hv1 hv2 hv3; obtain ⟨adv, lv, cv, rfl, _⟩ := ownI_open hv1; have HV1 := Lib.hid hv1; have HV2 := Lib.hid hv2; have HV3 := Lib.hid hv3; clear hv1 hv2 hv3))
    all_goals (
      go_roundw
      case rel =>
        refine ⟨j + 1, _, f', by omega, by go_num, HV1.out, by simp; omega, fun b hb => ?_, HBA.out.trans (HV3.out.below HBA.out.size (fun b hb => hfn b hb))⟩
        rcases HV2.out b hb with h | h
        · exact hfn b h
        · have := HBA.out.size; omega
      case measure => simp [intOf]; omega)
end Go.Proofs.YtbcjhpgkodeoeaaGreatDoor

/- What is above each node of a tree: some row of the same length. Conditions: short rows. -/
namespace Go.Proofs.YtbcjhpgkodeoeaaGreatDoor
open Go.RowKit

/-- Some row of n numbers. -/
def GivesN (n : Nat) (w : World) : Ending → World → Prop := fun e w' => ∃ v xs f, e = .returned v ∧ OwnI 3 w' v xs f ∧ xs.length = n ∧ (∀ b ∈ f, w.heap.size ≤ b) ∧ Below w.heap.size w w'
set_option maxRecDepth 100000 in
set_option maxHeartbeats 6400000 in
theorem above_any (v : Value) (xs : List Int) (w : World) (h : RdI w v xs) (hl : xs.length ≤ 1000) : Calls Tryz.prog 164 #[v] w (GivesN xs.length w) := by
  obtain ⟨ji, hji, hji0, hji1, hji2⟩ := info_parts Tryz.info_int
  obtain ⟨ad, len, cap, rfl, hll, _, _, h'⟩ := rdS_open h
  rw [hll] at hl ⊢
  have hal0 := below_lit w 3
  have HST := Lib.hid (show OwnI 3 (w.alloc (.cells #[] 3)) (.slice (some ⟨w.heap.size, 0, none⟩) 0 0) [] [w.heap.size] ∧ Below w.heap.size w (w.alloc (.cells #[] 3)) from ⟨own_lit w, hal0⟩)
  clear h hll hal0
  go_enter Tryz.func164, Tryz.ntmps164
  go_wp2
  go_loopw [3, 4] (fun so si wq => ∃ (i : Nat) (ys : List Int) (f : List Nat), i ≤ len ∧ si = .int .i64 i ∧ OwnI 3 wq so ys f ∧ ys.length = i ∧ (∀ b ∈ f, w.heap.size ≤ b) ∧ Below w.heap.size w wq) (fun _ si _ => len - (intOf si).toNat)
  case atStart => exact ⟨0, [], [w.heap.size], Nat.zero_le _, rfl, HST.out.1, rfl, by simp, HST.out.2⟩
  case round =>
    obtain ⟨wk, rfl⟩ : ∃ W, W = wr := ⟨_, rfl⟩
    obtain ⟨i, ys, f, hi, rfl, ho, hyl, hfn, hb⟩ := hrel
    clear HST
    obtain ⟨ada, la, ca, rfl, _, _, _, _, _, _⟩ := ownI_open ho
    by_cases hil : i < len
    case neg =>
      obtain rfl : i = len := by omega
      have HO := Lib.hid ho
      clear ho
      go_wp2
      go_ret
      exact ⟨_, ys, f, rfl, HO.out, hyl, hfn, hb⟩
    have hiI : (i : Int) < len := by omega
    have hwi : IntKind.i64.wrap ((i : Int) - 1) = (i : Int) - 1 := IntWalk.i64_in _ (by omega)
    have HO := Lib.hid ho
    have HB := Lib.hid hb
    clear ho hb
    go_wp2
    go_loopw [5] (fun sk wq => ∃ (kz : Int) (m : Nat), -1 ≤ kz ∧ kz < i ∧ sk = .int .i64 kz ∧ wq = wk.drewN m) (fun sk _ => (intOf sk + 1).toNat)
    case atStart => exact ⟨(i : Int) - 1, 0, by omega, by omega, by simp, rfl⟩
    case round =>
      obtain ⟨wj, rfl⟩ : ∃ W, W = wr := ⟨_, rfl⟩
      obtain ⟨kz, m, hk1, hki, rfl, hwj⟩ := hrel
      have hbj : Below wk.heap.size wk wj := hwj ▸ blw_drewN (Below.refl _ _) m
      have HWJ := Lib.hid hwj
      clear hwj
      by_cases hk0 : 0 ≤ kz
      case neg =>
        obtain rfl : kz = -1 := by omega
        go_wp2
        go_quiet (fail)
        obtain ⟨wz, hwz⟩ : ∃ W, W = wj.drewN nq := ⟨_, rfl⟩
        have hbz : Below wk.heap.size wk wz := hbj.trans ((hwz ▸ blw_drewN (Below.refl _ _) _ : Below wj.heap.size wj wz).mono hbj.size)
        rw [← hwz]
        clear hwz hbj
        have hal := below_lit1 wz 3 (-1 : Int)
        have HOA := Lib.hid (ownI_only HO.out (Only.of_below (fp := []) (hbz.trans (hal.mono hbz.size))) (by simp))
        have HBA := Lib.hid (HB.out.trans ((hbz.trans (hal.mono hbz.size)).mono HB.out.size))
        have HSRC := Lib.hid (src_lit (e := 3) wz (-1 : Int) ⟨by omega, by omega⟩)
        have HAL := Lib.hid (show ys.length + 1 ≤ 1000000 from by omega)
        have hsj := (hbz.trans (hal.mono hbz.size)).size
        clear hal hbz
        go_wp2_with (first | (at_builtin; refine wpList_append_I _ (by rfl) _ _ 35 3 (by rfl) ji Tryz.underlying35 hji hji0 hji1 hji2 (v := .slice ada la ca) (vx := .slice (some ⟨wz.heap.size, 0, none⟩) 1 1) (by rfl) (by rfl) HOA.out HSRC.out HAL.out ?_; intro v' w' f' hv1 hv2 hv3; obtain ⟨adv, lv, cv, rfl, _⟩ := ownI_open hv1; have HV1 := Lib.hid hv1; have HV2 := Lib.hid hv2; have HV3 := Lib.hid hv3; clear hv1 hv2 hv3))
        all_goals (
          go_roundw
          case rel =>
            refine ⟨i + 1, _, f', by omega, by go_num, HV1.out, by simp; omega, fun b hb => ?_, HBA.out.trans (HV3.out.below HBA.out.size (fun b hb => hfn b hb))⟩
            rcases HV2.out b hb with h | h
            · exact hfn b h
            · have := HBA.out.size; omega
          case measure => simp [intOf]; omega)
      have hbw := HB.out.trans (hbj.mono HB.out.size)
      obtain ⟨k, rfl⟩ : ∃ k : Nat, kz = k := ⟨kz.toNat, by omega⟩
      obtain ⟨b5, o5, x, rfl, _, hcx, hIx, _⟩ := rdI_get (rdI_mono hbw h') (k := k) (by omega)
      obtain ⟨b6, o6, z, he6, _, hcz, hIz, _⟩ := rdI_get (rdI_mono hbw h') (k := i) hil
      simp only [Option.some.injEq, Addr.mk.injEq, and_true] at he6
      obtain ⟨rfl, rfl⟩ := he6
      obtain ⟨q, hq⟩ : ∃ q, IntKind.i64.wrap (z - 1) = q := ⟨_, rfl⟩
      have hkl : (k : Int) < len := by omega
      clear hbw hIx hIz
      by_cases hxq : x = q
      · subst hxq
        go_wp2
        go_quiet (fail)
        obtain ⟨wz, hwz⟩ : ∃ W, W = wj.drewN nq := ⟨_, rfl⟩
        have hbz : Below wk.heap.size wk wz := hbj.trans ((hwz ▸ blw_drewN (Below.refl _ _) _ : Below wj.heap.size wj wz).mono hbj.size)
        rw [← hwz]
        clear hwz hbj hcx hcz hq
        have hal := below_lit1 wz 3 (k : Int)
        have HOA := Lib.hid (ownI_only HO.out (Only.of_below (fp := []) (hbz.trans (hal.mono hbz.size))) (by simp))
        have HBA := Lib.hid (HB.out.trans ((hbz.trans (hal.mono hbz.size)).mono HB.out.size))
        have HSRC := Lib.hid (src_lit (e := 3) wz (k : Int) ⟨by omega, by omega⟩)
        have HAL := Lib.hid (show ys.length + 1 ≤ 1000000 from by omega)
        have hsj := (hbz.trans (hal.mono hbz.size)).size
        clear hal hbz
        go_wp2_with (first | (at_builtin; refine wpList_append_I _ (by rfl) _ _ 35 3 (by rfl) ji Tryz.underlying35 hji hji0 hji1 hji2 (v := .slice ada la ca) (vx := .slice (some ⟨wz.heap.size, 0, none⟩) 1 1) (by rfl) (by rfl) HOA.out HSRC.out HAL.out ?_; intro v' w' f' hv1 hv2 hv3; obtain ⟨adv, lv, cv, rfl, _⟩ := ownI_open hv1; have HV1 := Lib.hid hv1; have HV2 := Lib.hid hv2; have HV3 := Lib.hid hv3; clear hv1 hv2 hv3))
        all_goals (
          go_roundw
          case rel =>
            refine ⟨i + 1, _, f', by omega, by go_num, HV1.out, by simp; omega, fun b hb => ?_, HBA.out.trans (HV3.out.below HBA.out.size (fun b hb => hfn b hb))⟩
            rcases HV2.out b hb with h | h
            · exact hfn b h
            · have := HBA.out.size; omega
          case measure => simp [intOf]; omega)
      · have hxb : (x != q) = true := by simpa using hxq
        go_wp2
        go_quiet (fail)
        go_wp2
        go_roundw
        case rel => exact ⟨(k : Int) - 1, _, by omega, by omega, rfl, by rw [HWJ.out, World.drewN_drewN]⟩
        case measure => (simp [intOf]; try omega)
end Go.Proofs.YtbcjhpgkodeoeaaGreatDoor

/- A monomial in a box of its own that is being filled. Conditions: none. -/
namespace Go.Proofs.YtbcjhpgkodeoeaaGreatDoor
open Go.RowKit

/-- A monomial in a box of its own that is being filled. -/
structure PBox (e : Nat) (W wr : World) (B gq n cap : Nat) (c : Int) (ps : List Int) : Prop where
  c0 : wr.cell? ⟨B, 0, none⟩ = some (.int .i64 c)
  c1 : wr.cell? ⟨B, 1, none⟩ = some (.slice (some ⟨gq, 0, none⟩) n cap)
  own : OwnI e wr (.slice (some ⟨gq, 0, none⟩) n cap) ps [gq]
  len : ps.length = n
  ne : gq ≠ B
  hB : W.heap.size ≤ B
  hq : W.heap.size ≤ gq
  below : Below W.heap.size W wr
theorem PBox.set {e B gq n cap : Nat} {W wr : World} {c y : Int} {ps : List Int} (h : PBox e W wr B gq n cap c ps) {v : Nat} (hv : v < n) (hy : I64 y) :
    (∃ u, wr.cell? ⟨gq, v, none⟩ = some u) ∧ wr.frozen? ⟨gq, v, none⟩ = false ∧ PBox e W (wr.setCell ⟨gq, v, none⟩ (.int .i64 y)) B gq n cap c (ps.set v y) := by
  have hO : Only [gq] wr (wr.setCell ⟨gq, v, none⟩ (.int .i64 y)) := (Only.refl _ _).setCell (by simp) _
  have hl := h.len
  have hown := h.own.1
  rw [hl] at hown
  have hs := (hown.stored v (.int .i64 y)).1
  have hne := h.ne
  refine ⟨?_, hown.frozenAt v, cell_only hO (by simp; omega) h.c0, cell_only hO (by simp; omega) h.c1, ⟨?_, rfl, fun z hz => ?_⟩, by rw [List.length_set, hl], h.ne, h.hB, h.hq, h.below.setCell h.hq _⟩
  · rw [hown.cellAt v (by omega)]
    exact ⟨_, List.getElem?_eq_getElem (by rw [List.length_map]; omega)⟩
  · rw [List.length_set, hl, List.map_set]; exact hs
  · rcases List.mem_or_eq_of_mem_set hz with hz | rfl
    · exact h.own.2.2 z hz
    · exact hy
theorem PBox.step {e B gq n cap : Nat} {W wr w2 : World} {c : Int} {ps : List Int} (h : PBox e W wr B gq n cap c ps) (hb : Below wr.heap.size wr w2) : PBox e W w2 B gq n cap c ps :=
  ⟨cell_below hb h.c0, cell_below hb h.c1, ownI_only h.own (Only.of_below (fp := []) hb) (by simp), h.len, h.ne, h.hB, h.hq, h.below.trans (hb.mono h.below.size)⟩
end Go.Proofs.YtbcjhpgkodeoeaaGreatDoor

/- The reference's field of a tree: some field. Conditions: numbers of trees. -/
namespace Go.Proofs.YtbcjhpgkodeoeaaGreatDoor
open Go.RowKit Go.Sort

/-- A field of few short parts. -/
def SmallF (f : FldZ) : Prop := 0 ≤ f.dim ∧ f.dim ≤ 7 ∧ f.parts.length ≤ 6 ∧ ∀ p ∈ f.parts, p.length ≤ 4 ∧ ∀ m ∈ p, m.pows.length ≤ 6
/-- Some field. -/
def GivesFld (w : World) : Ending → World → Prop := fun e w' => ∃ v f fp, e = .returned v ∧ OwnFld 24 56 3 w' v f fp ∧ SmallF f ∧ (∀ b ∈ fp, w.heap.size ≤ b) ∧ Below w.heap.size w w'
/-- A literal of one monomial. -/
theorem lit_mon {e2 e : Nat} {w : World} {c : Int} {gq n cap : Nat} {ps : List Int} (hc : I64 c) (ho : OwnI e w (.slice (some ⟨gq, 0, none⟩) n cap) ps [gq]) :
    OwnMs e2 e (w.alloc (.cells #[.int .i64 c, .slice (some ⟨gq, 0, none⟩) n cap] e2)) (.slice (some ⟨w.heap.size, 0, none⟩) 1 1) [⟨c, ps⟩] [w.heap.size, gq] := by
  have hl := ownI_lt ho gq (by simp)
  have h := s_ownMs (e2 := e2) (e := e) (w := w.alloc (.cells #[.int .i64 c, .slice (some ⟨gq, 0, none⟩) n cap] e2)) (v := .slice (some ⟨w.heap.size, 0, none⟩) 1 1) (X := [⟨c, some ⟨gq, 0, none⟩, n, cap, ps, [gq]⟩])
    (by simpa [rowS, encS] using World.ownsRow_lit (base := 0) (e := e2) (size := 2) w #[.int .i64 c, .slice (some ⟨gq, 0, none⟩) n cap] 1 (Nat.zero_le _) (by unfold maxLen; omega) rfl)
    (fun x hx => by
      rw [List.mem_singleton] at hx
      subst hx
      exact ⟨hc, ownI_only ho (Only.of_below (fp := []) ((Below.refl _ _).alloc (Nat.le_refl _) _)) (by simp)⟩)
    (by simp [Value.ownBlock]; omega)
  simpa [monS, Value.ownBlock] using h

set_option maxRecDepth 100000 in
set_option maxHeartbeats 12800000 in
theorem treeField_any (k : Nat) (hk : k < 37) (w : World) : Calls Tryz.prog 128 #[.int .i64 (k : Int)] w (GivesFld w) := by
  obtain ⟨j1, hj1, hw0, hw1, hw2⟩ := info_parts Tryz.info_mons
  obtain ⟨i0, hi0, hz0, hz1, hz2⟩ := info_parts Tryz.info_int
  obtain ⟨W0, hW0⟩ : ∃ W, W = w.alloc (.cells #[.int .i64 0, .slice none 0 0] 30) := ⟨_, rfl⟩
  have hb0 : Below w.heap.size w W0 := hW0 ▸ (Below.refl _ _).alloc (Nat.le_refl _) _
  have hsz : W0.heap.size = w.heap.size + 1 := by rw [hW0]; simp
  have HW0 := Lib.hid hW0
  have HB0 := Lib.hid hb0
  have HSZ := Lib.hid hsz
  clear hb0 hsz
  go_enter Tryz.func128, Tryz.ntmps128
  go_wp2_with fail
  rw [← HW0.out]
  refine (levels_any k hk W0).mono ?_
  rintro e w1 ⟨vl, xs, fl, rfl, hol, hl1, hl6, hfl, hb1⟩
  obtain ⟨adl, n, cl, rfl, hln, _, _, _, _, _⟩ := ownI_open hol
  obtain ⟨W2, hW2⟩ : ∃ W, W = w1.alloc (.cells #[.int .i64 (n : Int), .slice none 0 0] 30) := ⟨_, rfl⟩
  have hb2 : Below w1.heap.size w1 W2 := hW2 ▸ (Below.refl _ _).alloc (Nat.le_refl _) _
  have HA := Lib.hid (above_any _ xs W2 (ownI_rd (ownI_only hol (Only.of_below (fp := []) hb2) (by simp))) (by omega))
  have HI := Lib.hid (fldInv_start (e1 := 24) (e2 := 56) (e := 3) hW2)
  have HW2 := Lib.hid hW2
  go_wp2_with fail
  rw [← HW2.out]
  refine HA.out.mono ?_
  rintro e w3 ⟨va, ys, fa, rfl, hoa, hya, hfa, hb3⟩
  obtain ⟨ada, na, ca, rfl, hna, _, _, _, _, _⟩ := ownI_open hoa
  obtain rfl : n = na := by omega
  obtain ⟨Bf, hBf⟩ : ∃ B, B = w1.heap.size := ⟨_, rfl⟩
  rw [← hBf] at HI
  have hBW : Bf < W2.heap.size := by have := HI.out.lt; exact this
  have h3s := hb3.size
  have HI3 := Lib.hid (show FldInv 24 56 3 w3 w3 Bf (n : Int) (.slice none 0 0) [] [] from
    ⟨⟨[], [], World.ownsRow_nil _ _ _ _, by simp, rfl, rfl, by simp⟩, by simp, Only.refl _ _, cell_below hb3 HI.out.c0, cell_below hb3 HI.out.c1, (hb3.frozen (p := ⟨Bf, 1, none⟩) hBW).trans HI.out.f1, by omega⟩)
  have hb02 := hb1.trans (hb2.mono hb1.size)
  have HB03 := Lib.hid (hb02.trans (hb3.mono hb02.size))
  have HOA := Lib.hid (show OwnI 3 w3 (.slice ada n ca) ys fa ∧ ∀ b ∈ fa, b ∉ [Bf] from ⟨hoa, fun b hb => by have := hfa b hb; simp; omega⟩)
  have HRB := Lib.hid (show B2 w3 w.heap.size from (HW0.out ▸ B2.new w (.int .i64 0) (.slice none 0 0) 30 : B2 W0 w.heap.size).only (Only.of_below (fp := []) HB03.out) (by simp))
  have hsB : W0.heap.size ≤ Bf := by rw [hBf]; exact hb1.size
  have HBF := Lib.hid hBf
  have hmk := mk_row n (by omega) (by omega)
  have hn16 : 1 ≤ n ∧ n ≤ 6 := by omega
  rw [← hBf]
  clear hol hfl hb1 hb2 hb3 hoa hya hfa hb02 HA HI hW2 hBf h3s hln hna
  go_wp2
  go_loopw [6] (fun si wq => ∃ (i : Nat) (u : Value) (ps : List (List MonZ)) (fs : List Nat), i ≤ n ∧ si = .int .i64 i ∧ FldInv 24 56 3 w3 wq Bf (n : Int) u ps fs ∧ ps.length = i ∧ ∀ p ∈ ps, p.length ≤ 4 ∧ ∀ m ∈ p, m.pows.length ≤ 6) (fun si _ => n - (intOf si).toNat)
  case atStart => exact ⟨0, _, [], [], Nat.zero_le _, rfl, HI3.out, rfl, fun p hp => by cases hp⟩
  case round =>
    obtain ⟨wk, rfl⟩ : ∃ W, W = wr := ⟨_, rfl⟩
    obtain ⟨i, u, ps, fs0, hi, rfl, hI, hpl, hsm⟩ := hrel
    have HSM0 := Lib.hid hsm
    clear hsm
    clear HI3
    by_cases hil : i < n
    case neg =>
      obtain rfl : i = n := by omega
      have hi0 := hI.c0
      have hi1 := hI.c1
      obtain ⟨adu, lu, cu, rfl⟩ := ownMss_slice hI.own
      have hsz := HSZ.out
      obtain ⟨⟨y0, hy0⟩, ⟨y1, hy1⟩, hyf0, hyf1⟩ := HRB.out.only hI.only (by simp; omega)
      have HI := Lib.hid hI
      clear hI
      go_wp2
      refine bodyPost_ret (v := .agg #[.int .i64 (i : Int), .slice adu lu cu]) (by simp [results, Tryz.results128, go_sem, hy0, hy1]) rfl ?_
      have hO2 : Only [w.heap.size] wk ((wk.setCell ⟨w.heap.size, 0, none⟩ (.int .i64 (i : Int))).setCell ⟨w.heap.size, 1, none⟩ (.slice adu lu cu)) := ((Only.refl _ _).setCell (by simp) _).setCell (by simp) _
      have h3 := HB03.out.size
      have hBk : Below w.heap.size w wk := (HB0.out.trans (HB03.out.mono HB0.out.size)).trans (HI.out.only.below (by omega) (by simp; omega))
      exact ⟨_, ⟨(i : Int), ps⟩, fs0, rfl, ⟨_, rfl, ⟨by show (-9223372036854775808 : Int) ≤ (i : Int); omega, by show (i : Int) ≤ 9223372036854775807; omega⟩, ownMss_only HI.out.own hO2 (fun b hb hm => by have := HI.out.new b hb; simp at hm; omega)⟩, ⟨by show (0 : Int) ≤ (i : Int); omega, by show (i : Int) ≤ 7; omega, by show ps.length ≤ 6; omega, HSM0.out⟩, fun b hb => by { have := HI.out.new b hb; omega }, (hBk.setCell (Nat.le_refl _) _).setCell (Nat.le_refl _) _⟩
    have hiI : (i : Int) < n := by omega
    have hwk3 := hI.only
    have hw3s := hI.only.size
    have hltI := ownMss_lt hI.own
    have HOAk := Lib.hid (show OwnI 3 wk (.slice ada n ca) ys fa from ownI_only HOA.out.1 hI.only HOA.out.2)
    have hi0 := hI.c0
    have hi1 := hI.c1
    have hfi1 := hI.f1
    obtain ⟨us, fs, hown, hone, hels, rfl, hnd⟩ := hI.own
    have HOWN := Lib.hid hown
    rw [hpl] at hown
    obtain ⟨adu, capu, rfl, hluc, hcum, _⟩ := row_open hown
    have HI := Lib.hid hI
    have HNU := Lib.hid hown
    have HONE := Lib.hid hone
    have HELS := Lib.hid hels
    have HND := Lib.hid hnd
    have HKL := Lib.hid hpl
    have hlw := World.block_lt_of_cell? _ _ hi1
    simp only at hlw
    clear hI hown hone hels hnd hpl hwk3 hltI
    obtain ⟨wz, hwz⟩ : ∃ W, W = (wk.alloc (.cells (Array.replicate n (.int .i64 0)) 3)).alloc (.cells #[.int .i64 1, .slice (some ⟨wk.heap.size, 0, none⟩) n n] 56) := ⟨_, rfl⟩
    have hbz : Below wk.heap.size wk wz := hwz ▸ ((Below.refl _ _).alloc (Nat.le_refl _) _).alloc (by simp) _
    have HPB := Lib.hid (show PBox 3 wk wz (wk.heap.size + 1) wk.heap.size n n 1 (zR n) from by
      have hz := zR_row (n := n) wk (by omega)
      have hbz' := hbz
      refine ⟨?_, ?_, ?_, by simp [zR], by omega, by omega, Nat.le_refl _, hbz'⟩
      · rw [hwz, ← size_al wk (.cells (Array.replicate n (.int .i64 0)) 3)]; simp
      · rw [hwz, ← size_al wk (.cells (Array.replicate n (.int .i64 0)) 3)]; simp
      · rw [hwz]; exact ownI_al hz _)
    have HWZ := Lib.hid hwz
    clear hwz hbz
    go_wp2_with fail
    go_loopw [8] (fun sj wq => ∃ (j : Nat) (ps : List Int), j ≤ n ∧ sj = .int .i64 j ∧ PBox 3 wk wq (wk.heap.size + 1) wk.heap.size n n 1 ps) (fun sj _ => n - (intOf sj).toNat)
    case atStart => exact ⟨0, zR n, Nat.zero_le _, rfl, by rw [← HWZ.out]; exact HPB.out⟩
    case round =>
      obtain ⟨wj, rfl⟩ : ∃ W, W = wr := ⟨_, rfl⟩
      obtain ⟨j, qs, hj, rfl, hP⟩ := hrel
      clear HPB
      have hbj := hP.below
      have hc0 := hP.c0
      have hc1 := hP.c1
      by_cases hjl : j < n
      case neg =>
        obtain rfl : j = n := by omega
        have hi1j := cell_below hbj hi1
        have hfi1j := (hbj.frozen (p := ⟨Bf, 1, none⟩) hlw).trans hfi1
        obtain ⟨wa, hwa⟩ : ∃ W, W = wj.alloc (.cells #[.int .i64 1, .slice (some ⟨wk.heap.size, 0, none⟩) j j] 56) := ⟨_, rfl⟩
        have hba : Below wj.heap.size wj wa := hwa ▸ (Below.refl _ _).alloc (Nat.le_refl _) _
        have hra := hbj.trans (hba.mono hbj.size)
        have HOP := Lib.hid (show OwnMs 56 3 wa (.slice (some ⟨wj.heap.size, 0, none⟩) 1 1) [⟨1, qs⟩] [wj.heap.size, wk.heap.size] from hwa ▸ lit_mon ⟨by omega, by omega⟩ hP.own)
        have HFP := Lib.hid (show ∀ b ∈ [wj.heap.size, wk.heap.size], wk.heap.size ≤ b from by have := hbj.size; simp; omega)
        have HRA := Lib.hid hra
        have HNQ := Lib.hid (ownsRow_only HNU.out (Only.of_below (fp := []) hra) (by simp))
        have hi1a := cell_below hra hi1
        have hfi1a := (hra.frozen (p := ⟨Bf, 1, none⟩) hlw).trans hfi1
        have HPS := Lib.hid (fun (w2 : World) (gg capn : Nat) (hown1 : w2.ownsRow 0 24 1 (.slice (some ⟨gg, 0, none⟩) (i + 1) capn) (i + 1) (us.flatten ++ [.slice (some ⟨wj.heap.size, 0, none⟩) 1 1])) (hgrow : (wa.alloc (.cells #[.slice (some ⟨wj.heap.size, 0, none⟩) 1 1] 24)).grownBy w2 (Value.slice adu i capu).ownBlock) (hat : (Value.slice adu i capu).ownBlock = some gg ∨ gg = wa.heap.size + 1) =>
          FldInv.push HI.out HONE.out HELS.out HND.out HOWN.out HKL.out HOP.out HFP.out HRA.out ((Below.refl _ _).alloc (Nat.le_refl _) _) hown1 hgrow (fun b hb => by
            simp [Value.ownBlock] at hb
            subst hb
            rcases hat with hat | hat
            · left; exact hat
            · right; rw [hat]; simp))
        have hi1b := cell_below ((Below.refl _ _).alloc (Nat.le_refl _) (.cells #[.slice (some ⟨wj.heap.size, 0, none⟩) 1 1] 24)) hi1a
        have hszE : wa.heap.size = wj.heap.size + 1 := by rw [hwa]; simp
        have HSM := Lib.hid (show ∀ p ∈ ps ++ [[⟨1, qs⟩]], p.length ≤ 4 ∧ ∀ m ∈ p, m.pows.length ≤ 6 from fun p hp => by
          rcases List.mem_append.1 hp with hp | hp
          · exact HSM0.out p hp
          · rw [List.mem_singleton] at hp
            subst hp
            refine ⟨by simp, fun m hm => ?_⟩
            rw [List.mem_singleton] at hm
            subst hm
            show qs.length ≤ 6
            rw [hP.len]; omega)
        subst hwa
        clear hba hra hP hbj
        go_wp2_with (first | (at_builtin; refine wpList_append_lies _ rfl _ _ _ rfl 0 24 j1 _ 1 24 Tryz.underlying28 hj1 hw0 hw1 hw2 rfl (by omega) (.slice adu i capu) i _ (by rfl) (HNQ.out.alloc _) ⟨wj.heap.size + 1, 0, none⟩ 1 1 [.slice (some ⟨wj.heap.size, 0, none⟩) 1 1] (by rfl) (by rfl) (World.news_of_block (cs := #[.slice (some ⟨wj.heap.size, 0, none⟩) 1 1]) (t := 24) (fr := (0, 0)) (by rw [← hszE]; exact heap_alloc_new _ _)) (by simp [Value.oneCell']) (by omega) (by unfold maxLen; omega) (by omega) (by simp) (wj.heap.size + 1 + 1) (by simp) ?_; intro gg capn w8 hown1 hgrow hat hlt1; obtain ⟨hcB, hfB, fp', hP⟩ := HPS.out w8 gg capn hown1 hgrow (hat.imp id (fun h => by rw [h, hszE])); have HPP := Lib.hid hP; clear hP hown1 hgrow))
        go_roundw
        case rel => exact ⟨i + 1, _, _, fp', by omega, by go_num, HPP.out, by simp [HKL.out], HSM.out⟩
        case measure => simp [intOf]; omega
      have hjI : (j : Int) < n := by omega
      have hrd : OwnI 3 wj (.slice ada n ca) ys fa := ownI_only HOAk.out (Only.of_below (fp := []) hbj) (by simp)
      obtain ⟨b5, o5, y, rfl, _, hcy, hIy, _⟩ := rdI_get (ownI_rd hrd) (k := j) hjl
      by_cases hyi : y = (i : Int)
      · subst hyi
        obtain ⟨⟨u0, hu0⟩, hfu, hP2⟩ := hP.set hjl (y := 1) ⟨by omega, by omega⟩
        have HP2 := Lib.hid hP2
        clear hP hP2 hrd hIy
        go_wp2
        go_roundw
        case rel => exact ⟨j + 1, _, by omega, by go_num, HP2.out⟩
        case measure => simp [intOf]; omega
      · have hyb : (y == (i : Int)) = false := by simpa using hyi
        have HP2 := Lib.hid hP
        clear hP hrd hIy
        go_wp2
        go_roundw
        case rel => exact ⟨j + 1, _, by omega, by go_num, HP2.out⟩
        case measure => simp [intOf]; omega
end Go.Proofs.YtbcjhpgkodeoeaaGreatDoor
