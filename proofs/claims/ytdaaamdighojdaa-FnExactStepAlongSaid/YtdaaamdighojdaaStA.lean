/- The parts of a step along a path: a jet times h, a row of a tableau, the reference's move by stages. Conditions: numbers. -/
import Derived.Test.YtdaaamdighojdaaOwnR
import Derived.Test.YtdaaamdighojdaaStepP
import Derived.Test.YtdaaamdighojdaaTOk
set_option linter.unusedSimpArgs false
set_option linter.unusedVariables false
namespace Go.Proofs.Ytdaaamdighojdaa
open Go.RowKit Go.Sort

theorem ownI_put {e : Nat} {w : World} {ad : Option Addr} {len cap k : Nat} {xs : List Int} {fp : List Nat} {c : Int} (h : OwnI e w (.slice ad len cap) xs fp) (hk : k < xs.length) (hc : I64 c) :
    ∃ g, ad = some ⟨g, 0, none⟩ ∧ fp = [g] ∧ (∃ u, w.cell? ⟨g, k, none⟩ = some u) ∧ w.frozen? ⟨g, k, none⟩ = false ∧ OwnI e (w.setCell ⟨g, k, none⟩ (.int .i64 c)) (.slice ad len cap) (xs.set k c) fp := by
  have hI := h.2.2
  obtain ⟨_, _, _, he, hl, _, _, hown, hg, _⟩ := ownI_open h
  injection he with e1 e2 e3
  subst e1 e2 e3
  obtain ⟨g, rfl, rfl⟩ := hg (by omega)
  have hs := (hown.stored k (.int .i64 c)).1
  refine ⟨g, rfl, rfl, ?_, hown.frozenAt k, ⟨by rw [List.length_set, hl, List.map_set]; exact hs, rfl, fun z hz => ?_⟩⟩
  · rw [hown.cellAt k (by omega), List.getElem?_map, List.getElem?_eq_getElem hk]
    exact ⟨_, rfl⟩
  · rcases List.mem_or_eq_of_mem_set hz with hz | rfl
    · exact hI z hz
    · exact hc

/-- a jet times h, i places gone through -/
def laterP (xs : List Int) (i : Nat) : List Int := (0 :: (xs.take i ++ List.replicate xs.length 0)).take xs.length
theorem laterP_len (xs : List Int) (i : Nat) : (laterP xs i).length = xs.length := by simp [laterP]; omega
theorem laterP_zero (xs : List Int) : laterP xs 0 = List.replicate xs.length 0 := by
  unfold laterP
  rw [List.take_zero, List.nil_append, ← List.replicate_succ, List.take_replicate]
  congr 1
  omega
theorem laterP_at (xs : List Int) (i k : Nat) (hk : k < xs.length) : (laterP xs i)[k]? = some (if k = 0 then 0 else if k - 1 < i then atZ xs (k - 1) else 0) := by
  unfold laterP
  rw [List.getElem?_take_of_lt hk]
  cases k with
  | zero => rfl
  | succ k =>
    rw [List.getElem?_cons_succ, if_neg (by omega)]
    by_cases h : k < i
    · rw [List.getElem?_append_left (by rw [List.length_take]; omega), List.getElem?_take_of_lt h, if_pos (by omega)]
      simp [atZ, List.getElem?_eq_getElem (show k < xs.length by omega)]
    · rw [if_neg (by omega)]
      rw [List.getElem?_append_right (by rw [List.length_take]; omega), List.getElem?_replicate, if_pos (by rw [List.length_take]; omega)]
theorem laterP_next {xs : List Int} {i : Nat} {x : Int} (hi : i + 1 < xs.length) (hx : xs[i]? = some x) : (laterP xs i).set (i + 1) x = laterP xs (i + 1) := by
  refine List.ext_getElem? fun k => ?_
  by_cases hk : k < xs.length
  · rw [laterP_at xs (i + 1) k hk]
    by_cases h : k = i + 1
    · subst h
      rw [List.getElem?_set_self (by rw [laterP_len]; exact hk), if_neg (by omega), if_pos (by omega)]
      simp [atZ_get hx]
    · rw [List.getElem?_set_ne (by omega), laterP_at xs i k hk]
      congr 1
      by_cases h0 : k = 0
      · rw [if_pos h0, if_pos h0]
      · rw [if_neg h0, if_neg h0]
        by_cases h1 : k - 1 < i
        · rw [if_pos h1, if_pos (by omega)]
        · rw [if_neg h1, if_neg (by omega)]
  · rw [List.getElem?_eq_none (by rw [List.length_set, laterP_len]; omega), List.getElem?_eq_none (by rw [laterP_len]; omega)]
theorem laterP_last {xs : List Int} {i : Nat} (hi : ¬ i + 1 < xs.length) : laterP xs i = laterP xs (i + 1) := by
  refine List.ext_getElem? fun k => ?_
  by_cases hk : k < xs.length
  · rw [laterP_at xs (i + 1) k hk, laterP_at xs i k hk]
    congr 1
    by_cases h0 : k = 0
    · rw [if_pos h0, if_pos h0]
    · rw [if_neg h0, if_neg h0, if_pos (by omega), if_pos (by omega)]
  · rw [List.getElem?_eq_none (by rw [laterP_len]; omega), List.getElem?_eq_none (by rw [laterP_len]; omega)]
theorem laterP_done (xs : List Int) : laterP xs xs.length = laterJ xs := by
  unfold laterP laterJ
  rw [List.take_of_length_le (Nat.le_refl _)]
  rw [← List.cons_append, List.take_append_of_le_length (by simp)]

set_option maxRecDepth 100000 in
set_option maxHeartbeats 1600000 in
theorem later1_any (v : Value) (xs : List Int) (w : World) (h : RdI w v xs) (h1 : 1 ≤ xs.length) (h7 : xs.length ≤ 7) :
    Calls Try.prog 139 #[v, .int .i64 1] w (Gives (fun w' v fp => OwnI 3 w' v (laterJ xs) fp) w) := by
  obtain ⟨ad, len, cap, rfl, hl, hlc, hcm, h'⟩ := rdS_open h
  have HL := Lib.hid hl
  have HI := Lib.hid (i64_all h')
  rw [hl] at h1 h7
  clear h hl
  obtain ⟨i0, hi, hz0, hz1, hz2⟩ := info_parts Try.info_int
  have hib : i0.bytes * len ≤ 281474976710656 := by rw [hz2]; omega
  go_enter Try.func139, Try.ntmps139
  go_wp2_with (first
    | (at_make; refine wpList_make_full _ rfl _ _ 78 rfl 0 3 i0 (.int .i64 0) 1 Try.underlying78 hi hz0 hz1 .i64 .i64 _ _ len rfl rfl rfl rfl hib (by unfold maxLen; omega) (Nat.zero_le _) ?_; intro w1 hown1 hgrow1))
  have hm0 : (madeCells (Value.int .i64 0).cells (len * 1)).toList = (List.replicate len (0 : Int)).map (Value.int .i64) := by
    rw [Nat.mul_one, List.map_replicate]; exact toList_madeCells_one _ _
  rw [hm0] at hown1
  have hbl : Below w.heap.size w w1 := (Below.refl _ _).grown hgrow1 (Nat.le_refl _) (fun k hk => by cases hk)
  have HO1 := Lib.hid (show OwnI 3 w1 (.slice (some ⟨w.heap.size, 0, none⟩) len len) (laterP xs 0) [w.heap.size] from ⟨by rw [laterP_zero, HL.out, List.length_replicate]; exact hown1, rfl, fun x hx => by rw [laterP_zero, List.mem_replicate] at hx; rw [hx.2]; exact ⟨by decide, by decide⟩⟩)
  have HBL := Lib.hid hbl
  clear hm0 hgrow1 hown1 hbl hib
  go_loopw [12] (fun i wr => ∃ k : Nat, k ≤ len ∧ i = .int .i64 k ∧ OwnI 3 wr (.slice (some ⟨w.heap.size, 0, none⟩) len len) (laterP xs k) [w.heap.size] ∧ Below w.heap.size w wr) (fun i _ => len - (intOf i).toNat)
  case atStart => exact ⟨0, Nat.zero_le _, rfl, HO1.out, HBL.out⟩
  case round =>
    obtain ⟨wk, rfl⟩ : ∃ W, W = wr := ⟨_, rfl⟩
    obtain ⟨k, hk, rfl, ho, hb⟩ := hrel
    clear HO1 HBL
    by_cases hlt : k < len
    case neg =>
      obtain rfl : k = len := by omega
      have HE := Lib.hid (laterP_done xs)
      rw [HL.out] at HE
      have HO := Lib.hid ho
      clear ho
      go_wp2
      go_ret
      exact ⟨_, [w.heap.size], rfl, by rw [← HE.out]; exact HO.out, by simp, hb⟩
    by_cases hl2 : k + 1 < len
    case neg =>
      have hE := laterP_last (xs := xs) (i := k) (by rw [HL.out]; exact hl2)
      rw [hE] at ho
      have HO := Lib.hid ho
      clear hE ho
      go_wp2
      go_roundw
      case rel => exact ⟨k + 1, by omega, by go_num, HO.out, hb⟩
      case measure => simp [intOf]; omega
    obtain ⟨b, o, x, rfl, hx, hcx, hIx, _⟩ := rdI_get (rdI_mono hb h') hlt
    obtain ⟨g, hg, _, ⟨u, hcu⟩, hfz, ho2⟩ := ownI_put ho (k := k + 1) (by rw [laterP_len, HL.out]; exact hl2) hIx
    simp only [Option.some.injEq, Addr.mk.injEq] at hg
    obtain ⟨rfl, _, _⟩ := hg
    rw [laterP_next (by rw [HL.out]; exact hl2) hx] at ho2
    have HO := Lib.hid ho2
    have HB := Lib.hid (hb.setCell (p := ⟨w.heap.size, k + 1, none⟩) (Nat.le_refl _) (.int .i64 x))
    clear ho ho2 hb hx
    go_wp2
    go_roundw
    case rel => exact ⟨k + 1, by omega, by go_num, HO.out, HB.out⟩
    case measure => simp [intOf]; omega

/-- What a call returns that lies in what was there. -/
def GivesV {β : Type} (Rd : World → Value → β → Prop) (w : World) (x : β) : Ending → World → Prop := fun e w' =>
  ∃ v, e = .returned v ∧ Rd w' v x ∧ Below w.heap.size w w'
/-- a row of A -/
def rowZ (A : List Int) (n i : Nat) : List Int := (A.drop (i * n)).take n
theorem rowZ_at {A : List Int} {n i j : Nat} (hj : j < n) : atZ (rowZ A n i) j = atZ A (i * n + j) := by
  unfold rowZ atZ
  rw [List.getElem?_take_of_lt hj, List.getElem?_drop]
theorem rowZ_len {A : List Int} {n i : Nat} (hA : A.length = n * n) (hi : i < n) : (rowZ A n i).length = n := by
  have : (i + 1) * n ≤ n * n := Nat.mul_le_mul_right n hi
  rw [Nat.succ_mul] at this
  rw [rowZ, List.length_take, List.length_drop]
  omega
theorem rdI_part {w : World} {b off len cap : Nat} {xs : List Int} (h : RdI w (.slice (some ⟨b, off, none⟩) len cap) xs) {lo n : Nat} (hl : lo + n ≤ len) : RdI w (.slice (some ⟨b, off + lo, none⟩) n (cap - lo)) ((xs.drop lo).take n) := by
  obtain ⟨ad', cap', he, h1, h2, h3⟩ := h
  injection he with e1 e2 e3
  subst e2 e3
  have hlen : ((xs.drop lo).take n).length = n := by rw [List.length_take, List.length_drop]; omega
  refine ⟨_, _, by rw [hlen], by rw [hlen]; omega, by omega, fun hp => ⟨b, off + lo, rfl, fun i x hx => ?_⟩⟩
  obtain ⟨b', o', hb, hc⟩ := h3 (by rw [hlen] at hp; omega)
  rw [← e1] at hb
  simp only [Option.some.injEq, Addr.mk.injEq] at hb
  obtain ⟨rfl, rfl, _⟩ := hb
  have hi := (List.getElem?_eq_some_iff.1 hx).1
  rw [hlen] at hi
  rw [List.getElem?_take_of_lt hi, List.getElem?_drop] at hx
  obtain ⟨us, hs, hu, hE⟩ := hc (lo + i) x hx
  exact ⟨us, hs, fun j u hj => by have := hu j u hj; rwa [show off + lo + i * 1 + j = off + (lo + i) * 1 + j by omega], hE⟩
theorem row_bd {n i : Nat} (hi : i < n) (hn : n ≤ 8) : 0 ≤ (i : Int) * n ∧ (i : Int) * n ≤ 64 ∧ ((i : Int) * n).toNat = i * n ∧ ((i : Int) + 1) * n = (i : Int) * n + n ∧ i * n + n ≤ n * n ∧ ((n * n : Nat) : Int) ≤ 64 ∧ ((i * n : Nat) : Int) = (i : Int) * n := by
  have h1 : i * n ≤ 8 * 8 := Nat.mul_le_mul (by omega) hn
  have h2 : ((i * n : Nat) : Int) = (i : Int) * n := by simp
  have h3 : (i + 1) * n ≤ n * n := Nat.mul_le_mul_right n hi
  have h4 : n * n ≤ 8 * 8 := Nat.mul_le_mul hn hn
  rw [Nat.succ_mul] at h3
  refine ⟨by omega, by omega, by omega, ?_, h3, by omega, h2⟩
  rw [Int.add_mul, Int.one_mul]
set_option maxRecDepth 100000 in
set_option maxHeartbeats 1600000 in
theorem row_any (v : Value) (t : TabZ) (w : World) (h : RdTab w v t) (hok : tabOkB t = true) {i : Nat} (hi : i < t.B.length) :
    Calls Try.prog 140 #[v, .int .i64 i] w (GivesV RdI w (rowZ t.A t.B.length i)) := by
  obtain ⟨vA, vB, rfl, hI, hA, hB⟩ := h
  obtain ⟨hs, hAn, hn8⟩ := tabOk_num hok
  obtain ⟨n, hn⟩ : ∃ n, n = t.B.length := ⟨_, rfl⟩
  rw [← hn] at hs hAn hn8 hi ⊢
  have hb0 : Below w.heap.size w (w.alloc (.cells #[.int .i64 t.stages, vA, vB] 68)) := (Below.refl _ _).alloc (Nat.le_refl _) _
  rw [hs] at hb0 ⊢
  obtain ⟨p0, p1, p2, p3, p4, p5, p7⟩ := row_bd hi hn8
  obtain ⟨aA, nA, cA, rfl, lA, hlc, hcm, gA⟩ := rdS_open (rdI_mono hb0 hA)
  have hnA : nA = n * n := by omega
  obtain ⟨bA, oA, x, rfl, _⟩ := rdI_get gA (k := i * n) (by omega)
  have hP := rdI_part gA (lo := i * n) (n := n) (by omega)
  have HP := Lib.hid hP
  have q1 : (i : Int) * n + n ≤ cA := by omega
  have q2 : (i : Int) * n ≤ (i : Int) * n + n := by omega
  have q3 : ((i : Int) * n + n).toNat = i * n + n := by omega
  have q4 : 0 ≤ (i : Int) * n + n := by omega
  have q5 : ¬ cA - i * n = 0 := by omega
  have q6 : (i : Int) * n + n ≤ 72 := by omega
  have HB := Lib.hid hb0
  clear hs hAn hn lA hP hB gA hA hb0 hnA p7 p4 p5
  go_enter Try.func140, Try.ntmps140
  go_wp2
  go_ret
  exact ⟨_, rfl, HP.out, HB.out⟩


set_option maxRecDepth 100000 in
set_option maxHeartbeats 1600000 in
theorem sRow_any (v : Value) (t : TabZ) (w : World) (h : RdTab w v t) (hok : tabOkB t = true) {i : Nat} (hi : i < t.B.length) :
    Calls Try.prog 109 #[v, .int .i64 i] w (GivesV RdI w (rowZ t.A t.B.length i)) := by
  obtain ⟨vA, vB, rfl, hI, hA, hB⟩ := h
  obtain ⟨hs, hAn, hn8⟩ := tabOk_num hok
  obtain ⟨n, hn⟩ : ∃ n, n = t.B.length := ⟨_, rfl⟩
  rw [← hn] at hs hAn hn8 hi ⊢
  have hb0 : Below w.heap.size w (w.alloc (.cells #[.int .i64 t.stages, vA, vB] 68)) := (Below.refl _ _).alloc (Nat.le_refl _) _
  rw [hs] at hb0 ⊢
  obtain ⟨p0, p1, p2, p3, p4, p5, p7⟩ := row_bd hi hn8
  obtain ⟨aA, nA, cA, rfl, lA, hlc, hcm, gA⟩ := rdS_open (rdI_mono hb0 hA)
  have hnA : nA = n * n := by omega
  obtain ⟨bA, oA, x, rfl, _⟩ := rdI_get gA (k := i * n) (by omega)
  have hP := rdI_part gA (lo := i * n) (n := n) (by omega)
  have HP := Lib.hid hP
  have q1 : (i : Int) * n + n ≤ cA := by omega
  have q2 : (i : Int) * n ≤ (i : Int) * n + n := by omega
  have q3 : ((i : Int) * n + n).toNat = i * n + n := by omega
  have q4 : 0 ≤ (i : Int) * n + n := by omega
  have q5 : ¬ cA - i * n = 0 := by omega
  have q6 : (i : Int) * n + n ≤ 72 := by omega
  have HB := Lib.hid hb0
  clear hs hAn hn lA hP hB gA hA hb0 hnA p7 p4 p5
  go_enter Try.func109, Try.ntmps109
  go_wp2
  go_ret
  exact ⟨_, rfl, HP.out, HB.out⟩
end Go.Proofs.Ytdaaamdighojdaa
