/- The texts Repeat, CpyO, Ser in one: each says at its head what it proves. Conditions: as said there. -/
import Derived.Laws.CopyOwn
import Derived.Deep.RegionLaw
import Derived.Test.YtbcjhpgkodeoeaaGreatDoorK17
import Derived.Test.YtbcjhpgkodeoeaaGreatDoorK13
set_option linter.unusedSimpArgs false
set_option linter.unusedVariables false
/- Copies of cells of several-cell elements, and slices.Repeat of one tableau. Conditions: one to six copies. -/
namespace Go.Proofs.YtbcjhpgkodeoeaaGreatDoor
open Go.RowKit Go.Sort

theorem copy_row_run {P : Program} (w : World) (dT sT ty elem : TypeId) (k : Nat) (hu : P.underlying dT = some (.slice elem)) (hs : (P.info? elem).map (·.size) = some k) (g N off dLen dCap : Nat) (a : Addr) (sLen sCap e : Nat) (L : List Value)
    (hrow : w.ownsRow 0 e k (.slice (some ⟨g, 0, none⟩) N N) N L) (cs : List Value) (m : Nat) (hm : Nat.min sLen dLen = m) (hn : cs.length = m * k) (hsrc : ∀ (j : Nat) v, cs[j]? = some v → w.cell? (a.add j) = some v) (hfit : off + cs.length ≤ N * k)
    (h1 : ∀ v ∈ cs, v.oneCell' = true) :
    ∃ w', (Builtin.copy_ #[dT, sT] ty #[.slice (some ⟨g, off, none⟩) dLen dCap, .slice (some a) sLen sCap]).run P w = .ok (goInt m) w' ∧
      w'.ownsRow 0 e k (.slice (some ⟨g, 0, none⟩) N N) N (L.take off ++ cs ++ L.drop (off + cs.length)) ∧ Only [g] w w' := by
  obtain ⟨hlen, ⟨he, _⟩ | ⟨g', cap, cur, he, _, hh, hc1, hc2, hc3, hc4⟩⟩ := hrow
  · cases he
  injection he with e1 e2 e3
  simp only [Option.some.injEq, Addr.mk.injEq] at e1
  obtain ⟨rfl, _, _⟩ := e1
  subst e3
  have hcur : cur.toList = L := by rw [← hc4, List.take_of_length_le (by simp [hc3])]
  have hl := run_loadCells_list (P := P) w a cs hsrc
  have hst := run_storeCells_at P g off e cs 0 cur w hh (by simp only [Nat.add_zero]; omega) h1
  have hset := setRow_heap w g cur (cur.toList.take off ++ cs ++ cur.toList.drop (off + cs.length)).toArray e _ hh
  refine ⟨w.setRow g (cur.toList.take off ++ cs ++ cur.toList.drop (off + cs.length)).toArray, ?_, ⟨?_, .inr ⟨g, N, _, rfl, Nat.zero_le _, hset, Nat.le_refl _, hc2, ?_, ?_⟩⟩, ?_⟩
  · cases hq : P.info? elem with
    | none => simp [hq] at hs
    | some i =>
      have hi : i.size = k := by simpa [hq] using hs
      simp [Builtin.copy_, run_underlying hu, Builtin.lenOf, Builtin.firstCells, sizeOf, typeInfo, hq, hi, hm, ← hn, hl, hst]
  · have : L.length = N * k := hlen
    simp only [List.length_append, List.length_take, List.length_drop]
    omega
  · have : cur.toList.length = N * k := by simp [hc3]
    simp only [List.size_toArray, List.length_append, List.length_take, List.length_drop]
    omega
  · rw [hcur]
    have : L.length = N * k := hlen
    rw [List.take_of_length_le]
    simp only [List.length_append, List.length_take, List.length_drop]
    omega
  · exact ⟨rfl, rfl, rfl, by simp [World.setRow], fun q hq hn => setRow_other w g q _ (by simpa using hn)⟩

theorem wpList_copy_row {P : Program} {w : World} {ops : Array Oper} {rest : List Oper} {o : Oper} {a : Act} {Q : Exit → Act → World → Prop} (hgd : o.guard = none) (d s : Operand) (dT sT : TypeId)
    (ho : o.op = .call { callee := .builtin .copy, args := #[d, s], argTypes := #[dT, sT] }) (elem : TypeId) (k : Nat) (hu : P.underlying dT = some (.slice elem)) (hsz : (P.info? elem).map (·.size) = some k)
    (g N off dLen dCap : Nat) (ad : Addr) (sLen sCap e : Nat) (hd : a.eval d = .slice (some ⟨g, off, none⟩) dLen dCap) (hs : a.eval s = .slice (some ad) sLen sCap) (L : List Value)
    (hrow : w.ownsRow 0 e k (.slice (some ⟨g, 0, none⟩) N N) N L) (cs : List Value) (m : Nat) (hm : Nat.min sLen dLen = m) (hn : cs.length = m * k) (hsrc : ∀ (j : Nat) v, cs[j]? = some v → w.cell? (ad.add j) = some v) (hfit : off + cs.length ≤ N * k)
    (h1 : ∀ v ∈ cs, v.oneCell' = true)
    (h : ∀ w', w'.ownsRow 0 e k (.slice (some ⟨g, 0, none⟩) N N) N (L.take off ++ cs ++ L.drop (off + cs.length)) → Only [g] w w' → wpList P ops Q rest (a.put o.dst (goInt m)) w') :
    wpList P ops Q (o :: rest) a w := by
  obtain ⟨w', hrun, r1, r2⟩ := copy_row_run w dT sT o.type elem k hu hsz g N off dLen dCap ad sLen sCap e L hrow cs m hm hn hsrc hfit h1
  refine wpList_plain hgd fun K hK => ?_
  unfold Oper.wp
  simp [execOp, ho, resolve, invoke, builtin, hd, hs, hrun, Result.andThen]
  exact hK _ _ (h w' r1 r2)
theorem step_copy_row {P : Program} {ops : Array Oper} {o : Oper} {a : Act} {w : World} {K : Act → World → Prop} {Q : Exit → Act → World → Prop} {E : Prop} (hgd : o.guard = none) (d s : Operand) (dT sT : TypeId)
    (ho : o.op = .call { callee := .builtin .copy, args := #[d, s], argTypes := #[dT, sT] }) (elem : TypeId) (k : Nat) (hu : P.underlying dT = some (.slice elem)) (hsz : (P.info? elem).map (·.size) = some k)
    (g N off dLen dCap : Nat) (ad : Addr) (sLen sCap e : Nat) (hd : a.eval d = .slice (some ⟨g, off, none⟩) dLen dCap) (hs : a.eval s = .slice (some ad) sLen sCap) (L : List Value)
    (hrow : w.ownsRow 0 e k (.slice (some ⟨g, 0, none⟩) N N) N L) (cs : List Value) (m : Nat) (hm : Nat.min sLen dLen = m) (hn : cs.length = m * k) (hsrc : ∀ (j : Nat) v, cs[j]? = some v → w.cell? (ad.add j) = some v) (hfit : off + cs.length ≤ N * k)
    (h1 : ∀ v ∈ cs, v.oneCell' = true)
    (h : ∀ w', w'.ownsRow 0 e k (.slice (some ⟨g, 0, none⟩) N N) N (L.take off ++ cs ++ L.drop (off + cs.length)) → Only [g] w w' → K (a.put o.dst (goInt m)) w') :
    if Region.wanted o (yielded ops a.tmps) = true then Oper.wp P o a w K Q else E := by
  have hw : Region.wanted o (yielded ops a.tmps) = true := by simp [Region.wanted, hgd]
  rw [if_pos hw]
  obtain ⟨w', hrun, r1, r2⟩ := copy_row_run w dT sT o.type elem k hu hsz g N off dLen dCap ad sLen sCap e L hrow cs m hm hn hsrc hfit h1
  unfold Oper.wp
  simp [execOp, ho, resolve, invoke, builtin, hd, hs, hrun, Result.andThen]
  exact h w' r1 r2

/-- c copies of the same cells at the head -/
theorem rep_flat {α : Type} (T : List α) (c m : Nat) : (List.replicate (c + m) T).flatten = (List.replicate c T).flatten ++ (List.replicate m T).flatten := by
  rw [← List.replicate_append_replicate, List.flatten_append]
theorem rep_len {α : Type} (T : List α) (c : Nat) : (List.replicate c T).flatten.length = c * T.length := by
  induction c with
  | zero => simp
  | succ c ih => rw [List.replicate_succ, List.flatten_cons, List.length_append, ih, Nat.succ_mul]; omega
theorem rep_next {T L : List Value} {c m N : Nat} (hT : T.length = 3) (hL : L.length = N * 3) (hc : c + m ≤ N) (h : L.take (c * 3) = (List.replicate c T).flatten) :
    (L.take (c * 3) ++ (List.replicate m T).flatten ++ L.drop (c * 3 + (List.replicate m T).flatten.length)).take ((c + m) * 3) = (List.replicate (c + m) T).flatten := by
  have hl := rep_len T m
  have hl2 := rep_len T c
  rw [hT] at hl hl2
  rw [h, ← rep_flat, List.take_append_of_le_length (by rw [rep_len, hT]; exact Nat.le_refl _), List.take_of_length_le (by rw [rep_len, hT]; exact Nat.le_refl _)]

def ElTab (w : World) (us : List Value) (t : TabZ) : Prop := ∃ vA vB, us = [.int .i64 t.stages, vA, vB] ∧ I64 t.stages ∧ RdI w vA t.A ∧ RdI w vB t.B
theorem elTab_mono {w w' : World} {us : List Value} {t : TabZ} (hb : Below w.heap.size w w') (h : ElTab w us t) : ElTab w' us t := by
  obtain ⟨vA, vB, rfl, hI, hA, hB⟩ := h
  exact ⟨vA, vB, rfl, hI, rdI_mono hb hA, rdI_mono hb hB⟩
/-- []Tableau -/
abbrev RdTabs := RdS 3 ElTab
theorem rdTabs_mono {w w' : World} {v : Value} {xs : List TabZ} (hb : Below w.heap.size w w') (h : RdTabs w v xs) : RdTabs w' v xs := rdS_mono (fun _ _ h => elTab_mono hb h) hb h
theorem rdTabs_of {w : World} {e g N : Nat} {L : List Value} {T : List Value} {t : TabZ} (hrow : w.ownsRow 0 e 3 (.slice (some ⟨g, 0, none⟩) N N) N L) (hT : T.length = 3) (hE : ElTab w T t) (h : L.take (N * 3) = (List.replicate N T).flatten) (hN : N ≤ 6) :
    RdTabs w (.slice (some ⟨g, 0, none⟩) N N) (List.replicate N t) := by
  have hlen := hrow.1
  rw [List.take_of_length_le (by omega)] at h
  refine ⟨some ⟨g, 0, none⟩, N, by simp, by simp, by omega, fun hp => ⟨g, 0, rfl, fun i x hx => ?_⟩⟩
  have hi : i < N := by
    have := (List.getElem?_eq_some_iff.1 hx).1
    simpa using this
  rw [List.getElem?_replicate, if_pos hi] at hx
  obtain rfl := Option.some.inj hx
  refine ⟨T, hT, fun j u hj => ?_, hE⟩
  have hj3 := (List.getElem?_eq_some_iff.1 hj).1
  have h2 := flat_get (us := List.replicate N T) (n := 3) (i := i) (u := T) (by intro u hu; rw [List.mem_replicate] at hu; rw [hu.2, hT]) (by rw [List.getElem?_replicate, if_pos hi]) hj
  rw [Nat.zero_add, hrow.cellAt _ (by omega), h]
  exact h2

theorem mul_any (n : Nat) (w : World) (h1 : 1 ≤ n) (h6 : n ≤ 6) : Calls Tryz.prog 126 #[.int .u64 1, .int .u64 n] w fun e w' => e = .returned (.tuple #[.int .u64 0, .int .u64 n]) ∧ w = w' := by
  have key : Calls Tryz.prog 162 #[.int .u64 1, .int .u64 n] w fun e w' => e = .returned (.tuple #[.int .u64 0, .int .u64 n]) ∧ w = w' := by
    rcases (show n = 1 ∨ n = 2 ∨ n = 3 ∨ n = 4 ∨ n = 5 ∨ n = 6 by omega) with rfl | rfl | rfl | rfl | rfl | rfl
    all_goals (
      go_enter Tryz.func162, Tryz.ntmps162
      go_wp2
      go_ret2
      exact ⟨rfl, rfl⟩)
  go_enter Tryz.func126, Tryz.ntmps126
  go_wp2_with (go_at_call 162; ((with_reducible refine key.mono ?_); rintro e w' ⟨rfl, rfl⟩))
  go_ret2
  exact ⟨rfl, rfl⟩

theorem Tryz.info_tab0 : (Tryz.prog.info? 37).map (fun i => (i.zero, i.size, i.bytes)) = some (some (.agg #[.int .i64 0, .slice none 0 0, .slice none 0 0]), 3, 56) := by kernel_rfl

theorem addr_add (g o i : Nat) : (⟨g, o, none⟩ : Addr).add i = ⟨g, o + i, none⟩ := by unfold Addr.add; split <;> simp_all

set_option maxRecDepth 100000 in
set_option maxHeartbeats 3200000 in
theorem repeat_any (b c n : Nat) (t : TabZ) (T : List Value) (w : World) (hT : T.length = 3) (hT1 : ∀ v ∈ T, v.oneCell' = true) (hc : ∀ (j : Nat) v, T[j]? = some v → w.cell? ⟨b, j, none⟩ = some v) (hE : ElTab w T t) (hc1 : 1 ≤ c) (hn1 : 1 ≤ n) (hn6 : n ≤ 6) (hcc : c ≤ 9223372036854775807) :
    Calls Tryz.prog 60 #[.slice (some ⟨b, 0, none⟩) 1 c, .int .i64 n] w (GivesV RdTabs w (List.replicate n t)) := by
  obtain ⟨i0, hi, hz0, hz1, hz2⟩ := info_parts Tryz.info_tab0
  have hib : i0.bytes * n ≤ 281474976710656 := by rw [hz2]; omega
  have HT := Lib.hid hT
  have HT1 := Lib.hid hT1
  have HC := Lib.hid hc
  have HE := Lib.hid hE
  clear hT hT1 hc hE
  have hgn : decide ((9223372036854775807 : Int) < (n : Int)) = false := by simp; omega
  have hgm : decide ((n : Int) < 0) = false := by simp
  have HSZ := Lib.hid (show (Tryz.prog.info? 37).map (·.size) = some 3 by rw [hi]; simp [hz1])
  have HSRC := Lib.hid (fun (wz : World) (hz : Below w.heap.size w wz) => show ∀ (j : Nat) v, T[j]? = some v → wz.cell? ((⟨b, 0, none⟩ : Addr).add j) = some v from fun j v hj => by
    rw [addr_add, Nat.zero_add]
    exact cell_below hz (HC.out j v hj))
  have hmin : Nat.min 1 n = 1 := Nat.min_eq_left hn1
  have HMIN := Lib.hid hmin
  clear hmin
  go_enter Tryz.func60, Tryz.ntmps60
  go_wp2_with (first
    | (go_at_call 126; ((with_reducible refine (mul_any n _ hn1 hn6).mono ?_); rintro e w' ⟨rfl, rfl⟩))
    | (at_make; refine wpList_make_full _ rfl _ _ 85 rfl 0 37 i0 (.agg #[.int .i64 0, .slice none 0 0, .slice none 0 0]) 3 Tryz.underlying85 hi hz0 hz1 .i64 .i64 _ _ n rfl rfl rfl rfl hib (by unfold maxLen; omega) (Nat.zero_le _) ?_; intro w1 hown1 hgrow1; have HO1 := Lib.hid hown1; have HB1 := Lib.hid ((Below.refl w.heap.size w).grown hgrow1 (Nat.le_refl _) (fun k hk => by cases hk)); clear hown1 hgrow1)
    | (refine wpList_copy_row (o := ⟨some 33, _, _, _, _, _⟩) rfl (.tmp 31) (.tmp 32) 85 85 rfl 37 3 Tryz.underlying85 HSZ.out w.heap.size n 0 n n ⟨b, 0, none⟩ 1 c 37 (by rfl) (by rfl) _ HO1.out T 1 HMIN.out (by rw [HT.out]) (HSRC.out _ HB1.out) (by rw [HT.out]; omega) HT1.out ?_; intro w2 hown2 hO2))
  have HO2 := Lib.hid (show ∃ L, w2.ownsRow 0 37 3 (.slice (some ⟨w.heap.size, 0, none⟩) n n) n L ∧ L.take (1 * 3) = (List.replicate 1 T).flatten from ⟨_, hown2, by
    have h3 := HT.out
    simp only [List.take_zero, List.nil_append, List.replicate_one, List.flatten_cons, List.flatten_nil, List.append_nil]
    rw [List.take_append_of_le_length (by omega), List.take_of_length_le (by omega)]⟩)
  have HB2 := Lib.hid (HB1.out.trans (hO2.below HB1.out.size (by simp)))
  clear hown2 hO2
  go_loopw [8] (fun i wr => ∃ q : Nat, 1 ≤ q ∧ q ≤ n ∧ i = .int .i64 q ∧ (∃ L, wr.ownsRow 0 37 3 (.slice (some ⟨w.heap.size, 0, none⟩) n n) n L ∧ L.take (q * 3) = (List.replicate q T).flatten) ∧ Below w.heap.size w wr) (fun i _ => n - (intOf i).toNat)
  case atStart => exact ⟨1, Nat.le_refl _, hn1, rfl, HO2.out, HB2.out⟩
  case round =>
    obtain ⟨wk, rfl⟩ : ∃ W, W = wr := ⟨_, rfl⟩
    obtain ⟨q, hq1, hq, rfl, ⟨L, hL, hLt⟩, hb⟩ := hrel
    clear HO1 HO2 HB1 HB2
    have HL := Lib.hid hL
    have HLT := Lib.hid hLt
    by_cases hlt : q < n
    case neg =>
      obtain rfl : q = n := by omega
      clear hL hLt
      go_wp2
      go_ret
      exact ⟨_, rfl, rdTabs_of HL.out HT.out (elTab_mono hb HE.out) HLT.out hn6, hb⟩
    obtain ⟨m, hm⟩ : ∃ m, Nat.min q (n - q) = m := ⟨_, rfl⟩
    have hm1 : 1 ≤ m := by rw [← hm]; exact Nat.le_min.2 ⟨hq1, by omega⟩
    have hm2 : m ≤ q := by rw [← hm]; exact Nat.min_le_left _ _
    have hm3 : m ≤ n - q := by rw [← hm]; exact Nat.min_le_right _ _
    have HMM := Lib.hid hm
    clear hm
    have hdr : Below wk.heap.size wk wk.drew := (Below.refl _ _).drew
    have HLD := Lib.hid (ownsRow_only hL (Only.of_below (fp := []) hdr) (by simp))
    have hlen := hL.1
    have hrl := rep_len T (m)
    rw [HT.out] at hrl
    have HRL := Lib.hid hrl
    have HLEN := Lib.hid hlen
    have HSR := Lib.hid (show ∀ (j : Nat) v, (List.replicate (m) T).flatten[j]? = some v → wk.drew.cell? ((⟨w.heap.size, 0, none⟩ : Addr).add j) = some v from fun j v hj => by
      have h1 := (List.getElem?_eq_some_iff.1 hj).1
      rw [hrl] at h1
      have h2 := HLD.out.cellAt j (by omega)
      rw [addr_add, Nat.zero_add, h2]
      have h3 : (List.replicate q T).flatten[j]? = some v := by
        have h4 : q = m + (q - m) := by omega
        rw [h4, rep_flat, List.getElem?_append_left (by rw [hrl]; omega)]
        exact hj
      rw [← hLt, List.getElem?_take_of_lt (by omega)] at h3
      exact h3)
    have HOC := Lib.hid (show ∀ v ∈ (List.replicate (m) T).flatten, v.oneCell' = true from fun v hv => by
      rw [List.mem_flatten] at hv
      obtain ⟨u, hu, hv⟩ := hv
      rw [List.mem_replicate] at hu
      exact HT1.out v (hu.2 ▸ hv))
    have hnq : ¬ n = q := by omega
    have um : IntKind.i64.wrap ((q : Int) + m) = (q : Int) + m := IntWalk.i64_in _ (by omega)
    clear hL hLt hlen hrl
    go_wp2
    go_region_law (refine step_copy_row (o := ⟨some 45, _, _, _, _, _⟩) (by rfl) (.tmp 41) (.tmp 44) 85 85 (by rfl) 37 3 Tryz.underlying85 HSZ.out w.heap.size n (q * 3) (n - q) (n - q) ⟨w.heap.size, 0, none⟩ q n 37 (by simp [go_sem]) (by simp [go_sem]) _ HLD.out ((List.replicate (m) T).flatten) (m) HMM.out HRL.out HSR.out (by rw [HRL.out]; omega) HOC.out ?_; intro w2 hown2 hO2)
    have HB2 := Lib.hid ((hb.trans (hdr.mono hb.size)).trans (hO2.below (B := w.heap.size) (show w.heap.size ≤ wk.drew.heap.size from hb.size) (by simp)))
    have HO2 := Lib.hid (show ∃ L, w2.ownsRow 0 37 3 (.slice (some ⟨w.heap.size, 0, none⟩) n n) n L ∧ L.take ((q + m) * 3) = (List.replicate (q + m) T).flatten from ⟨_, hown2, rep_next HT.out HLEN.out (by omega) HLT.out⟩)
    clear hown2 hO2 hb hdr
    go_simp
    go_wp2
    go_roundw
    case rel => exact ⟨q + m, by omega, by omega, by go_num, HO2.out, HB2.out⟩
    case measure => simp [intOf]; omega
end Go.Proofs.YtbcjhpgkodeoeaaGreatDoor

/- A copy to the head of a row. Conditions: a row of the call's own. -/
namespace Go.Proofs.YtbcjhpgkodeoeaaGreatDoor
open Go.RowKit Go.Sort

theorem copy_own_run {P : Program} (w : World) (dT sT ty elem : TypeId) (k : Nat) (hu : P.underlying dT = some (.slice elem)) (hs : (P.info? elem).map (·.size) = some k) (g n cap dLen : Nat) (a : Addr) (sLen sCap e : Nat) (L : List Value)
    (hrow : w.ownsRow 0 e k (.slice (some ⟨g, 0, none⟩) n cap) n L) (cs : List Value) (m : Nat) (hm : Nat.min sLen dLen = m) (hn : cs.length = m * k) (hsrc : ∀ (j : Nat) v, cs[j]? = some v → w.cell? (a.add j) = some v) (hfit : cs.length ≤ n * k)
    (h1 : ∀ v ∈ cs, v.oneCell' = true) :
    ∃ w', (Builtin.copy_ #[dT, sT] ty #[.slice (some ⟨g, 0, none⟩) dLen cap, .slice (some a) sLen sCap]).run P w = .ok (goInt m) w' ∧
      w'.ownsRow 0 e k (.slice (some ⟨g, 0, none⟩) n cap) n (cs ++ L.drop cs.length) ∧ Only [g] w w' := by
  obtain ⟨hlen, ⟨he, _⟩ | ⟨g', cap', cur, he, hnc, hh, hc1, hc2, hc3, hc4⟩⟩ := hrow
  · cases he
  injection he with e1 e2 e3
  simp only [Option.some.injEq, Addr.mk.injEq] at e1
  obtain ⟨rfl, _, _⟩ := e1
  subst e3
  have hl := run_loadCells_list (P := P) w a cs hsrc
  have hsz : n * k ≤ cap * k := Nat.mul_le_mul_right k hc1
  have hst := run_storeCells_at P g 0 e cs 0 cur w hh (by simp only [Nat.add_zero]; omega) h1
  have hset := setRow_heap w g cur (cur.toList.take 0 ++ cs ++ cur.toList.drop (0 + cs.length)).toArray e _ hh
  have hln : L.length = n * k := hlen
  refine ⟨w.setRow g (cur.toList.take 0 ++ cs ++ cur.toList.drop (0 + cs.length)).toArray, ?_, ⟨?_, .inr ⟨g, cap, _, rfl, Nat.zero_le _, hset, hc1, hc2, ?_, ?_⟩⟩, ?_⟩
  · cases hq : P.info? elem with
    | none => simp [hq] at hs
    | some i =>
      have hi : i.size = k := by simpa [hq] using hs
      simp only [Nat.add_zero] at hst
      simp [Builtin.copy_, run_underlying hu, Builtin.lenOf, Builtin.firstCells, sizeOf, typeInfo, hq, hi, hm, ← hn, hl]
      simp only [List.take_zero, List.nil_append, Nat.zero_add] at hst
      rw [hst]
      rfl
  · simp only [List.length_append, List.length_drop]
    omega
  · have : cur.toList.length = cap * k := by simp [hc3]
    simp only [List.size_toArray, List.length_append, List.length_take, List.length_drop]
    omega
  · rw [← hc4]
    simp only [List.take_zero, List.nil_append, Nat.zero_add]
    rw [List.take_append, List.drop_take, List.take_of_length_le hfit]
  · exact ⟨rfl, rfl, rfl, by simp [World.setRow], fun q hq hn => setRow_other w g q _ (by simpa using hn)⟩
theorem step_copy_own {P : Program} {ops : Array Oper} {o : Oper} {a : Act} {w : World} {K : Act → World → Prop} {Q : Exit → Act → World → Prop} {E : Prop} (hgd : o.guard = none) (d s : Operand) (dT sT : TypeId)
    (ho : o.op = .call { callee := .builtin .copy, args := #[d, s], argTypes := #[dT, sT] }) (elem : TypeId) (k : Nat) (hu : P.underlying dT = some (.slice elem)) (hsz : (P.info? elem).map (·.size) = some k)
    (g n cap dLen : Nat) (ad : Addr) (sLen sCap e : Nat) (hd : a.eval d = .slice (some ⟨g, 0, none⟩) dLen cap) (hs : a.eval s = .slice (some ad) sLen sCap) (L : List Value)
    (hrow : w.ownsRow 0 e k (.slice (some ⟨g, 0, none⟩) n cap) n L) (cs : List Value) (m : Nat) (hm : Nat.min sLen dLen = m) (hn : cs.length = m * k) (hsrc : ∀ (j : Nat) v, cs[j]? = some v → w.cell? (ad.add j) = some v) (hfit : cs.length ≤ n * k)
    (h1 : ∀ v ∈ cs, v.oneCell' = true)
    (h : ∀ w', w'.ownsRow 0 e k (.slice (some ⟨g, 0, none⟩) n cap) n (cs ++ L.drop cs.length) → Only [g] w w' → K (a.put o.dst (goInt m)) w') :
    if Region.wanted o (yielded ops a.tmps) = true then Oper.wp P o a w K Q else E := by
  have hw : Region.wanted o (yielded ops a.tmps) = true := by simp [Region.wanted, hgd]
  rw [if_pos hw]
  obtain ⟨w', hrun, r1, r2⟩ := copy_own_run w dT sT o.type elem k hu hsz g n cap dLen ad sLen sCap e L hrow cs m hm hn hsrc hfit h1
  unfold Oper.wp
  simp [execOp, ho, resolve, invoke, builtin, hd, hs, hrun, Result.andThen]
  exact h w' r1 r2
end Go.Proofs.YtbcjhpgkodeoeaaGreatDoor

/- Series in one letter, with integer numbers: products, shifts, derivatives; what is the same modulo the prime. Plain: no program's step stands here. -/
namespace Go.Proofs.YtbcjhpgkodeoeaaGreatDoor

/-- the sum of the first n -/
def sm (f : Nat → Int) : Nat → Int
  | 0 => 0
  | n + 1 => sm f n + f n
theorem sm_congr {f g : Nat → Int} : ∀ {n : Nat}, (∀ i, i < n → f i = g i) → sm f n = sm g n
  | 0, _ => rfl
  | n + 1, h => by rw [sm, sm, sm_congr (fun i hi => h i (by omega)), h n (by omega)]
theorem sm_add (f g : Nat → Int) : ∀ n, sm (fun i => f i + g i) n = sm f n + sm g n
  | 0 => rfl
  | n + 1 => by rw [sm, sm, sm, sm_add f g n]; omega
theorem sm_mul (c : Int) (f : Nat → Int) : ∀ n, sm (fun i => c * f i) n = c * sm f n
  | 0 => by simp [sm]
  | n + 1 => by rw [sm, sm, sm_mul c f n, Int.mul_add]
theorem sm_zero : ∀ n, sm (fun _ => 0) n = 0
  | 0 => rfl
  | n + 1 => by rw [sm, sm_zero n]; rfl
theorem sm_first (f : Nat → Int) : ∀ n, sm f (n + 1) = f 0 + sm (fun i => f (i + 1)) n
  | 0 => by simp [sm]
  | n + 1 => by rw [sm, sm_first f n, sm]; omega
theorem sm_rev : ∀ (f : Nat → Int) (n : Nat), sm (fun i => f (n - i)) (n + 1) = sm f (n + 1)
  | f, 0 => by simp [sm]
  | f, n + 1 => by
    rw [sm_first]
    have h : sm (fun i => f (n + 1 - (i + 1))) (n + 1) = sm (fun i => f (n - i)) (n + 1) := sm_congr fun i _ => by rw [show n + 1 - (i + 1) = n - i by omega]
    rw [h, sm_rev f n, Nat.sub_zero, sm]
    rw [sm, sm]
    omega
theorem sm_tri (F : Nat → Nat → Int) : ∀ n, sm (fun i => sm (fun j => F i j) (i + 1)) n = sm (fun j => sm (fun l => F (j + l) j) (n - j)) n
  | 0 => rfl
  | n + 1 => by
    have h1 : sm (fun j => sm (fun l => F (j + l) j) (n + 1 - j)) (n + 1) = sm (fun j => sm (fun l => F (j + l) j) (n - j) + F n j) (n + 1) := sm_congr fun j hj => by
      rw [show n + 1 - j = (n - j) + 1 by omega, sm, show j + (n - j) = n by omega]
    rw [h1, sm_add]
    have h2 : sm (fun j => sm (fun l => F (j + l) j) (n - j)) (n + 1) = sm (fun j => sm (fun l => F (j + l) j) (n - j)) n := by
      rw [sm, Nat.sub_self, sm]; simp
    rw [h2, ← sm_tri F n, sm]
theorem sm_swap (F : Nat → Nat → Int) (n : Nat) : ∀ m, sm (fun i => sm (fun j => F i j) n) m = sm (fun j => sm (fun i => F i j) m) n
  | 0 => by simp only [sm]; rw [sm_zero]
  | m + 1 => by
    rw [sm, sm_swap F n m, ← sm_add]
    rfl

abbrev Ser := Nat → Int
/-- the product -/
def cv (a b : Ser) : Ser := fun k => sm (fun i => a i * b (k - i)) (k + 1)
theorem cv_comm (a b : Ser) : cv a b = cv b a := by
  funext k
  unfold cv
  rw [← sm_rev]
  refine sm_congr fun i hi => ?_
  rw [show k - (k - i) = i by omega, Int.mul_comm]
theorem cv_assoc (a b c : Ser) : cv (cv a b) c = cv a (cv b c) := by
  funext k
  unfold cv
  have h1 : sm (fun i => sm (fun i_1 => a i_1 * b (i - i_1)) (i + 1) * c (k - i)) (k + 1) = sm (fun i => sm (fun j => a j * b (i - j) * c (k - i)) (i + 1)) (k + 1) := sm_congr fun i _ => by
    rw [Int.mul_comm, ← sm_mul]
    exact sm_congr fun j _ => by rw [Int.mul_comm]
  rw [h1, sm_tri]
  refine sm_congr fun j hj => ?_
  rw [← sm_mul, show k + 1 - j = k - j + 1 by omega]
  refine sm_congr fun l _ => ?_
  rw [show j + l - j = l by omega, show k - (j + l) = k - j - l by omega, Int.mul_assoc]
def ad (a b : Ser) : Ser := fun k => a k + b k
def sc (c : Int) (a : Ser) : Ser := fun k => c * a k
def ze : Ser := fun _ => 0
def on (c : Int) : Ser := fun k => if k = 0 then c else 0
theorem cv_ad (a b c : Ser) : cv a (ad b c) = ad (cv a b) (cv a c) := by
  funext k
  unfold cv ad
  rw [← sm_add]
  exact sm_congr fun i _ => by rw [Int.mul_add]
theorem cv_sc (d : Int) (a b : Ser) : cv a (sc d b) = sc d (cv a b) := by
  funext k
  unfold cv sc
  rw [← sm_mul]
  exact sm_congr fun i _ => by rw [← Int.mul_assoc, Int.mul_comm (a i), Int.mul_assoc]
theorem ad_cv (a b c : Ser) : cv (ad a b) c = ad (cv a c) (cv b c) := by rw [cv_comm, cv_ad, cv_comm c a, cv_comm c b]
theorem sc_cv (d : Int) (a b : Ser) : cv (sc d a) b = sc d (cv a b) := by rw [cv_comm, cv_sc, cv_comm]
theorem cv_on (c : Int) (a : Ser) : cv (on c) a = sc c a := by
  funext k
  unfold cv sc
  rw [sm_first]
  have : sm (fun i => on c (i + 1) * a (k - (i + 1))) k = sm (fun _ => 0) k := sm_congr fun i _ => by simp [on]
  rw [this, sm_zero]
  simp [on]
theorem cv_ze (a : Ser) : cv ze a = ze := by
  funext k
  unfold cv
  have : sm (fun i => ze i * a (k - i)) (k + 1) = sm (fun _ => 0) (k + 1) := sm_congr fun i _ => by simp [ze]
  rw [this, sm_zero]
  rfl
/-- times the letter -/
def sh (a : Ser) : Ser := fun k => if k = 0 then 0 else a (k - 1)
theorem cv_sh (a b : Ser) : cv (sh a) b = sh (cv a b) := by
  funext k
  cases k with
  | zero => simp [cv, sm, sh]
  | succ k =>
    show sm _ (k + 1 + 1) = sm _ (k + 1)
    rw [sm_first]
    have : sm (fun i => sh a (i + 1) * b (k + 1 - (i + 1))) (k + 1) = sm (fun i => a i * b (k - i)) (k + 1) := sm_congr fun i _ => by
      rw [show k + 1 - (i + 1) = k - i by omega]; rfl
    rw [this]
    simp [sh]
theorem sh_cv (a b : Ser) : cv b (sh a) = sh (cv b a) := by rw [cv_comm, cv_sh, cv_comm]
/-- the derivative -/
def dt (a : Ser) : Ser := fun k => ((k : Int) + 1) * a (k + 1)
theorem dt_cv (a b : Ser) : dt (cv a b) = ad (cv (dt a) b) (cv a (dt b)) := by
  funext k
  show ((k : Int) + 1) * sm (fun i => a i * b (k + 1 - i)) (k + 1 + 1) = sm (fun i => dt a i * b (k - i)) (k + 1) + sm (fun i => a i * dt b (k - i)) (k + 1)
  rw [← sm_mul]
  have h1 : sm (fun i => ((k : Int) + 1) * (a i * b (k + 1 - i))) (k + 1 + 1) = sm (fun i => (i : Int) * (a i * b (k + 1 - i)) + ((k : Int) + 1 - i) * (a i * b (k + 1 - i))) (k + 1 + 1) := sm_congr fun i _ => by
    rw [← Int.add_mul]
    congr 1
    omega
  rw [h1, sm_add]
  have h2 : sm (fun i => (i : Int) * (a i * b (k + 1 - i))) (k + 1 + 1) = sm (fun i => dt a i * b (k - i)) (k + 1) := by
    rw [sm_first]
    simp only [Int.natCast_zero, Int.zero_mul, Int.zero_add]
    refine sm_congr fun i _ => ?_
    rw [show k + 1 - (i + 1) = k - i by omega, dt, Int.mul_assoc]
    rfl
  have h3 : sm (fun i => ((k : Int) + 1 - i) * (a i * b (k + 1 - i))) (k + 1 + 1) = sm (fun i => a i * dt b (k - i)) (k + 1) := by
    rw [sm]
    have : ((k : Int) + 1 - ((k + 1 : Nat) : Int)) = 0 := by omega
    rw [this, Int.zero_mul, Int.add_zero]
    refine sm_congr fun i hi => ?_
    rw [dt, show k + 1 - i = k - i + 1 by omega]
    have : ((k : Int) + 1 - i) = (((k - i : Nat) : Int) + 1) := by omega
    rw [this]
    grind
  rw [h2, h3]

/-- the same modulo the prime, up to a power -/
def Sm (N : Nat) (a b : Ser) : Prop := ∀ k, k < N → resZ (a k) = resZ (b k)
theorem Sm.refl {N : Nat} (a : Ser) : Sm N a a := fun _ _ => rfl
theorem Sm.of_eq {N : Nat} {a b : Ser} (h : a = b) : Sm N a b := h ▸ Sm.refl a
theorem Sm.symm {N : Nat} {a b : Ser} (h : Sm N a b) : Sm N b a := fun k hk => (h k hk).symm
theorem Sm.trans {N : Nat} {a b c : Ser} (h : Sm N a b) (g : Sm N b c) : Sm N a c := fun k hk => (h k hk).trans (g k hk)
theorem Sm.le {N M : Nat} {a b : Ser} (h : Sm N a b) (hm : M ≤ N) : Sm M a b := fun k hk => h k (by omega)
theorem Sm.ad {N : Nat} {a b c d : Ser} (h : Sm N a b) (g : Sm N c d) : Sm N (ad a c) (ad b d) := fun k hk => res_add (h k hk) (g k hk)
theorem Sm.sc {N : Nat} {a b : Ser} (c : Int) (h : Sm N a b) : Sm N (sc c a) (sc c b) := fun k hk => res_mul (h k hk)
theorem res_sm {f g : Nat → Int} : ∀ {n : Nat}, (∀ i, i < n → resZ (f i) = resZ (g i)) → resZ (sm f n) = resZ (sm g n)
  | 0, _ => rfl
  | n + 1, h => res_add (res_sm fun i hi => h i (by omega)) (h n (by omega))
theorem Sm.cv {N : Nat} {a b c d : Ser} (h : Sm N a b) (g : Sm N c d) : Sm N (cv a c) (cv b d) := fun k hk => res_sm fun i hi => res_mul2 (h i (by omega)) (g (k - i) (by omega))
theorem Sm.sh {N : Nat} {a b : Ser} (h : Sm N a b) : Sm (N + 1) (sh a) (sh b) := fun k hk => by
  unfold Go.Proofs.YtbcjhpgkodeoeaaGreatDoor.sh
  split
  · rfl
  · exact h (k - 1) (by omega)
theorem Sm.dt {N : Nat} {a b : Ser} (h : Sm (N + 1) a b) : Sm N (dt a) (dt b) := fun k hk => res_mul (h (k + 1) (by omega))

/-- Vectors of series, and a form of two of them: a sum of products of coordinates. -/
abbrev Vec := Nat → Ser
abbrev Frm := List (Int × Nat × Nat)
def bil (L : Frm) (x y : Vec) : Ser := fun k => sumZ (fun q => q.1 * cv (x q.2.1) (y q.2.2) k) L
def vad (x y : Vec) : Vec := fun i => ad (x i) (y i)
def vsc (c : Int) (x : Vec) : Vec := fun i => sc c (x i)
def vsh (x : Vec) : Vec := fun i => sh (x i)
def VSm (N : Nat) (x y : Vec) : Prop := ∀ i, Sm N (x i) (y i)
theorem bil_ad (L : Frm) (x y z : Vec) : bil L x (vad y z) = ad (bil L x y) (bil L x z) := by
  funext k
  unfold bil
  show _ = sumZ _ L + sumZ _ L
  rw [← sumZ_add]
  refine sumZ_congr fun q _ => ?_
  unfold vad
  rw [cv_ad]
  exact Int.mul_add _ _ _
theorem ad_bil (L : Frm) (x y z : Vec) : bil L (vad x y) z = ad (bil L x z) (bil L y z) := by
  funext k
  unfold bil
  show _ = sumZ _ L + sumZ _ L
  rw [← sumZ_add]
  refine sumZ_congr fun q _ => ?_
  unfold vad
  rw [ad_cv]
  exact Int.mul_add _ _ _
theorem bil_sc (L : Frm) (c : Int) (x y : Vec) : bil L x (vsc c y) = sc c (bil L x y) := by
  funext k
  unfold bil
  show _ = c * sumZ _ L
  rw [← sumZ_mul]
  refine sumZ_congr fun q _ => ?_
  unfold vsc
  rw [cv_sc]
  show q.1 * (c * _) = c * (q.1 * _)
  grind
theorem sc_bil (L : Frm) (c : Int) (x y : Vec) : bil L (vsc c x) y = sc c (bil L x y) := by
  funext k
  unfold bil
  show _ = c * sumZ _ L
  rw [← sumZ_mul]
  refine sumZ_congr fun q _ => ?_
  unfold vsc
  rw [sc_cv]
  show q.1 * (c * _) = c * (q.1 * _)
  grind
theorem sh_sum {α : Type} (f : α → Ser) (L : List α) : (fun k => sumZ (fun q => sh (f q) k) L) = sh (fun k => sumZ (fun q => f q k) L) := by
  funext k
  unfold sh
  split
  · exact sumZ_zero _
  · rfl
theorem bil_sh (L : Frm) (x y : Vec) : bil L x (vsh y) = sh (bil L x y) := by
  unfold bil
  rw [← sh_sum]
  funext k
  refine sumZ_congr fun q _ => ?_
  unfold vsh
  rw [sh_cv]
  unfold sh
  split <;> simp
theorem vsh_bil (L : Frm) (x y : Vec) : bil L (vsh x) y = sh (bil L x y) := by
  unfold bil
  rw [← sh_sum]
  funext k
  refine sumZ_congr fun q _ => ?_
  unfold vsh
  rw [cv_sh]
  unfold sh
  split <;> simp
theorem VSm.bil {N : Nat} (L : Frm) {x y z w : Vec} (h : VSm N x y) (g : VSm N z w) : Sm N (bil L x z) (bil L y w) := fun k hk => res_sum fun q _ => res_mul ((h q.2.1).cv (g q.2.2) k hk)
end Go.Proofs.YtbcjhpgkodeoeaaGreatDoor
