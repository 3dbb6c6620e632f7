/- The texts OwnR, StA, Repeat in one: each says at its head what it proves. Conditions: as said there. -/
import Derived.Laws.CopyOwn
import Derived.Deep.RegionLaw
import Derived.Test.YtbcjhpgkodeoeaaGreatDoorN29
import Derived.Test.YtbcjhpgkodeoeaaGreatDoorN26
set_option linter.unusedSimpArgs false
set_option linter.unusedVariables false
/- Slices of the call's own whose elements are only read, wherever these lie. Conditions: none. -/
namespace Go.Proofs.YtbcjhpgkodeoeaaGreatDoor
open Go.RowKit Go.Sort

/-- Read so whatever is written to one block. -/
def Apart {β : Type} (Rd : World → Value → β → Prop) (g : Nat) (w : World) (u : Value) (x : β) : Prop := ∀ w', Only [g] w w' → Rd w' u x
section
variable {β : Type} {Rd : World → Value → β → Prop} {g g' : Nat} {w w' w1 : World} {u : Value} {x : β}
theorem Apart.now (h : Apart Rd g w u x) : Rd w u x := h w (Only.refl _ _)
theorem Apart.step (h : Apart Rd g w u x) (ho : Only [g] w w') : Apart Rd g w' u x := fun w'' h' => h w'' (ho.trans h')
theorem Apart.bel (h : Apart Rd g w u x) (hb : Below w.heap.size w w') : Apart Rd g w' u x := h.step (Only.of_below hb)
theorem only_fresh {fp : List Nat} {w w' : World} (h : Only (g' :: fp) w w') (hg : w.heap.size ≤ g') : Only fp w w' :=
  ⟨h.os, h.tape, h.output, h.size, fun k hk hn => h.block k hk (by simp only [List.mem_cons, not_or]; exact ⟨by omega, hn⟩)⟩
theorem apart_old (hm : ∀ w w' u x, Below w.heap.size w w' → Rd w u x → Rd w' u x) (h : Rd w u x) (hb : Below w.heap.size w w1) (hg : w.heap.size ≤ g) : Apart Rd g w1 u x := fun w' ho =>
  hm _ _ _ _ (hb.trans (ho.below hb.size (by simpa using hg))) h
theorem apart_I {e : Nat} {xs : List Int} {f : List Nat} (h : OwnI e w u xs f) (hg : g ∉ f) : Apart RdI g w u xs := fun w' ho =>
  ownI_rd (ownI_only h ho (fun b hb hm => hg (List.mem_singleton.1 hm ▸ hb)))
theorem apart_II {e1 e : Nat} {xs : List (List Int)} {f : List Nat} (h : OwnII e1 e w u xs f) (hg : g ∉ f) : Apart RdII g w u xs := fun w' ho =>
  ownII_rd (ownII_only h ho (fun b hb hm => hg (List.mem_singleton.1 hm ▸ hb)))
end

/-- A slice of the call's own whose elements take one cell each and are only read; they lie apart from it. -/
def OwnR {β : Type} (Rd : World → Value → β → Prop) (e : Nat) (w : World) (v : Value) (xs : List β) : Prop :=
  ∃ us : List Value, w.ownsRow 0 e 1 v xs.length us ∧ us.length = xs.length ∧ ∀ (j : Nat) x u, xs[j]? = some x → us[j]? = some u → Rd w u x ∧ ∀ g, v.ownBlock = some g → Apart Rd g w u x
section
variable {β : Type} {Rd : World → Value → β → Prop} {w w' : World} {v : Value} {xs : List β} {e : Nat}
theorem ownR_lit : OwnR Rd e (w.alloc (.cells #[] e)) (.slice (some ⟨w.heap.size, 0, none⟩) 0 0) ([] : List β) :=
  ⟨[], by simpa using World.ownsRow_lit (base := 0) (e := e) (size := 1) w #[] 0 (Nat.zero_le _) (Nat.zero_le _) rfl, rfl, by simp⟩
theorem rd_only (hm : ∀ w w' u x, Below w.heap.size w w' → Rd w u x → Rd w' u x) {u : Value} {x : β} {o : Option Nat} (h : Rd w u x ∧ ∀ g, o = some g → Apart Rd g w u x) (ho : Only o.toList w w') : Rd w' u x := by
  cases o with
  | none => exact hm _ _ _ _ (ho.below (Nat.le_refl _) (by simp)) h.1
  | some g => exact h.2 g rfl w' ho
theorem ownR_rd (h : OwnR Rd e w v xs) : RdS 1 (fun w us x => ∃ u, us = [u] ∧ Rd w u x) w v xs := by
  obtain ⟨us, hown, hul, hall⟩ := h
  have hown' := hown
  obtain ⟨hlen, ⟨rfl, h2⟩ | ⟨g, cap, cur, rfl, _, _, h4, h5, _⟩⟩ := hown
  · exact ⟨none, 0, by rw [h2], by omega, by omega, fun hp => by omega⟩
  · refine ⟨_, cap, rfl, h4, h5, fun _ => ⟨g, 0, rfl, fun i x hx => ?_⟩⟩
    have hi := (List.getElem?_eq_some_iff.1 hx).1
    have hu : us[i]? = some us[i] := List.getElem?_eq_getElem (by omega)
    refine ⟨[us[i]], rfl, fun j y hj => ?_, us[i], rfl, (hall i x _ hx hu).1⟩
    match j, hj with
    | 0, hj =>
      simp only [List.getElem?_cons_zero, Option.some.injEq] at hj
      subst hj
      rw [show (0 + i * 1 + 0) = i by omega, hown'.cellAt i (by omega), hu]
/-- Behind an append of one element that has been read. -/
theorem ownR_push (hm : ∀ w w' u x, Below w.heap.size w w' → Rd w u x → Rd w' u x) {W w1 w1b w2 : World} {us : List Value} {v' u : Value} {x : β} {n : Nat}
    (hul : us.length = xs.length) (hn : xs.length = n) (hall : ∀ (j : Nat) x u, xs[j]? = some x → us[j]? = some u → Rd w u x ∧ ∀ g, v.ownBlock = some g → Apart Rd g w u x)
    (hx : Rd w1 u x) (hxa : ∀ g, v.ownBlock = some g → Apart Rd g w1 u x) (hv0 : ∀ g, v.ownBlock = some g → W.heap.size ≤ g) (hW : Below W.heap.size W w) (hb : Below w.heap.size w w1) (hb1 : Below w1.heap.size w1 w1b)
    (hown : w2.ownsRow 0 e 1 v' (n + 1) (us ++ [u])) (hg : w1b.grownBy w2 v.ownBlock) (hv : ∀ g, v'.ownBlock = some g → v.ownBlock = some g ∨ w1b.heap.size ≤ g) :
    OwnR Rd e w2 v' (xs ++ [x]) ∧ (∀ g, v'.ownBlock = some g → W.heap.size ≤ g) ∧ Below W.heap.size W w2 := by
  subst hn
  have hO1 : Only v.ownBlock.toList w1b w2 := ⟨hg.os, hg.tape, hg.output, hg.size, fun k hk hn => hg.block k hk (fun e => hn (by rw [← e]; simp))⟩
  have hOx : Only v.ownBlock.toList w1 w2 := (Only.of_below hb1).trans hO1
  have hO : Only v.ownBlock.toList w w2 := (Only.of_below hb).trans hOx
  have hs1 := hb1.size
  have hs := hb.size
  have key : ∀ {wa : World} {u : Value} {x : β}, (Rd wa u x ∧ ∀ g, v.ownBlock = some g → Apart Rd g wa u x) → Only v.ownBlock.toList wa w2 → wa.heap.size ≤ w1b.heap.size → Rd w2 u x ∧ ∀ g, v'.ownBlock = some g → Apart Rd g w2 u x := by
    intro wa u x h ho hsz
    refine ⟨rd_only hm h ho, fun g hg' w'' h' => ?_⟩
    rcases hv g hg' with hv | hv
    · rw [hv] at h ho
      exact (h.2 g rfl).step ho w'' h'
    · refine rd_only hm h (only_fresh (g' := g) ((ho.mono (by intro b hb; simp [hb])).trans (h'.mono (by intro b hb; simp at hb; simp [hb]))) (by omega))
  refine ⟨⟨us ++ [u], by simpa using hown, by simp [hul], fun j y z hy hz => ?_⟩, fun g hg' => ?_, (hW.trans ((hb.trans (hb1.mono hb.size)).mono hW.size)).grown hg (by have := hW.size; omega) hv0⟩
  · rcases Nat.lt_or_ge j xs.length with hj | hj
    · rw [List.getElem?_append_left hj] at hy
      rw [List.getElem?_append_left (by omega)] at hz
      exact key (hall j y z hy hz) hO (by omega)
    · rw [List.getElem?_append_right hj] at hy
      rw [List.getElem?_append_right (by omega), hul] at hz
      have h0 : j - xs.length = 0 := by
        have := (List.getElem?_eq_some_iff.1 hy).1
        simp at this
        omega
      rw [h0] at hy hz
      simp at hy hz
      subst hy hz
      exact key ⟨hx, hxa⟩ hOx hs1
  · rcases hv g hg' with hv | hv
    · exact hv0 g hv
    · have := hW.size; omega
end
theorem rdI_mono' : ∀ (w w' : World) (u : Value) (x : List Int), Below w.heap.size w w' → RdI w u x → RdI w' u x := fun _ _ _ _ hb h => rdI_mono hb h
theorem ownR_rdII {e : Nat} {w : World} {v : Value} {xs : List (List Int)} (h : OwnR RdI e w v xs) : RdII w v xs := ownR_rd h
/-- What a call returns that may be old or new; it lies apart from all that was made between. -/
def GivesR {β : Type} (Rd : World → Value → β → Prop) (B : Nat) (w : World) (x : β) : Ending → World → Prop := fun e w' =>
  ∃ v, e = .returned v ∧ Rd w' v x ∧ (∀ g, B ≤ g → g < w.heap.size → Apart Rd g w' v x) ∧ Below w.heap.size w w'
end Go.Proofs.YtbcjhpgkodeoeaaGreatDoor

/- The parts of a step along a path: a jet times h, a row of a tableau, the reference's move by stages. Conditions: numbers. -/
namespace Go.Proofs.YtbcjhpgkodeoeaaGreatDoor
open Go.RowKit Go.Sort

theorem ownI_put {e : Nat} {w : World} {ad : Option Addr} {len cap k : Nat} {xs : List Int} {fp : List Nat} {c : Int} (h : OwnI e w (.slice ad len cap) xs fp) (hk : k < xs.length) (hc : I64 c) :
    ∃ g, ad = some ⟨g, 0, none⟩ ∧ fp = [g] ∧ (∃ u, w.cell? ⟨g, k, none⟩ = some u) ∧ w.frozen? ⟨g, k, none⟩ = false ∧ OwnI e (w.setCell ⟨g, k, none⟩ (.int .i64 c)) (.slice ad len cap) (xs.set k c) fp := by
  have hI := h.2.2
  obtain ⟨_, _, _, he, hl, _, _, hown, hg, _⟩ := ownI_open h
  injection he with e1 e2 e3
  subst e1 e2 e3
  obtain ⟨g, rfl, rfl⟩ := hg (by omega)
  have hs := (hown.stored k (.int .i64 c)).1
  refine ⟨g, rfl, rfl, ?_, hown.frozenAt k, ⟨by rw [List.length_set, hl, List.map_set]; exact hs, rfl, fun z hz => ?_⟩⟩
  · rw [hown.cellAt k (by omega), List.getElem?_map, List.getElem?_eq_getElem hk]
    exact ⟨_, rfl⟩
  · rcases List.mem_or_eq_of_mem_set hz with hz | rfl
    · exact hI z hz
    · exact hc

/-- a jet times h, i places gone through -/
def laterP (xs : List Int) (i : Nat) : List Int := (0 :: (xs.take i ++ List.replicate xs.length 0)).take xs.length
theorem laterP_len (xs : List Int) (i : Nat) : (laterP xs i).length = xs.length := by simp [laterP]; omega
theorem laterP_zero (xs : List Int) : laterP xs 0 = List.replicate xs.length 0 := by
  unfold laterP
  rw [List.take_zero, List.nil_append, ← List.replicate_succ, List.take_replicate]
  congr 1
  omega
theorem laterP_at (xs : List Int) (i k : Nat) (hk : k < xs.length) : (laterP xs i)[k]? = some (if k = 0 then 0 else if k - 1 < i then atZ xs (k - 1) else 0) := by
  unfold laterP
  rw [List.getElem?_take_of_lt hk]
  cases k with
  | zero => rfl
  | succ k =>
    rw [List.getElem?_cons_succ, if_neg (by omega)]
    by_cases h : k < i
    · rw [List.getElem?_append_left (by rw [List.length_take]; omega), List.getElem?_take_of_lt h, if_pos (by omega)]
      simp [atZ, List.getElem?_eq_getElem (show k < xs.length by omega)]
    · rw [if_neg (by omega)]
      rw [List.getElem?_append_right (by rw [List.length_take]; omega), List.getElem?_replicate, if_pos (by rw [List.length_take]; omega)]
theorem laterP_next {xs : List Int} {i : Nat} {x : Int} (hi : i + 1 < xs.length) (hx : xs[i]? = some x) : (laterP xs i).set (i + 1) x = laterP xs (i + 1) := by
  refine List.ext_getElem? fun k => ?_
  by_cases hk : k < xs.length
  · rw [laterP_at xs (i + 1) k hk]
    by_cases h : k = i + 1
    · subst h
      rw [List.getElem?_set_self (by rw [laterP_len]; exact hk), if_neg (by omega), if_pos (by omega)]
      simp [atZ_get hx]
    · rw [List.getElem?_set_ne (by omega), laterP_at xs i k hk]
      congr 1
      by_cases h0 : k = 0
      · rw [if_pos h0, if_pos h0]
      · rw [if_neg h0, if_neg h0]
        by_cases h1 : k - 1 < i
        · rw [if_pos h1, if_pos (by omega)]
        · rw [if_neg h1, if_neg (by omega)]
  · rw [List.getElem?_eq_none (by rw [List.length_set, laterP_len]; omega), List.getElem?_eq_none (by rw [laterP_len]; omega)]
theorem laterP_last {xs : List Int} {i : Nat} (hi : ¬ i + 1 < xs.length) : laterP xs i = laterP xs (i + 1) := by
  refine List.ext_getElem? fun k => ?_
  by_cases hk : k < xs.length
  · rw [laterP_at xs (i + 1) k hk, laterP_at xs i k hk]
    congr 1
    by_cases h0 : k = 0
    · rw [if_pos h0, if_pos h0]
    · rw [if_neg h0, if_neg h0, if_pos (by omega), if_pos (by omega)]
  · rw [List.getElem?_eq_none (by rw [laterP_len]; omega), List.getElem?_eq_none (by rw [laterP_len]; omega)]
theorem laterP_done (xs : List Int) : laterP xs xs.length = laterJ xs := by
  unfold laterP laterJ
  rw [List.take_of_length_le (Nat.le_refl _)]
  rw [← List.cons_append, List.take_append_of_le_length (by simp)]

set_option maxRecDepth 100000 in
set_option maxHeartbeats 1600000 in
theorem later1_any (v : Value) (xs : List Int) (w : World) (h : RdI w v xs) (h1 : 1 ≤ xs.length) (h7 : xs.length ≤ 7) :
    Calls Tryz.prog 125 #[v, .int .i64 1] w (Gives (fun w' v fp => OwnI 3 w' v (laterJ xs) fp) w) := by
  obtain ⟨ad, len, cap, rfl, hl, hlc, hcm, h'⟩ := rdS_open h
  have HL := Lib.hid hl
  have HI := Lib.hid (i64_all h')
  rw [hl] at h1 h7
  clear h hl
  obtain ⟨i0, hi, hz0, hz1, hz2⟩ := info_parts Tryz.info_int
  have hib : i0.bytes * len ≤ 281474976710656 := by rw [hz2]; omega
  go_enter Tryz.func125, Tryz.ntmps125
  go_wp2_with (first
    | (at_make; refine wpList_make_full _ rfl _ _ 89 rfl 0 3 i0 (.int .i64 0) 1 Tryz.underlying89 hi hz0 hz1 .i64 .i64 _ _ len rfl rfl rfl rfl hib (by unfold maxLen; omega) (Nat.zero_le _) ?_; intro w1 hown1 hgrow1))
  have hm0 : (madeCells (Value.int .i64 0).cells (len * 1)).toList = (List.replicate len (0 : Int)).map (Value.int .i64) := by
    rw [Nat.mul_one, List.map_replicate]; exact toList_madeCells_one _ _
  rw [hm0] at hown1
  have hbl : Below w.heap.size w w1 := (Below.refl _ _).grown hgrow1 (Nat.le_refl _) (fun k hk => by cases hk)
  have HO1 := Lib.hid (show OwnI 3 w1 (.slice (some ⟨w.heap.size, 0, none⟩) len len) (laterP xs 0) [w.heap.size] from ⟨by rw [laterP_zero, HL.out, List.length_replicate]; exact hown1, rfl, fun x hx => by rw [laterP_zero, List.mem_replicate] at hx; rw [hx.2]; exact ⟨by decide, by decide⟩⟩)
  have HBL := Lib.hid hbl
  clear hm0 hgrow1 hown1 hbl hib
  go_loopw [12] (fun i wr => ∃ k : Nat, k ≤ len ∧ i = .int .i64 k ∧ OwnI 3 wr (.slice (some ⟨w.heap.size, 0, none⟩) len len) (laterP xs k) [w.heap.size] ∧ Below w.heap.size w wr) (fun i _ => len - (intOf i).toNat)
  case atStart => exact ⟨0, Nat.zero_le _, rfl, HO1.out, HBL.out⟩
  case round =>
    obtain ⟨wk, rfl⟩ : ∃ W, W = wr := ⟨_, rfl⟩
    obtain ⟨k, hk, rfl, ho, hb⟩ := hrel
    clear HO1 HBL
    by_cases hlt : k < len
    case neg =>
      obtain rfl : k = len := by omega
      have HE := Lib.hid (laterP_done xs)
      rw [HL.out] at HE
      have HO := Lib.hid ho
      clear ho
      go_wp2
      go_ret
      exact ⟨_, [w.heap.size], rfl, by rw [← HE.out]; exact HO.out, by simp, hb⟩
    by_cases hl2 : k + 1 < len
    case neg =>
      have hE := laterP_last (xs := xs) (i := k) (by rw [HL.out]; exact hl2)
      rw [hE] at ho
      have HO := Lib.hid ho
      clear hE ho
      go_wp2
      go_roundw
      case rel => exact ⟨k + 1, by omega, by go_num, HO.out, hb⟩
      case measure => simp [intOf]; omega
    obtain ⟨b, o, x, rfl, hx, hcx, hIx, _⟩ := rdI_get (rdI_mono hb h') hlt
    obtain ⟨g, hg, _, ⟨u, hcu⟩, hfz, ho2⟩ := ownI_put ho (k := k + 1) (by rw [laterP_len, HL.out]; exact hl2) hIx
    simp only [Option.some.injEq, Addr.mk.injEq] at hg
    obtain ⟨rfl, _, _⟩ := hg
    rw [laterP_next (by rw [HL.out]; exact hl2) hx] at ho2
    have HO := Lib.hid ho2
    have HB := Lib.hid (hb.setCell (p := ⟨w.heap.size, k + 1, none⟩) (Nat.le_refl _) (.int .i64 x))
    clear ho ho2 hb hx
    go_wp2
    go_roundw
    case rel => exact ⟨k + 1, by omega, by go_num, HO.out, HB.out⟩
    case measure => simp [intOf]; omega
end Go.Proofs.YtbcjhpgkodeoeaaGreatDoor

/- Copies of cells of several-cell elements, and slices.Repeat of one tableau. Conditions: one to six copies. -/
namespace Go.Proofs.YtbcjhpgkodeoeaaGreatDoor
open Go.RowKit Go.Sort

theorem copy_row_run {P : Program} (w : World) (dT sT ty elem : TypeId) (k : Nat) (hu : P.underlying dT = some (.slice elem)) (hs : (P.info? elem).map (·.size) = some k) (g N off dLen dCap : Nat) (a : Addr) (sLen sCap e : Nat) (L : List Value)
    (hrow : w.ownsRow 0 e k (.slice (some ⟨g, 0, none⟩) N N) N L) (cs : List Value) (m : Nat) (hm : Nat.min sLen dLen = m) (hn : cs.length = m * k) (hsrc : ∀ (j : Nat) v, cs[j]? = some v → w.cell? (a.add j) = some v) (hfit : off + cs.length ≤ N * k)
    (h1 : ∀ v ∈ cs, v.oneCell' = true) :
    ∃ w', (Builtin.copy_ #[dT, sT] ty #[.slice (some ⟨g, off, none⟩) dLen dCap, .slice (some a) sLen sCap]).run P w = .ok (goInt m) w' ∧
      w'.ownsRow 0 e k (.slice (some ⟨g, 0, none⟩) N N) N (L.take off ++ cs ++ L.drop (off + cs.length)) ∧ Only [g] w w' := by
  obtain ⟨hlen, ⟨he, _⟩ | ⟨g', cap, cur, he, _, hh, hc1, hc2, hc3, hc4⟩⟩ := hrow
  · cases he
  injection he with e1 e2 e3
  simp only [Option.some.injEq, Addr.mk.injEq] at e1
  obtain ⟨rfl, _, _⟩ := e1
  subst e3
  have hcur : cur.toList = L := by rw [← hc4, List.take_of_length_le (by simp [hc3])]
  have hl := run_loadCells_list (P := P) w a cs hsrc
  have hst := run_storeCells_at P g off e cs 0 cur w hh (by simp only [Nat.add_zero]; omega) h1
  have hset := setRow_heap w g cur (cur.toList.take off ++ cs ++ cur.toList.drop (off + cs.length)).toArray e _ hh
  refine ⟨w.setRow g (cur.toList.take off ++ cs ++ cur.toList.drop (off + cs.length)).toArray, ?_, ⟨?_, .inr ⟨g, N, _, rfl, Nat.zero_le _, hset, Nat.le_refl _, hc2, ?_, ?_⟩⟩, ?_⟩
  · cases hq : P.info? elem with
    | none => simp [hq] at hs
    | some i =>
      have hi : i.size = k := by simpa [hq] using hs
      simp [Builtin.copy_, run_underlying hu, Builtin.lenOf, Builtin.firstCells, sizeOf, typeInfo, hq, hi, hm, ← hn, hl, hst]
  · have : L.length = N * k := hlen
    simp only [List.length_append, List.length_take, List.length_drop]
    omega
  · have : cur.toList.length = N * k := by simp [hc3]
    simp only [List.size_toArray, List.length_append, List.length_take, List.length_drop]
    omega
  · rw [hcur]
    have : L.length = N * k := hlen
    rw [List.take_of_length_le]
    simp only [List.length_append, List.length_take, List.length_drop]
    omega
  · exact ⟨rfl, rfl, rfl, by simp [World.setRow], fun q hq hn => setRow_other w g q _ (by simpa using hn)⟩

theorem wpList_copy_row {P : Program} {w : World} {ops : Array Oper} {rest : List Oper} {o : Oper} {a : Act} {Q : Exit → Act → World → Prop} (hgd : o.guard = none) (d s : Operand) (dT sT : TypeId)
    (ho : o.op = .call { callee := .builtin .copy, args := #[d, s], argTypes := #[dT, sT] }) (elem : TypeId) (k : Nat) (hu : P.underlying dT = some (.slice elem)) (hsz : (P.info? elem).map (·.size) = some k)
    (g N off dLen dCap : Nat) (ad : Addr) (sLen sCap e : Nat) (hd : a.eval d = .slice (some ⟨g, off, none⟩) dLen dCap) (hs : a.eval s = .slice (some ad) sLen sCap) (L : List Value)
    (hrow : w.ownsRow 0 e k (.slice (some ⟨g, 0, none⟩) N N) N L) (cs : List Value) (m : Nat) (hm : Nat.min sLen dLen = m) (hn : cs.length = m * k) (hsrc : ∀ (j : Nat) v, cs[j]? = some v → w.cell? (ad.add j) = some v) (hfit : off + cs.length ≤ N * k)
    (h1 : ∀ v ∈ cs, v.oneCell' = true)
    (h : ∀ w', w'.ownsRow 0 e k (.slice (some ⟨g, 0, none⟩) N N) N (L.take off ++ cs ++ L.drop (off + cs.length)) → Only [g] w w' → wpList P ops Q rest (a.put o.dst (goInt m)) w') :
    wpList P ops Q (o :: rest) a w := by
  obtain ⟨w', hrun, r1, r2⟩ := copy_row_run w dT sT o.type elem k hu hsz g N off dLen dCap ad sLen sCap e L hrow cs m hm hn hsrc hfit h1
  refine wpList_plain hgd fun K hK => ?_
  unfold Oper.wp
  simp [execOp, ho, resolve, invoke, builtin, hd, hs, hrun, Result.andThen]
  exact hK _ _ (h w' r1 r2)
theorem step_copy_row {P : Program} {ops : Array Oper} {o : Oper} {a : Act} {w : World} {K : Act → World → Prop} {Q : Exit → Act → World → Prop} {E : Prop} (hgd : o.guard = none) (d s : Operand) (dT sT : TypeId)
    (ho : o.op = .call { callee := .builtin .copy, args := #[d, s], argTypes := #[dT, sT] }) (elem : TypeId) (k : Nat) (hu : P.underlying dT = some (.slice elem)) (hsz : (P.info? elem).map (·.size) = some k)
    (g N off dLen dCap : Nat) (ad : Addr) (sLen sCap e : Nat) (hd : a.eval d = .slice (some ⟨g, off, none⟩) dLen dCap) (hs : a.eval s = .slice (some ad) sLen sCap) (L : List Value)
    (hrow : w.ownsRow 0 e k (.slice (some ⟨g, 0, none⟩) N N) N L) (cs : List Value) (m : Nat) (hm : Nat.min sLen dLen = m) (hn : cs.length = m * k) (hsrc : ∀ (j : Nat) v, cs[j]? = some v → w.cell? (ad.add j) = some v) (hfit : off + cs.length ≤ N * k)
    (h1 : ∀ v ∈ cs, v.oneCell' = true)
    (h : ∀ w', w'.ownsRow 0 e k (.slice (some ⟨g, 0, none⟩) N N) N (L.take off ++ cs ++ L.drop (off + cs.length)) → Only [g] w w' → K (a.put o.dst (goInt m)) w') :
    if Region.wanted o (yielded ops a.tmps) = true then Oper.wp P o a w K Q else E := by
  have hw : Region.wanted o (yielded ops a.tmps) = true := by simp [Region.wanted, hgd]
  rw [if_pos hw]
  obtain ⟨w', hrun, r1, r2⟩ := copy_row_run w dT sT o.type elem k hu hsz g N off dLen dCap ad sLen sCap e L hrow cs m hm hn hsrc hfit h1
  unfold Oper.wp
  simp [execOp, ho, resolve, invoke, builtin, hd, hs, hrun, Result.andThen]
  exact h w' r1 r2

/-- c copies of the same cells at the head -/
theorem rep_flat {α : Type} (T : List α) (c m : Nat) : (List.replicate (c + m) T).flatten = (List.replicate c T).flatten ++ (List.replicate m T).flatten := by
  rw [← List.replicate_append_replicate, List.flatten_append]
theorem rep_len {α : Type} (T : List α) (c : Nat) : (List.replicate c T).flatten.length = c * T.length := by
  induction c with
  | zero => simp
  | succ c ih => rw [List.replicate_succ, List.flatten_cons, List.length_append, ih, Nat.succ_mul]; omega
theorem rep_next {T L : List Value} {c m N : Nat} (hT : T.length = 3) (hL : L.length = N * 3) (hc : c + m ≤ N) (h : L.take (c * 3) = (List.replicate c T).flatten) :
    (L.take (c * 3) ++ (List.replicate m T).flatten ++ L.drop (c * 3 + (List.replicate m T).flatten.length)).take ((c + m) * 3) = (List.replicate (c + m) T).flatten := by
  have hl := rep_len T m
  have hl2 := rep_len T c
  rw [hT] at hl hl2
  rw [h, ← rep_flat, List.take_append_of_le_length (by rw [rep_len, hT]; exact Nat.le_refl _), List.take_of_length_le (by rw [rep_len, hT]; exact Nat.le_refl _)]

def ElTab (w : World) (us : List Value) (t : TabZ) : Prop := ∃ vA vB, us = [.int .i64 t.stages, vA, vB] ∧ I64 t.stages ∧ RdI w vA t.A ∧ RdI w vB t.B
theorem elTab_mono {w w' : World} {us : List Value} {t : TabZ} (hb : Below w.heap.size w w') (h : ElTab w us t) : ElTab w' us t := by
  obtain ⟨vA, vB, rfl, hI, hA, hB⟩ := h
  exact ⟨vA, vB, rfl, hI, rdI_mono hb hA, rdI_mono hb hB⟩
/-- []Tableau -/
abbrev RdTabs := RdS 3 ElTab
theorem rdTabs_mono {w w' : World} {v : Value} {xs : List TabZ} (hb : Below w.heap.size w w') (h : RdTabs w v xs) : RdTabs w' v xs := rdS_mono (fun _ _ h => elTab_mono hb h) hb h
theorem rdTabs_of {w : World} {e g N : Nat} {L : List Value} {T : List Value} {t : TabZ} (hrow : w.ownsRow 0 e 3 (.slice (some ⟨g, 0, none⟩) N N) N L) (hT : T.length = 3) (hE : ElTab w T t) (h : L.take (N * 3) = (List.replicate N T).flatten) (hN : N ≤ 6) :
    RdTabs w (.slice (some ⟨g, 0, none⟩) N N) (List.replicate N t) := by
  have hlen := hrow.1
  rw [List.take_of_length_le (by omega)] at h
  refine ⟨some ⟨g, 0, none⟩, N, by simp, by simp, by omega, fun hp => ⟨g, 0, rfl, fun i x hx => ?_⟩⟩
  have hi : i < N := by
    have := (List.getElem?_eq_some_iff.1 hx).1
    simpa using this
  rw [List.getElem?_replicate, if_pos hi] at hx
  obtain rfl := Option.some.inj hx
  refine ⟨T, hT, fun j u hj => ?_, hE⟩
  have hj3 := (List.getElem?_eq_some_iff.1 hj).1
  have h2 := flat_get (us := List.replicate N T) (n := 3) (i := i) (u := T) (by intro u hu; rw [List.mem_replicate] at hu; rw [hu.2, hT]) (by rw [List.getElem?_replicate, if_pos hi]) hj
  rw [Nat.zero_add, hrow.cellAt _ (by omega), h]
  exact h2

theorem mul_any (n : Nat) (w : World) (h1 : 1 ≤ n) (h6 : n ≤ 6) : Calls Tryz.prog 126 #[.int .u64 1, .int .u64 n] w fun e w' => e = .returned (.tuple #[.int .u64 0, .int .u64 n]) ∧ w = w' := by
  have key : Calls Tryz.prog 162 #[.int .u64 1, .int .u64 n] w fun e w' => e = .returned (.tuple #[.int .u64 0, .int .u64 n]) ∧ w = w' := by
    rcases (show n = 1 ∨ n = 2 ∨ n = 3 ∨ n = 4 ∨ n = 5 ∨ n = 6 by omega) with rfl | rfl | rfl | rfl | rfl | rfl
    all_goals (
      go_enter Tryz.func162, Tryz.ntmps162
      go_wp2
      go_ret2
      exact ⟨rfl, rfl⟩)
  go_enter Tryz.func126, Tryz.ntmps126
  go_wp2_with (go_at_call 162; ((with_reducible refine key.mono ?_); rintro e w' ⟨rfl, rfl⟩))
  go_ret2
  exact ⟨rfl, rfl⟩

theorem Tryz.info_tab0 : (Tryz.prog.info? 37).map (fun i => (i.zero, i.size, i.bytes)) = some (some (.agg #[.int .i64 0, .slice none 0 0, .slice none 0 0]), 3, 56) := by kernel_rfl

theorem addr_add (g o i : Nat) : (⟨g, o, none⟩ : Addr).add i = ⟨g, o + i, none⟩ := by unfold Addr.add; split <;> simp_all

set_option maxRecDepth 100000 in
set_option maxHeartbeats 3200000 in
theorem repeat_any (b c n : Nat) (t : TabZ) (T : List Value) (w : World) (hT : T.length = 3) (hT1 : ∀ v ∈ T, v.oneCell' = true) (hc : ∀ (j : Nat) v, T[j]? = some v → w.cell? ⟨b, j, none⟩ = some v) (hE : ElTab w T t) (hc1 : 1 ≤ c) (hn1 : 1 ≤ n) (hn6 : n ≤ 6) (hcc : c ≤ 9223372036854775807) :
    Calls Tryz.prog 60 #[.slice (some ⟨b, 0, none⟩) 1 c, .int .i64 n] w (GivesV RdTabs w (List.replicate n t)) := by
  obtain ⟨i0, hi, hz0, hz1, hz2⟩ := info_parts Tryz.info_tab0
  have hib : i0.bytes * n ≤ 281474976710656 := by rw [hz2]; omega
  have HT := Lib.hid hT
  have HT1 := Lib.hid hT1
  have HC := Lib.hid hc
  have HE := Lib.hid hE
  clear hT hT1 hc hE
  have hgn : decide ((9223372036854775807 : Int) < (n : Int)) = false := by simp; omega
  have hgm : decide ((n : Int) < 0) = false := by simp
  have HSZ := Lib.hid (show (Tryz.prog.info? 37).map (·.size) = some 3 by rw [hi]; simp [hz1])
  have HSRC := Lib.hid (fun (wz : World) (hz : Below w.heap.size w wz) => show ∀ (j : Nat) v, T[j]? = some v → wz.cell? ((⟨b, 0, none⟩ : Addr).add j) = some v from fun j v hj => by
    rw [addr_add, Nat.zero_add]
    exact cell_below hz (HC.out j v hj))
  have hmin : Nat.min 1 n = 1 := Nat.min_eq_left hn1
  have HMIN := Lib.hid hmin
  clear hmin
  go_enter Tryz.func60, Tryz.ntmps60
  go_wp2_with (first
    | (go_at_call 126; ((with_reducible refine (mul_any n _ hn1 hn6).mono ?_); rintro e w' ⟨rfl, rfl⟩))
    | (at_make; refine wpList_make_full _ rfl _ _ 85 rfl 0 37 i0 (.agg #[.int .i64 0, .slice none 0 0, .slice none 0 0]) 3 Tryz.underlying85 hi hz0 hz1 .i64 .i64 _ _ n rfl rfl rfl rfl hib (by unfold maxLen; omega) (Nat.zero_le _) ?_; intro w1 hown1 hgrow1; have HO1 := Lib.hid hown1; have HB1 := Lib.hid ((Below.refl w.heap.size w).grown hgrow1 (Nat.le_refl _) (fun k hk => by cases hk)); clear hown1 hgrow1)
    | (refine wpList_copy_row (o := ⟨some 33, _, _, _, _, _⟩) rfl (.tmp 31) (.tmp 32) 85 85 rfl 37 3 Tryz.underlying85 HSZ.out w.heap.size n 0 n n ⟨b, 0, none⟩ 1 c 37 (by rfl) (by rfl) _ HO1.out T 1 HMIN.out (by rw [HT.out]) (HSRC.out _ HB1.out) (by rw [HT.out]; omega) HT1.out ?_; intro w2 hown2 hO2))
  have HO2 := Lib.hid (show ∃ L, w2.ownsRow 0 37 3 (.slice (some ⟨w.heap.size, 0, none⟩) n n) n L ∧ L.take (1 * 3) = (List.replicate 1 T).flatten from ⟨_, hown2, by
    have h3 := HT.out
    simp only [List.take_zero, List.nil_append, List.replicate_one, List.flatten_cons, List.flatten_nil, List.append_nil]
    rw [List.take_append_of_le_length (by omega), List.take_of_length_le (by omega)]⟩)
  have HB2 := Lib.hid (HB1.out.trans (hO2.below HB1.out.size (by simp)))
  clear hown2 hO2
  go_loopw [8] (fun i wr => ∃ q : Nat, 1 ≤ q ∧ q ≤ n ∧ i = .int .i64 q ∧ (∃ L, wr.ownsRow 0 37 3 (.slice (some ⟨w.heap.size, 0, none⟩) n n) n L ∧ L.take (q * 3) = (List.replicate q T).flatten) ∧ Below w.heap.size w wr) (fun i _ => n - (intOf i).toNat)
  case atStart => exact ⟨1, Nat.le_refl _, hn1, rfl, HO2.out, HB2.out⟩
  case round =>
    obtain ⟨wk, rfl⟩ : ∃ W, W = wr := ⟨_, rfl⟩
    obtain ⟨q, hq1, hq, rfl, ⟨L, hL, hLt⟩, hb⟩ := hrel
    clear HO1 HO2 HB1 HB2
    have HL := Lib.hid hL
    have HLT := Lib.hid hLt
    by_cases hlt : q < n
    case neg =>
      obtain rfl : q = n := by omega
      clear hL hLt
      go_wp2
      go_ret
      exact ⟨_, rfl, rdTabs_of HL.out HT.out (elTab_mono hb HE.out) HLT.out hn6, hb⟩
    obtain ⟨m, hm⟩ : ∃ m, Nat.min q (n - q) = m := ⟨_, rfl⟩
    have hm1 : 1 ≤ m := by rw [← hm]; exact Nat.le_min.2 ⟨hq1, by omega⟩
    have hm2 : m ≤ q := by rw [← hm]; exact Nat.min_le_left _ _
    have hm3 : m ≤ n - q := by rw [← hm]; exact Nat.min_le_right _ _
    have HMM := Lib.hid hm
    clear hm
    have hdr : Below wk.heap.size wk wk.drew := (Below.refl _ _).drew
    have HLD := Lib.hid (ownsRow_only hL (Only.of_below (fp := []) hdr) (by simp))
    have hlen := hL.1
    have hrl := rep_len T (m)
    rw [HT.out] at hrl
    have HRL := Lib.hid hrl
    have HLEN := Lib.hid hlen
    have HSR := Lib.hid (show ∀ (j : Nat) v, (List.replicate (m) T).flatten[j]? = some v → wk.drew.cell? ((⟨w.heap.size, 0, none⟩ : Addr).add j) = some v from fun j v hj => by
      have h1 := (List.getElem?_eq_some_iff.1 hj).1
      rw [hrl] at h1
      have h2 := HLD.out.cellAt j (by omega)
      rw [addr_add, Nat.zero_add, h2]
      have h3 : (List.replicate q T).flatten[j]? = some v := by
        have h4 : q = m + (q - m) := by omega
        rw [h4, rep_flat, List.getElem?_append_left (by rw [hrl]; omega)]
        exact hj
      rw [← hLt, List.getElem?_take_of_lt (by omega)] at h3
      exact h3)
    have HOC := Lib.hid (show ∀ v ∈ (List.replicate (m) T).flatten, v.oneCell' = true from fun v hv => by
      rw [List.mem_flatten] at hv
      obtain ⟨u, hu, hv⟩ := hv
      rw [List.mem_replicate] at hu
      exact HT1.out v (hu.2 ▸ hv))
    have hnq : ¬ n = q := by omega
    have um : IntKind.i64.wrap ((q : Int) + m) = (q : Int) + m := IntWalk.i64_in _ (by omega)
    clear hL hLt hlen hrl
    go_wp2
    go_region_law (refine step_copy_row (o := ⟨some 45, _, _, _, _, _⟩) (by rfl) (.tmp 41) (.tmp 44) 85 85 (by rfl) 37 3 Tryz.underlying85 HSZ.out w.heap.size n (q * 3) (n - q) (n - q) ⟨w.heap.size, 0, none⟩ q n 37 (by simp [go_sem]) (by simp [go_sem]) _ HLD.out ((List.replicate (m) T).flatten) (m) HMM.out HRL.out HSR.out (by rw [HRL.out]; omega) HOC.out ?_; intro w2 hown2 hO2)
    have HB2 := Lib.hid ((hb.trans (hdr.mono hb.size)).trans (hO2.below (B := w.heap.size) (show w.heap.size ≤ wk.drew.heap.size from hb.size) (by simp)))
    have HO2 := Lib.hid (show ∃ L, w2.ownsRow 0 37 3 (.slice (some ⟨w.heap.size, 0, none⟩) n n) n L ∧ L.take ((q + m) * 3) = (List.replicate (q + m) T).flatten from ⟨_, hown2, rep_next HT.out HLEN.out (by omega) HLT.out⟩)
    clear hown2 hO2 hb hdr
    go_simp
    go_wp2
    go_roundw
    case rel => exact ⟨q + m, by omega, by omega, by go_num, HO2.out, HB2.out⟩
    case measure => simp [intOf]; omega
end Go.Proofs.YtbcjhpgkodeoeaaGreatDoor
