/- The texts Open, Shut, LawHel, SolC, LawHl3 in one: each says at its head what it proves. Conditions: as said there. -/
import Derived.ProofKit
import Derived.OpenShut
import Derived.Deep.Slices
import Derived.Deep.Fields
import Derived.Lib.SmallJoins
import Derived.Test.YtbcjhpgkodeoeaaGreatDoorRows
import Derived.Test.YtbcjhpgkodeoeaaGreatDoorK01
import Derived.Test.YtbcjhpgkodeoeaaGreatDoorK02
import Derived.Test.YtbcjhpgkodeoeaaGreatDoorK34
import Derived.Test.YtbcjhpgkodeoeaaGreatDoorK04
import Derived.Test.YtbcjhpgkodeoeaaGreatDoorK17
import Derived.Test.YtbcjhpgkodeoeaaGreatDoorK30
set_option linter.unusedSimpArgs false
set_option linter.unusedVariables false
/- From the form's readings of arguments to the readings of these proofs, over any program. Conditions: none. -/
namespace Go.Proofs.YtbcjhpgkodeoeaaGreatDoor
open Go.ChangeShapes Go.WideShapes Go.ChangeAt Go.RowKit Go.Deep Go.Joins

theorem add_eq (b o j : Nat) : (⟨b, o, none⟩ : Addr).add j = ⟨b, o + j, none⟩ := by
  by_cases h : j = 0 <;> simp [Addr.add, h]

section
variable {H : Type} {enc : TypeId × Value → H} {P : Program} {w : World} {base : Nat} {held : Bool}

theorem rdS_of_trod {α : Type} [Inhabited α] {size : Nat} {El : World → List Value → α → Prop} {t e : TypeId} {fuel : Nat} {cs : List Value} {x : DataW H × List MemPlace}
    (ht : P.underlying t = some (.slice e)) (hC : P.cellsOf e = size) (hs : 0 < size)
    (hel : ∀ n cs' y, DataW.trod enc P w base (fun _ => true) held n e cs' = some y → ∃ x : α, El w cs' x)
    (h : DataW.trod enc P w base (fun _ => true) held fuel t cs = some x) : ∃ v xs, cs = [v] ∧ RdS size El w v xs := by
  rcases open_slice ht h with ⟨h0, _⟩ | ⟨a, len, cap, m, n, D, Pl, hcs, hb, hl, hm, hmm, hx, hi⟩
  · exact ⟨_, [], h0, none, 0, rfl, Nat.le_refl _, by omega, fun hp => by simp at hp⟩
  · simp only [if_true] at hmm
    subst hmm
    rw [hC] at hi
    have each : ∀ i, i < len → ∃ y : List Value × α, y.1.length = size ∧ (∀ j, j < size → w.cell? ((a.add (i * size)).add j) = y.1[j]?) ∧ El w y.1 y.2 := by
      intro i hil
      obtain ⟨cs', hc, ht'⟩ := hi i (by omega)
      obtain ⟨_, hcl, hat⟩ := World.cells?_some hc
      obtain ⟨x, hx⟩ := hel _ _ _ ht'
      exact ⟨(cs', x), hcl, fun j hj => hat j hj, hx⟩
    obtain ⟨f, hf⟩ := choose_lt each
    refine ⟨_, (List.range len).map fun i => (f i).2, hcs, _, m, by rw [List.length_map, List.length_range], by simpa using hl, by unfold maxLen at hm; simpa using hm, fun hp => ?_⟩
    simp at hp
    obtain ⟨b, off, spot⟩ := a
    have hc0 := (hf 0 hp).2.1 0 hs
    have h1 := (hf 0 hp).1
    rw [List.getElem?_eq_getElem (by omega)] at hc0
    have hspot : spot = none := by simpa [Addr.add] using World.cell?_spot hc0
    subst hspot
    refine ⟨b, off, rfl, fun i x hx => ?_⟩
    simp only [List.getElem?_map, Option.map_eq_some_iff] at hx
    obtain ⟨i', hi', rfl⟩ := hx
    obtain ⟨hil, rfl⟩ := List.getElem?_eq_some_iff.1 hi'
    simp only [List.length_range] at hil
    simp only [List.getElem_range]
    obtain ⟨h2, h3, h4⟩ := hf i hil
    refine ⟨_, h2, fun j u hj => ?_, h4⟩
    have := h3 j (by have := (List.getElem?_eq_some_iff.1 hj).1; omega)
    rw [hj] at this
    rwa [add_eq, add_eq] at this

/-- An argument that is a slice. -/
theorem rdS_of_arg {α : Type} [Inhabited α] {size : Nat} {El : World → List Value → α → Prop} {t e : TypeId} {v : Value} {d : DataW H} {p : List MemPlace} {r : Reach} {b0 : Nat}
    (ht : P.underlying t = some (.slice e)) (hC : P.cellsOf e = size) (hs : 0 < size)
    (hel : ∀ n cs' y, DataW.trod enc P w base (fun _ => true) held n e cs' = some y → ∃ x : α, El w cs' x)
    (hval : Value.okWide P w r b0 t v) (h : DataW.Trod enc P w base (fun _ => true) held t v d p) : ∃ xs, RdS size El w v xs := by
  obtain ⟨a0, len, cap, rfl⟩ := okWide_slice ht hval
  obtain ⟨fuel, hf⟩ := h
  obtain ⟨v, xs, hcs, h⟩ := rdS_of_trod ht hC hs hel hf
  simp [Value.cells] at hcs
  subst hcs
  exact ⟨xs, h⟩

end
end Go.Proofs.YtbcjhpgkodeoeaaGreatDoor

/- Closed facts on the program that every row's step wants. Conditions: none. -/
namespace Go.Proofs.YtbcjhpgkodeoeaaGreatDoor
theorem Tryz.own : ownKnob Tryz.prog.godebug = none := by kernel_rfl
theorem Tryz.laidOut : laidOutB Tryz.prog = true := by kernel_rfl
end Go.Proofs.YtbcjhpgkodeoeaaGreatDoor

/- The laws' own helpers: the size of an argument, shapes, comparisons. Conditions: none. -/
namespace Go.Proofs.YtbcjhpgkodeoeaaGreatDoor
open Go.ChangeShapes Go.WideShapes Go.ChangeAt Go.RowKit Go.Deep Go.Joins

theorem Tryz.cells_byte : Tryz.prog.cellsOf 5 = 1 := by kernel_rfl
theorem elB_of_trod {H : Type} {enc : TypeId × Value → H} {P : Program} {w : World} {base : Nat} {held : Bool} {e : TypeId} (he : P.underlying e = some (.int .u8)) {spare : Nat → Bool} (n : Nat) (cs : List Value) (y : DataW H × List MemPlace)
    (h : DataW.trod enc P w base spare held n e cs = some y) : ∃ x : Int, ElB w cs x := by
  obtain ⟨x, rfl, _, hw⟩ := DataW.trod_int he h
  have := bounds_u8 hw
  exact ⟨x, rfl, this.1, by omega⟩
theorem big_any (ad : Option Addr) (len cap : Nat) (w : World) : Calls Tryz.prog 6 #[.slice ad len cap] w fun e w' => e = .returned (.bool (decide ((1048576 : Int) < len))) ∧ w = w' := by
  go_enter Tryz.func6, Tryz.ntmps6
  go_wp2
  go_ret
  exact ⟨rfl, rfl⟩
set_option maxHeartbeats 800000 in
theorem shaped_any (vp : Value) (xs : List (List Int)) (d n : Nat) (dz nz : Int) (w : World) (h : RdII w vp xs) (hd : dz = d) (hn : nz = n) (hl : xs.length = n) (hx : ∀ x ∈ xs, x.length = d) :
    Calls Tryz.prog 14 #[vp, .int .i64 nz, .int .i64 dz] w fun e w' => e = .returned (.bool true) ∧ w = w' := by
  obtain ⟨ad, len, cap, rfl, hlen, hlc, hcm, h'⟩ := rdS_open h
  have HE := Lib.hid (show (len : Int) = nz from by omega)
  have HD := Lib.hid hd
  have HX := Lib.hid hx
  clear h hd hn hl hx hlen
  go_enter Tryz.func14, Tryz.ntmps14
  go_wp2
  go_loopw [7] (fun i wr => ∃ k : Nat, k ≤ len ∧ i = .int .i64 k ∧ wr = w) (fun i _ => len - (intOf i).toNat)
  case atStart => exact ⟨0, Nat.zero_le _, rfl, rfl⟩
  case round =>
    obtain ⟨k, hk, rfl, rfl⟩ := hrel
    by_cases hlt : k < len
    · obtain ⟨b, off, ad', len', cap', x, rfl, hx, hc, hl', _, _, _, _⟩ := rdII_get h' hlt
      have hb : ((len' : Int) != dz) = false := by
        have h1 := HX.out x (List.mem_of_getElem? hx)
        have h2 := HD.out
        simp
        omega
      clear hx hl'
      go_wp2
      go_roundw
      case rel => exact ⟨k + 1, by omega, by go_num, trivial⟩
      case measure => simp [intOf]; omega
    · have hb : ((len : Int) == nz) = true := by simpa using HE.out
      go_wp2
      go_ret
      exact ⟨rfl, rfl⟩
set_option maxHeartbeats 800000 in
theorem ints_same (va vb : Value) (xs : List Int) (w : World) (ha : RdI w va xs) (hb : RdI w vb xs) : Calls Tryz.prog 17 #[va, vb] w (Qt (.bool true) w) := by
  obtain ⟨ad, len, cap, rfl, hl, hlc, hcm, h'⟩ := rdS_open ha
  obtain ⟨ad2, len2, cap2, rfl, hl2, hlc2, hcm2, h2'⟩ := rdS_open hb
  have hll : len = len2 := by omega
  subst hll
  clear ha hb hl hl2
  go_enter Tryz.func17, Tryz.ntmps17
  go_wp2
  go_loopw [5] (fun i wr => ∃ k : Nat, k ≤ len ∧ i = .int .i64 k ∧ ∃ m, wr = w.drewN m) (fun i _ => len - (intOf i).toNat)
  case atStart => exact ⟨0, Nat.zero_le _, rfl, 0, rfl⟩
  case round =>
    obtain ⟨k, hk, rfl, m, hwr⟩ := hrel
    have h'r := rdI_drewN m h'
    have h2'r := rdI_drewN m h2'
    rw [← hwr] at h'r h2'r
    have HW := Lib.hid hwr
    clear hwr
    by_cases hlt : k < len
    · obtain ⟨b, off, x, rfl, hx, hc, hI, _⟩ := rdI_get h'r hlt
      obtain ⟨b2, off2, y, rfl, hy, hc2, hI2, _⟩ := rdI_get h2'r hlt
      rw [hx] at hy
      obtain rfl := Option.some.inj hy
      clear hx hy
      go_wp2
      go_quiet (fail)
      go_wp2
      go_roundw
      case rel => exact ⟨k + 1, by omega, by go_num, _, by rw [HW.out, World.drewN_drewN]⟩
      case measure => simp [intOf]; omega
    · go_wp2
      go_ret
      exact ⟨rfl, m, HW.out⟩
end Go.Proofs.YtbcjhpgkodeoeaaGreatDoor

/- The reference's copy of rows. Conditions: rows that are not empty. -/
namespace Go.Proofs.YtbcjhpgkodeoeaaGreatDoor
open Go.RowKit

end Go.Proofs.YtbcjhpgkodeoeaaGreatDoor

/- The laws' helpers that read a byte and cut the tangents off. Conditions: short codes, four coordinates. -/
namespace Go.Proofs.YtbcjhpgkodeoeaaGreatDoor
open Go.ChangeShapes Go.WideShapes Go.ChangeAt Go.RowKit Go.Deep Go.Joins

set_option maxHeartbeats 800000 in
theorem at0_any (v : Value) (bs : List Int) (iz : Int) (w : World) (h : RdB w v bs) (hi : iz = 0 ∨ iz = 1) (hl : bs.length ≤ 1048576) : Calls Tryz.prog 11 #[v, .int .i64 iz] w fun e w' => ∃ x : Nat, e = .returned (.int .i64 (x : Int)) ∧ x < 256 ∧ w = w' := by
  obtain ⟨ad, len, cap, rfl, hlen, hlc, hcm, h'⟩ := rdS_open h
  obtain ⟨i, hz⟩ : ∃ i : Nat, iz = i := ⟨iz.toNat, by omega⟩
  subst hz
  by_cases hlt : i < len
  · obtain ⟨b, off, us, x, rfl, hx, hus, hc, hxx, _⟩ := rdS_get h' hlt
    obtain ⟨rfl, hx0, hx1⟩ := hxx
    obtain ⟨y, rfl⟩ : ∃ y : Nat, x = y := ⟨x.toNat, by omega⟩
    have HY := Lib.hid (show y < 256 by omega)
    have hcc := hc 0 _ rfl
    simp only [Nat.mul_one, Nat.add_zero] at hcc
    have hltI : (i : Int) < len := by omega
    have hiI : 0 ≤ (i : Int) := by omega
    have hcI : (i : Int) ≤ cap := by omega
    clear h h' hc hlen hus hx
    go_enter Tryz.func11, Tryz.ntmps11
    go_wp2
    go_ret
    exact ⟨y, rfl, HY.out, rfl⟩
  · have hnl : ¬ ((i : Int) < len) := by omega
    clear h h'
    go_enter Tryz.func11, Tryz.ntmps11
    go_wp2
    go_ret
    exact ⟨(((i : Int) * 7 + len) % 256).toNat, by rw [Int.toNat_of_nonneg (by omega)]; rfl, by omega, rfl⟩
set_option maxRecDepth 100000 in
set_option maxHeartbeats 3200000 in
theorem tangents_any (v : Value) (rows : List (List Int)) (w : World) (h : RdII w v rows) (h1000 : rows.length ≤ 1000) (hr : ∀ r ∈ rows, r.length = 4) :
    Calls Tryz.prog 16 #[v, .int .i64 2] w (Gives (fun w' v fp => OwnII 35 3 w' v (tanT rows) fp) w) := by
  obtain ⟨ji, hji, hji0, hji1, hji2⟩ := info_parts Tryz.info_int
  obtain ⟨jl, hjl, hjl0, hjl1, hjl2⟩ := info_parts Tryz.info_ints
  obtain ⟨ad, len, cap, rfl, hl, hlc, hcm, h'⟩ := rdS_open h
  rw [hl] at h1000
  have HL := Lib.hid hl
  have HR := Lib.hid hr
  have HI0 := Lib.hid (ownII_lit (e1 := 35) (e := 3) w)
  have HB0 := Lib.hid (below_lit w 35)
  clear h hl hr
  go_enter Tryz.func16, Tryz.ntmps16
  go_wp2
  go_loopw [5, 6] (fun p j wq => ∃ (q : Nat) (f : List Nat), q ≤ len ∧ j = .int .i64 q ∧ OwnII 35 3 wq p (tanT (rows.take q)) f ∧ (∀ b ∈ f, w.heap.size ≤ b) ∧ Below w.heap.size w wq) (fun _ j _ => len - (intOf j).toNat)
  case atStart => exact ⟨0, [w.heap.size], Nat.zero_le _, rfl, by simpa [tanT] using HI0.out, by simp, HB0.out⟩
  case round =>
    obtain ⟨wk, rfl⟩ : ∃ W, W = wr := ⟨_, rfl⟩
    obtain ⟨q, f, hq, rfl, hp, hf, hb⟩ := hrel
    clear HI0 HB0
    by_cases hlt : q < len
    case neg =>
      obtain rfl : q = len := by omega
      rw [List.take_of_length_le (by rw [HL.out]; exact Nat.le_refl _)] at hp
      go_wp2
      go_ret
      exact ⟨_, f, rfl, hp, hf, hb⟩
    obtain ⟨b, off, ad1, len1, cap1, r, rfl, hr, hcell0, h61, h71, h81, h91, _⟩ := rdII_get h' hlt
    have hr1 := HR.out r (List.mem_of_getElem? hr)
    obtain rfl : len1 = 4 := by omega
    have hcell := cell_below hb hcell0
    obtain ⟨adp, capp, us, rfl, hqc, hcpm, hpush⟩ := ownII_push4 hp (n := q) (by rw [tanT_len, List.length_take, HL.out]; omega)
    have h91k := rdI_mono hb h91
    have hlt2 := ownII_lt hp
    have hal : Below wk.heap.size wk (wk.alloc (.cells #[] 3)) := below_lit wk _
    have hcell2 := cell_below hal hcell
    obtain ⟨b1, o1, _, hx1, rfl, hx2⟩ : ∃ b o x, b = x ∧ ad1 = some ⟨b, o, none⟩ ∧ True := by
      obtain ⟨b1, o1, x, h1, _⟩ := rdI_get h91k (k := 0) (by omega)
      exact ⟨b1, o1, _, rfl, h1, trivial⟩
    clear hx1 hx2
    have hpt := rdI_part (rdI_mono hal h91k) (lo := 2) (n := 2) (by omega)
    have hln : (r.drop 2).length = 2 := by rw [List.length_drop, hr1]
    rw [List.take_of_length_le (by rw [hln]; exact Nat.le_refl _)] at hpt
    have hc2I : (2 : Int) ≤ cap1 := by omega
    have hc2n : ¬ cap1 = 2 := by omega
    have HNW := Lib.hid (rdI_news hpt)
    have HLN := Lib.hid hln
    have HI := Lib.hid (i64_all hpt)
    have HP := Lib.hid hpush
    have HRW := Lib.hid hr
    have HF := Lib.hid hf
    have HB := Lib.hid hb
    have HLT := Lib.hid hlt2
    have HAL := Lib.hid hal
    have HLR := Lib.hid (lit_row (w := wk) (e := 3))
    clear hp hpush hr hf hb h61 h91 h91k hcell0 hlt2 hal hpt hln
    go_wp2_with (first
      | (at_builtin; refine wpList_append_lies _ rfl _ _ _ rfl 0 3 ji _ 1 8 Tryz.underlying35 hji hji0 hji1 hji2 rfl (by omega) (.slice (some ⟨wk.heap.size, 0, none⟩) 0 0) 0 [] (by rfl) HLR.out ⟨b1, o1 + 2, none⟩ 2 (cap1 - 2) ((r.drop 2).map (Value.int .i64)) (by rfl) (by rw [List.length_map, HLN.out]) HNW.out (by intro u hu; simp only [List.mem_map] at hu; obtain ⟨z, _, rfl⟩ := hu; rfl) (by omega) (by unfold maxLen; omega) (by omega) (by simp) (wk.heap.size + 1) (by simp) ?_; intro gg capn wa hown1 hgrow hat hlt1; have hP := copy_own HAL.out hown1 (by simpa [Value.ownBlock] using hgrow) (Nat.le_refl _) (by simpa [Value.ownBlock] using hat) HLN.out HI.out; obtain ⟨hPo, hPg, hPb⟩ := hP; simp only [Nat.zero_add]; obtain ⟨hrowa, hcl⟩ := HP.out wa [] (Only.of_below hPb) (by simp); have HNP := Lib.hid hrowa; have HPA := Lib.hid (fun (w2 : World) (gg2 capn2 : Nat) hown2 hgrow2 hat2 => hcl _ (r.drop 2) [gg] w2 gg2 capn2 hPo (fun b hb hm => (by have := HLT.out b hm; simp at hb; omega)) hown2 hgrow2 hat2); have HPB := Lib.hid (HB.out.trans (hPb.mono HB.out.size)); have HPG := Lib.hid hPg; clear hown1 hgrow hat hPo hPb hPg hrowa hcl)
      | (at_builtin; refine wpList_append_lies _ rfl _ _ _ rfl 0 35 jl _ 1 24 Tryz.underlying25 hjl hjl0 hjl1 hjl2 rfl (by omega) (.slice adp q capp) q _ (by rfl) (HNP.out.alloc _) ⟨wa.heap.size, 0, none⟩ 1 1 [.slice (some ⟨gg, 0, none⟩) 2 capn] (by rfl) (by rfl) (World.news_of_block (cs := #[.slice (some ⟨gg, 0, none⟩) 2 capn]) (t := 35) (fr := (0, 0)) (heap_alloc_new wa _)) (by simp [Value.oneCell']) (by omega) (by unfold maxLen; omega) (by omega) (by simp) (wa.heap.size + 1) (by simp) ?_; intro gg capn wn hown1 hgrow hat hlt1; obtain ⟨f', hP1, hP2, hP3⟩ := HPA.out wn gg capn hown1 hgrow hat; have HPP := Lib.hid hP1; clear hown1 hgrow hat hP1))
    all_goals (
      go_roundw
      case rel => exact ⟨q + 1, f', by omega, by go_num, by rw [take_snoc HRW.out, tanT, List.map_append]; exact HPP.out, fun b hb => by
        have := HPB.out.size
        have := HPG.out
        have := HB.out.size
        rcases hP2 b hb with h | h | h
        · exact HF.out b h
        · simp at h; omega
        · omega, below_newer HPB.out hP3 HF.out⟩
      case measure => simp [intOf]; omega)
end Go.Proofs.YtbcjhpgkodeoeaaGreatDoor
