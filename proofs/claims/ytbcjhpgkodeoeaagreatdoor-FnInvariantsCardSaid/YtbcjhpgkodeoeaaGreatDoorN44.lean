/- The texts STim, SKeep, Open, Shut, LawHel, SolC, LawHl3 in one: each says at its head what it proves. Conditions: as said there. -/
import Derived.ProofKit
import Derived.OpenShut
import Derived.Deep.Slices
import Derived.Deep.Fields
import Derived.Lib.SmallJoins
import Derived.Test.YtbcjhpgkodeoeaaGreatDoorRows
import Derived.Test.YtbcjhpgkodeoeaaGreatDoorN09
import Derived.Test.YtbcjhpgkodeoeaaGreatDoorN37
import Derived.Test.YtbcjhpgkodeoeaaGreatDoorN18
import Derived.Test.YtbcjhpgkodeoeaaGreatDoorN01
import Derived.Test.YtbcjhpgkodeoeaaGreatDoorN05
import Derived.Test.YtbcjhpgkodeoeaaGreatDoorN23
import Derived.Test.YtbcjhpgkodeoeaaGreatDoorN04
import Derived.Test.YtbcjhpgkodeoeaaGreatDoorN26
import Derived.Test.YtbcjhpgkodeoeaaGreatDoorN41
set_option linter.unusedSimpArgs false
set_option linter.unusedVariables false
/- The reference puts the products of two polynomials into a third one. Conditions: valid powers. -/
namespace Go.Proofs.YtbcjhpgkodeoeaaGreatDoor
open Go.RowKit Go.Sort

/-- A load that is not to be looked at ahead of its turn. -/
def opM (s : String) : Oper := { dst := some 46, op := Op.load 35 (Operand.tmp 45), type := 35, pos := s, after := #[{ on := 0, ground := Ground.data }], guard := none }
theorem opM_def (s : String) : opM s = { dst := some 46, op := Op.load 35 (Operand.tmp 45), type := 35, pos := s, after := #[{ on := 0, ground := Ground.data }], guard := none } := rfl
attribute [local go_sem] opM_def

/-- A monomial that is being made: its box, and its powers so far. -/
structure MBox (e : Nat) (W wr : World) (B : Nat) (c : Int) (v : Value) (ps : List Int) (f : List Nat) : Prop where
  own : OwnI e wr v ps f
  newF : ∀ g ∈ f, W.heap.size ≤ g ∧ g ≠ B
  hB : W.heap.size ≤ B
  c0 : wr.cell? ⟨B, 0, none⟩ = some (.int .i64 c)
  c1 : wr.cell? ⟨B, 1, none⟩ = some v
  f1 : wr.frozen? ⟨B, 1, none⟩ = false
  below : Below W.heap.size W wr
theorem MBox.push {e : Nat} {W wr w1 w2 : World} {B n' : Nat} {c y : Int} {v v' : Value} {ps : List Int} {f : List Nat} (h : MBox e W wr B c v ps f) (hy : I64 y) (hn : ps.length = n') (h1 : Below wr.heap.size wr w1)
    (hown : w2.ownsRow 0 e 1 v' (n' + 1) (ps.map (Value.int .i64) ++ [.int .i64 y])) (hg : w1.grownBy w2 v.ownBlock) (hv : ∀ b, v'.ownBlock = some b → v.ownBlock = some b ∨ w1.heap.size ≤ b) :
    w2.cell? ⟨B, 1, none⟩ = some v ∧ w2.frozen? ⟨B, 1, none⟩ = false ∧ Below W.heap.size W w2 ∧ ∃ f', MBox e W (w2.setCell ⟨B, 1, none⟩ v') B c v' (ps ++ [y]) f' := by
  subst hn
  have hfe : f = v.ownBlock.toList := h.own.2.1
  have hO : Only f wr w2 := (Only.of_below h1).trans ⟨hg.os, hg.tape, hg.output, hg.size, fun k hk hn => hg.block k hk (fun e => hn (by rw [hfe, ← e]; simp))⟩
  have hBl : B < wr.heap.size := World.block_lt_of_cell? _ _ h.c0
  have hBf : B ∉ f := fun hm => (h.newF B hm).2 rfl
  have hs1 := h1.size
  have hbs := h.below.size
  have hsub : ∀ b ∈ v'.ownBlock.toList, b ∈ f ∨ w1.heap.size ≤ b := fun b hb => by
    rw [Option.mem_toList] at hb
    rcases hv b hb with hb | hb
    · left; rw [hfe, hb]; simp
    · right; exact hb
  have hnew : ∀ b ∈ v'.ownBlock.toList, W.heap.size ≤ b ∧ b ≠ B := fun b hb => by
    rcases hsub b hb with h' | h'
    · exact h.newF b h'
    · exact ⟨by omega, by omega⟩
  have hSt : Only [B] w2 (w2.setCell ⟨B, 1, none⟩ v') := (Only.refl _ _).setCell (by simp) _
  have hI' : OwnI e w2 v' (ps ++ [y]) v'.ownBlock.toList := ⟨by simpa using hown, rfl, fun x hx => by
    simp at hx
    rcases hx with hx | rfl
    · exact h.own.2.2 x hx
    · exact hy⟩
  have hc1 := cell_only hO hBf h.c1
  have hf1 : w2.frozen? ⟨B, 1, none⟩ = false := (frz_only hO hBf hBl).trans h.f1
  have hbl2 : Below W.heap.size W w2 := h.below.trans (hO.below hbs (fun g hg => (h.newF g hg).1))
  exact ⟨hc1, hf1, hbl2, v'.ownBlock.toList, ownI_only hI' hSt (fun b hb hm => (hnew b hb).2 (List.mem_singleton.1 hm)), hnew, h.hB, (World.cell?_setCell_other _ _ _ _ (by simp)).trans (cell_only hO hBf h.c0), World.cell?_setCell_same _ _ _ hc1, by rw [World.frozen?_setCell]; exact hf1, hbl2.setCell h.hB _⟩

/-- A polynomial that only is read: its row is a call's own. -/
structure SumI (w wr : World) (v : Value) (xs : List MonZ) (zl : Nat) : Prop where
  shape : ∃ gg cap, v = .slice (some ⟨gg, 0, none⟩) zl cap
  els : ∃ Z : List ElS, Z.map monS = xs ∧ wr.ownsRow 0 56 2 v zl (rowS Z) ∧ ∀ z ∈ Z, RdI wr z.v z.ps ∧ I64 z.c
  below : Below w.heap.size w wr
theorem SumI.step {w wr w2 : World} {v : Value} {xs : List MonZ} {zl : Nat} (h : SumI w wr v xs zl) (hb : Below wr.heap.size wr w2) : SumI w w2 v xs zl := by
  obtain ⟨Z, h1, h2, h3⟩ := h.els
  exact ⟨h.shape, ⟨Z, h1, ownsRow_only h2 (Only.of_below (fp := []) hb) (by simp), fun z hz => ⟨rdI_mono hb (h3 z hz).1, (h3 z hz).2⟩⟩, h.below.trans (hb.mono h.below.size)⟩
theorem putAll_snoc (p l : List MonZ) (m : MonZ) : putAll p (l ++ [m]) = putL (putAll p l) m := by simp [putAll, List.foldl_append]
theorem putL_len (p : List MonZ) (m : MonZ) : (putL p m).length ≤ p.length + 1 := by
  have h1 : ∀ (l : List MonZ) (c : Int) (b : Bool), (putA m.pows l c b).length ≤ l.length + if b = true then 0 else 1 := by
    intro l
    induction l with
    | nil => intro c b; rw [putA]; split <;> simp_all
    | cons x l ih =>
      intro c b
      rw [putA]
      split
      · have := ih (plusZ c x.coef) b
        simp only [List.length_cons]
        omega
      · split
        · rename_i hb
          have := ih c true
          rw [hb.1]
          simp at this ⊢
          omega
        · have := ih c b
          simp only [List.length_cons]
          omega
  have h2 := h1 p m.coef false
  unfold putL keptL
  exact Nat.le_trans (List.length_filter_le _ _) (by simpa using h2)
theorem putAll_len : ∀ (q p : List MonZ), (putAll p q).length ≤ p.length + q.length
  | [], p => by simp [putAll]
  | m :: q, p => by
    have h1 := putAll_len q (putL p m)
    have h2 := putL_len p m
    have : putAll p (m :: q) = putAll (putL p m) q := rfl
    rw [this, List.length_cons]
    omega
theorem SumI.len {w wr : World} {v : Value} {xs : List MonZ} {zl : Nat} (h : SumI w wr v xs zl) : xs.length = zl := by
  obtain ⟨Z, h1, h2, _⟩ := h.els
  have := h2.1
  rw [rowS_length] at this
  rw [← h1, List.length_map]
  omega
/-- Putting one monomial more. -/
theorem sumPut_any {w wr : World} {gp zl capp : Nat} {xs : List MonZ} (h : SumI w wr (.slice (some ⟨gp, 0, none⟩) zl capp) xs zl) (hl : zl ≤ 100000) (m : MonZ) (ad : Option Addr) (l k : Nat) (hm : RdI wr (.slice ad l k) m.pows) (hI : I64 m.coef) :
    Calls Tryz.prog 102 #[.slice (some ⟨gp, 0, none⟩) zl capp, .agg #[.int .i64 m.coef, .slice ad l k]] wr fun e w' => ∃ gg cap, e = .returned (.slice (some ⟨gg, 0, none⟩) (putL xs m).length cap) ∧ SumI w w' (.slice (some ⟨gg, 0, none⟩) (putL xs m).length cap) (putL xs m) (putL xs m).length ∧ Below wr.heap.size wr w' := by
  obtain ⟨Z, h1, h2, h3⟩ := h.els
  refine (put_any gp zl capp Z ⟨m.coef, ad, l, k, m.pows, []⟩ wr h2 h3 hm hl).mono ?_
  rintro e w' ⟨gg, cap, rfl, hgg, hrow, hb⟩
  have hmap : (putE Z ⟨m.coef, ad, l, k, m.pows, []⟩).map monS = putL xs m := by rw [putE_map, h1]; rfl
  have hlen : (putE Z ⟨m.coef, ad, l, k, m.pows, []⟩).length = (putL xs m).length := by rw [← hmap, List.length_map]
  rw [hlen] at hrow ⊢
  refine ⟨gg, cap, rfl, ⟨⟨gg, cap, rfl⟩, ⟨_, hmap, hrow, fun z hz => ?_⟩, h.below.trans (hb.mono h.below.size)⟩, hb⟩
  rcases putAE_mem _ _ _ _ z hI (List.mem_filter.1 hz).1 with hz | ⟨d, hd, rfl⟩
  · exact ⟨rdI_mono hb (h3 z hz).1, (h3 z hz).2⟩
  · exact ⟨rdI_mono hb hm, hd⟩

theorem mbox_new {e t : Nat} {w : World} {c : Int} : MBox e w ((w.alloc (.cells #[.int .i64 c, .slice none 0 0] t)).drew) w.heap.size c (.slice none 0 0) [] [] :=
  ⟨⟨World.ownsRow_nil _ _ _ _, rfl, by simp⟩, by simp, Nat.le_refl _, by simp, by simp, by simp, ((Below.refl _ _).alloc (Nat.le_refl _) _).drew⟩
/-- What putting the products leaves. -/
def TimesPost (w0 w : World) (xs : List MonZ) : Ending → World → Prop := fun e w' => ∃ gg zl cap, e = .returned (.slice (some ⟨gg, 0, none⟩) zl cap) ∧ SumI w0 w' (.slice (some ⟨gg, 0, none⟩) zl cap) xs zl ∧ Below w.heap.size w w'

set_option maxRecDepth 100000 in
set_option maxHeartbeats 6400000 in
theorem sTimes3_any (vp va vb : Value) (xs a b : List MonZ) (n zl : Nat) (w0 w : World) (hs : SumI w0 w vp xs zl) (ha : RdMs w va a) (hb : RdMs w vb b) (ha12 : a.length ≤ 12) (hb12 : b.length ≤ 12) (ham : ∀ m ∈ a, MonSmall n m) (hbm : ∀ m ∈ b, MonSmall n m) (hn1 : 1 ≤ n) (hn6 : n ≤ 6) (hzl : zl ≤ 90000) :
    Calls Tryz.prog 80 #[vp, va, vb] w (TimesPost w0 w (putAll xs (mulL a b))) := by
  obtain ⟨ad1, len1, cap1, rfl, hl1, hlc1, hcm1, h1'⟩ := rdS_open ha
  obtain ⟨ad2, len2, cap2, rfl, hl2, hlc2, hcm2, h2'⟩ := rdS_open hb
  obtain ⟨gp, capp, rfl⟩ := hs.shape
  have hxl := hs.len
  rw [hl1] at ha12
  rw [hl2] at hb12
  have HL1 := Lib.hid hl1
  have HL2 := Lib.hid hl2
  have HAM := Lib.hid ham
  have HBM := Lib.hid hbm
  have HS0 := Lib.hid (show SumI w0 w _ (putAll xs (mulL (a.take 0) b)) zl ∧ Below w.heap.size w w from ⟨by simpa [mulL, putAll] using hs, Below.refl _ _⟩)
  have HLEN := Lib.hid (fun (i : Nat) (hi : i ≤ 12) => show (putAll xs (mulL (a.take i) b)).length ≤ zl + 144 from by
    have h1 := putAll_len (mulL (a.take i) b) xs
    rw [mulL_len, List.length_take, hxl] at h1
    have h2 : min i a.length * b.length ≤ 12 * 12 := Nat.mul_le_mul (by omega) (by omega)
    omega)
  have HLEN2 := Lib.hid (fun (i k : Nat) (m : MonZ) => show (putAll xs (mulL (a.take i) b ++ mulRowM m (b.take k))).length ≤ zl + 288 from by
    have h1 := putAll_len (mulL (a.take i) b ++ mulRowM m (b.take k)) xs
    have h3 : (mulRowM m (b.take k)).length ≤ 144 := by rw [mulRowM, List.length_map, List.length_take]; omega
    have h4 : (mulL (a.take i) b).length ≤ 12 * 12 := by
      rw [mulL_len, List.length_take]
      exact Nat.mul_le_mul (by omega) (by omega)
    rw [List.length_append, hxl] at h1
    omega)
  clear ha hb hl1 hl2 ham hbm hs hxl
  obtain ⟨i0, hi, hz0, hz1, hz2⟩ := info_parts Tryz.info_int
  go_enter Tryz.func80, Tryz.ntmps80
  go_wp2
  go_loopw [0, 7] (fun u si wr => ∃ (i zi : Nat), i ≤ len1 ∧ si = .int .i64 i ∧ SumI w0 wr u (putAll xs (mulL (a.take i) b)) zi ∧ Below w.heap.size w wr) (fun _ si _ => len1 - (intOf si).toNat)
  case atStart => exact ⟨0, zl, Nat.zero_le _, rfl, HS0.out⟩
  case round =>
    obtain ⟨wz, rfl⟩ : ∃ W, W = wr := ⟨_, rfl⟩
    obtain ⟨i, zi, hil, rfl, hsi, hbz⟩ := hrel
    clear HS0
    obtain ⟨gi, capi, rfl⟩ := hsi.shape
    by_cases hlt1 : i < len1
    case neg =>
      obtain rfl : i = len1 := by omega
      have HE := Lib.hid (show SumI w0 wz _ (putAll xs (mulL a b)) zi from by rwa [List.take_of_length_le (by rw [HL1.out]; exact Nat.le_refl _)] at hsi)
      clear hsi
      go_wp2
      go_ret
      exact ⟨gi, zi, capi, rfl, HE.out, hbz⟩
    obtain ⟨ba, oa, ada, la, ca, x, rfl, hx, hca0, hca1, hIx, hx1, hx2, hx3, hx4, _⟩ := rdMs_get h1' hlt1
    obtain ⟨hmx0, hmxl, hmxp⟩ := HAM.out x (List.mem_of_getElem? hx)
    obtain rfl : la = n := by omega
    have HX := Lib.hid hx
    have HMXL := Lib.hid hmxl
    have HMXP := Lib.hid hmxp
    have HRX := Lib.hid hx4
    have HS1 := Lib.hid (show SumI w0 wz (.slice (some ⟨gi, 0, none⟩) zi capi) (putAll xs (mulL (a.take i) b ++ mulRowM x (b.take 0))) zi from by simpa [mulRowM] using hsi)
    have HBZ := Lib.hid hbz
    clear hx hx1 hx4 hmxl hmxp hsi hbz
    go_wp2
    go_loopw [0, 8] (fun u si wr => ∃ (k zk : Nat), k ≤ len2 ∧ si = .int .i64 k ∧ SumI w0 wr u (putAll xs (mulL (a.take i) b ++ mulRowM x (b.take k))) zk ∧ Below w.heap.size w wr) (fun _ si _ => len2 - (intOf si).toNat)
    case atStart => exact ⟨0, zi, Nat.zero_le _, rfl, HS1.out, HBZ.out⟩
    case round =>
      obtain ⟨wk, rfl⟩ : ∃ W, W = wr := ⟨_, rfl⟩
      obtain ⟨k, zk, hkl, rfl, hsk, hbk⟩ := hrel
      clear HS1
      obtain ⟨gk, capk, rfl⟩ := hsk.shape
      by_cases hlt2 : k < len2
      case neg =>
        obtain rfl : k = len2 := by omega
        have HE := Lib.hid (show SumI w0 wk (.slice (some ⟨gk, 0, none⟩) zk capk) (putAll xs (mulL (a.take (i + 1)) b)) zk ∧ Below w.heap.size w wk from ⟨by rwa [show b.take k = b from List.take_of_length_le (by rw [HL2.out]; exact Nat.le_refl _), ← mulL_next HX.out] at hsk, hbk⟩)
        clear hsk hbk
        go_wp2
        go_roundw
        case rel => exact ⟨i + 1, zk, by omega, by go_num, HE.out⟩
        case measure => (simp [intOf]; try omega)
      obtain ⟨bb, ob, adb, lb, cb, y, rfl, hy, hcb0, hcb1, hIy, hy1, hy2, hy3, hy4, _⟩ := rdMs_get h2' hlt2
      obtain ⟨hmy0, hmyl, hmyp⟩ := HBM.out y (List.mem_of_getElem? hy)
      obtain rfl : lb = la := by omega
      have hA0 := cell_below hbk hca0
      have hB0 := cell_below hbk hcb0
      have HA1 := Lib.hid (cell_below hbk hca1)
      have HB1 := Lib.hid (cell_below hbk hcb1)
      have HY := Lib.hid hy
      have HMYL := Lib.hid hmyl
      have HMYP := Lib.hid hmyp
      have HRY := Lib.hid hy4
      have HSK := Lib.hid hsk
      have HBK := Lib.hid hbk
      have hzk : zk ≤ zl + 288 := by have := HLEN2.out i k x; rw [hsk.len] at this; exact this
      have hbaw := World.block_lt_of_cell? _ _ hca0
      have hbbw := World.block_lt_of_cell? _ _ hcb0
      have hwk := hbk.size
      have hilI : (i : Int) < len1 := by omega
      have hklI : (k : Int) < len2 := by omega
      have hdr : Below wk.heap.size wk wk.drew := (Below.refl _ _).drew
      have hz9 : Below wk.heap.size wk (wk.alloc (.cells #[.int .i64 0, .slice none 0 0] 56)) := (Below.refl _ _).alloc (Nat.le_refl _) _
      have hA0z := cell_below hz9 hA0
      have hB0z := cell_below hz9 hB0
      have hne0 := World.new_ne wk _ hA0
      have hne1 := World.new_ne wk _ hB0
      have hn0 : ba ∉ [wk.heap.size] := by simp at hbaw ⊢; omega
      have hn1 : bb ∉ [wk.heap.size] := by simp at hbbw ⊢; omega
      clear hca0 hca1 hcb0 hcb1 hy hy1 hy4 hmyl hmyp hsk hbk hbaw hbbw
      go_wp2
      go_cut [9] from 17 to 69 (fun s9 wx => ∃ B : Nat, s9 = .pointer (some ⟨B, 0, none⟩) ∧ MBox 3 wk wx B (timesZ x.coef y.coef) (.slice none 0 0) [] [])
      case first =>
        go_region_held3 (fun w' => w'.cell? ⟨ba, oa + i * 2, none⟩ = some (.int .i64 x.coef) ∧ w'.cell? ⟨bb, ob + k * 2, none⟩ = some (.int .i64 y.coef)) (first | exact ⟨hA0, hB0⟩ | exact ⟨hA0z, hB0z⟩ | exact ⟨cell_only (((Only.refl [wk.heap.size] _).setCell (by simp) _).setCell (by simp) _) hn0 hA0z, cell_only (((Only.refl [wk.heap.size] _).setCell (by simp) _).setCell (by simp) _) hn1 hB0z⟩ | go_keep) (first | (go_at_call 23; (with_reducible refine (sTimes_any _ _ _).mono ?_); rintro e w' ⟨rfl, rfl⟩))
        all_goals (
          go_wp2_with fail
          go_meet
          exact ⟨wk.heap.size, rfl, mbox_new⟩)
      case rest =>
        obtain ⟨B, rfl, hMB⟩ := hcut
        have HM0 := Lib.hid (show MBox 3 wk wc B (timesZ x.coef y.coef) (.slice none 0 0) ((powsAdd x.pows y.pows).take 0) [] from by simpa using hMB)
        have HPL := Lib.hid (show (powsAdd x.pows y.pows).length = lb from by rw [powsAdd, List.length_zipWith, HMXL.out, HMYL.out]; omega)
        clear hMB hA0 hB0 hA0z hB0z hne0 hne1 hn0 hn1 hdr hz9
        go_wp2
        go_loopw [10] (fun si wr => ∃ (r : Nat) (v : Value) (f : List Nat), si = .int .i64 r ∧ r ≤ lb ∧ MBox 3 wk wr B (timesZ x.coef y.coef) v ((powsAdd x.pows y.pows).take r) f) (fun si _ => lb - (intOf si).toNat)
        case atStart => exact ⟨0, _, _, rfl, Nat.zero_le _, HM0.out⟩
        case round =>
          obtain ⟨wy, rfl⟩ : ∃ W, W = wr := ⟨_, rfl⟩
          clear HM0
          obtain ⟨r, v, f, rfl, hr, hM⟩ := hrel
          have hA1y := cell_below hM.below HA1.out
          have hwy := HBK.out.trans (hM.below.mono HBK.out.size)
          by_cases hlt3 : r < lb
          case pos =>
            obtain ⟨bp, op, p1, rfl, hp1, hcp1, hIp1, _⟩ := rdI_get (rdI_mono HBK.out HRX.out) hlt3
            obtain ⟨bq, oq, p2, rfl, hp2, hcp2, hIp2, _⟩ := rdI_get (rdI_mono HBK.out HRY.out) hlt3
            obtain ⟨x0, x5⟩ := HMXP.out p1 (List.mem_of_getElem? hp1)
            obtain ⟨y0, y5⟩ := HMYP.out p2 (List.mem_of_getElem? hp2)
            have hq : (powsAdd x.pows y.pows)[r]? = some (p1 + p2) := by simp [powsAdd, List.getElem?_zipWith, hp1, hp2]
            have hrl : ((powsAdd x.pows y.pows).take r).length = r := by rw [List.length_take, HPL.out]; omega
            have HSW := Lib.hid (fun (X : World) (hX : Below wk.heap.size wk X) => show X.cell? ⟨ba, oa + i * 2 + 1, none⟩ = some (.slice (some ⟨bp, op, none⟩) lb ca) ∧ X.cell? ⟨bp, op + r, none⟩ = some (.int .i64 p1) ∧ X.cell? ⟨bb, ob + k * 2 + 1, none⟩ = some (.slice (some ⟨bq, oq, none⟩) lb cb) ∧ X.cell? ⟨bq, oq + r, none⟩ = some (.int .i64 p2) from
              ⟨cell_below hX HA1.out, cell_below hX hcp1, cell_below hX HB1.out, cell_below hX hcp2⟩)
            obtain ⟨adv, lv, cv, rfl, hvl, _, _, hownv, _, _⟩ := ownI_open hM.own
            rw [hrl] at hvl
            subst hvl
            have hm1 := hM.c1
            have hbM := hM.below
            have HNU := Lib.hid hownv
            have HTN := Lib.hid (take_snoc hq)
            have HP := Lib.hid (fun (w5 : World) (gg capn : Nat) (hown1 : w5.ownsRow 0 3 1 (.slice (some ⟨gg, 0, none⟩) (r + 1) capn) (r + 1) (((powsAdd x.pows y.pows).take r).map (Value.int .i64) ++ [.int .i64 (p1 + p2)])) (hgrow : ((wy.alloc (.cells #[.int .i64 (p1 + p2)] 3)).drew).grownBy w5 (Value.slice adv r cv).ownBlock) (hat : (Value.slice adv r cv).ownBlock = some gg ∨ gg = wy.heap.size + 1) =>
              hM.push (y := p1 + p2) ⟨by omega, by omega⟩ hrl (((Below.refl _ _).alloc (Nat.le_refl _) _).drew) hown1 hgrow (fun b hb => by
                simp [Value.ownBlock] at hb
                subst hb
                rcases hat with hat | hat
                · left; exact hat
                · right; rw [hat]; show ((wy.alloc _).drew).heap.size ≤ _; simp [World.drew]))
            have hsd := HSW.out wy hbM
            have hsA := HSW.out ((wy.alloc (.cells #[.int .i64 (p1 + p2)] 3)).drew) (hbM.trans ((((Below.refl _ _).alloc (Nat.le_refl _) _).drew).mono hbM.size))
            have HSD := Lib.hid hsd
            have HSA := Lib.hid hsA
            have hm1a := cell_below (show Below wy.heap.size wy ((wy.alloc (.cells #[.int .i64 (p1 + p2)] 3)).drew) from ((Below.refl _ _).alloc (Nat.le_refl _) _).drew) hm1
            have hrI : (r : Int) < lb := by omega
            have hwr : IntKind.i64.wrap (p1 + p2) = p1 + p2 := IntWalk.i64_in _ (by omega)
            clear hM hbM hownv hq hrl hsd hsA hp1 hp2 hcp1 hcp2
            go_wp2
            rw [← opM_def]
            go_region_held3 (fun w' => w'.cell? ⟨ba, oa + i * 2 + 1, none⟩ = some (.slice (some ⟨bp, op, none⟩) lb ca) ∧ w'.cell? ⟨bp, op + r, none⟩ = some (.int .i64 p1) ∧ w'.cell? ⟨bb, ob + k * 2 + 1, none⟩ = some (.slice (some ⟨bq, oq, none⟩) lb cb) ∧ w'.cell? ⟨bq, oq + r, none⟩ = some (.int .i64 p2)) (first | exact HSD.out | exact HSA.out | exact hs5 | exact hs6) (first | (refine step_append_lies _ (by rfl) _ _ _ (by rfl) 0 3 i0 _ 1 8 Tryz.underlying35 hi hz0 hz1 hz2 rfl (by omega) (.slice adv r cv) r _ (by rfl) ((HNU.out.alloc _).drew) ⟨wy.heap.size, 0, none⟩ 1 1 [.int .i64 (p1 + p2)] (by rfl) (by rfl) (World.news_of_block (cs := #[.int .i64 (p1 + p2)]) (t := 3) (fr := (0, 0)) (heap_alloc_new wy _)) (by simp [Value.oneCell']) (by omega) (by unfold maxLen; omega) (by omega) (by simp) (wy.heap.size + 1) (by simp) ?_; intro gg capn w5 hown1 hgrow hat hlt5; obtain ⟨hp1, hp2, hp3, f', hP⟩ := HP.out w5 gg capn hown1 hgrow hat; have hs5 := HSW.out _ hp3; have hs6 := HSW.out _ hP.below; have HPP := Lib.hid hP; clear hP))
            all_goals (
              go_wp2
              go_roundw
              case rel => exact ⟨r + 1, _, f', by go_num, by omega, by rw [HTN.out]; exact HPP.out⟩
              case measure => (simp [intOf]; try omega))
          case neg =>
            obtain rfl : r = lb := by omega
            have hM' : MBox 3 wk wy B (timesZ x.coef y.coef) v (powsAdd x.pows y.pows) f := by
              have := hM
              rwa [List.take_of_length_le (by rw [HPL.out]; exact Nat.le_refl _)] at this
            obtain ⟨ad, l, c, rfl, _⟩ := ownI_open hM'.own
            have hm0 := hM'.c0
            have hm1 := hM'.c1
            have SP := Lib.hid (sumPut_any (HSK.out.step hM'.below) (by omega) (mulM x y) ad l c (ownI_rd hM'.own) (i64_of_bd (timesZ_bd _ _)))
            have HNX := Lib.hid (mulRowM_next (a := x) HY.out)
            have HBY := Lib.hid hwy
            clear hM hM' hwy
            go_wp2_with fail
            refine SP.out.mono ?_
            rintro e w9 ⟨gg, capn, rfl, hsn, hb9⟩
            have HSN := Lib.hid (show SumI w0 w9 (.slice (some ⟨gg, 0, none⟩) (putL (putAll xs (mulL (a.take i) b ++ mulRowM x (b.take k))) (mulM x y)).length capn) (putAll xs (mulL (a.take i) b ++ mulRowM x (b.take (k + 1)))) (putL (putAll xs (mulL (a.take i) b ++ mulRowM x (b.take k))) (mulM x y)).length ∧ Below w.heap.size w w9 from ⟨by rw [HNX.out, ← List.append_assoc, putAll_snoc]; exact hsn, HBY.out.trans (hb9.mono HBY.out.size)⟩)
            clear hsn hb9 hm0 hm1 hA1y
            go_wp2
            go_roundw
            case rel => exact ⟨k + 1, _, by omega, by go_num, HSN.out⟩
            case measure => (simp [intOf]; try omega)
end Go.Proofs.YtbcjhpgkodeoeaaGreatDoor

/- Whether a field keeps a polynomial: the reference. Conditions: none. -/
namespace Go.Proofs.YtbcjhpgkodeoeaaGreatDoor
open Go.RowKit Go.Sort

theorem putAll_append (p a b : List MonZ) : putAll p (a ++ b) = putAll (putAll p a) b := by simp [putAll, List.foldl_append]

set_option maxRecDepth 100000 in
set_option maxHeartbeats 3200000 in
theorem sKeeps_any (vf vh : Value) (f : FldZ) (h : List MonZ) (w : World) (hf : RdFld w vf f) (hh : RdMs w vh h) :
    Calls Tryz.prog 21 #[vf, vh] w fun e w' => e = .returned (.bool (keepsB f h)) ∧ Below w.heap.size w w' := by
  have hff' := hf
  obtain ⟨vP, rfl, hIf, hP⟩ := hf
  obtain ⟨adp, lp, cp, rfl⟩ := rdMss_slice hP
  obtain ⟨adh, lh, ch, rfl, hlh, _, _, hh'⟩ := rdS_open hh
  have hb0 : Below w.heap.size w (w.alloc (.cells #[.int .i64 f.dim, .slice adp lp cp] 30)) := (Below.refl _ _).alloc (Nat.le_refl _) _
  have FOK := Lib.hid (fun (c : Bool) (hc : fldOkB f = c) => sFldOk_eq (.agg #[.int .i64 f.dim, .slice adp lp cp]) f _ (rdFld_mono hb0 hff') hc)
  have HB0 := Lib.hid hb0
  cases hfo : fldOkB f with
  | false =>
    have F1 := Lib.hid (FOK.out false hfo)
    have HE := Lib.hid (keepsB_fld (h := h) hfo)
    clear hff' hP hh hh' hlh hb0 hfo FOK
    go_enter Tryz.func21, Tryz.ntmps21
    go_wp2_with fail
    refine F1.out.mono ?_
    rintro e w1 ⟨rfl, hb1⟩
    go_wp2
    go_ret
    exact ⟨ret_bool HE.out.symm, HB0.out.trans (hb1.mono HB0.out.size)⟩
  | true =>
  have F1 := Lib.hid (FOK.out true hfo)
  have POK := Lib.hid (fun (c : Bool) (hc : polyOkB h f.dim = c) (W : World) (hW : Below w.heap.size w W) => sPolyOk_eq (.slice adh lh ch) h f.dim W (rdMs_mono hW hh') hc)
  have HF0 := Lib.hid (show (w.alloc (.cells #[.int .i64 f.dim, .slice adp lp cp] 30)).cell? ⟨w.heap.size, 0, none⟩ = some (.int .i64 f.dim) ∧ (w.alloc (.cells #[.int .i64 f.dim, .slice adp lp cp] 30)).cell? ⟨w.heap.size, 1, none⟩ = some (.slice adp lp cp) from ⟨by simp, by simp⟩)
  cases hpo : polyOkB h f.dim with
  | false =>
    have P1 := Lib.hid (POK.out false hpo)
    have HE := Lib.hid (keepsB_pol (f := f) hpo)
    clear hff' hP hh hh' hlh hb0 hfo FOK POK hpo
    go_enter Tryz.func21, Tryz.ntmps21
    go_wp2_with fail
    refine F1.out.mono ?_
    rintro e w1 ⟨rfl, hb1⟩
    have c0 := cell_below hb1 HF0.out.1
    have hb1w := HB0.out.trans (hb1.mono HB0.out.size)
    go_wp2_with fail
    refine (P1.out _ hb1w).mono ?_
    rintro e w2 hq
    obtain ⟨rfl, hb2⟩ := hq.below
    clear hq
    go_wp2
    go_ret
    exact ⟨ret_bool HE.out.symm, hb1w.trans (hb2.mono hb1w.size)⟩
  | true =>
  have P1 := Lib.hid (POK.out true hpo)
  have HE := Lib.hid (keepsB_yes hfo hpo)
  obtain ⟨n, hdn, hpn, hn1, hn6, hparts⟩ := fldOk_parts hfo
  rw [hdn] at hpo
  obtain ⟨_, _, hh12, hhm⟩ := polyOk_facts hpo
  have hlp : lp = n := by
    obtain ⟨ad', len', cap', he, hl', _⟩ := rdS_open hP
    injection he with e1 e2 e3
    omega
  subst hlp
  have HPARTS := Lib.hid hparts
  have HPN := Lib.hid hpn
  have HHM := Lib.hid hhm
  have HH12 := Lib.hid hh12
  have HHR := Lib.hid hh'
  have HPR := Lib.hid hP
  have HDN := Lib.hid hdn
  have HALL := Lib.hid (allL_len (parts := f.parts) hh12 (fun p hp => (hparts p hp).1))
  rw [hdn] at HF0 F1 HB0 P1
  clear hff' hP hh hh' hlh hb0 hfo FOK POK hpo hparts hpn hhm hh12
  rw [hdn]
  go_enter Tryz.func21, Tryz.ntmps21
  clear hdn
  go_wp2_with fail
  refine F1.out.mono ?_
  rintro e w1 ⟨rfl, hb1⟩
  have c0 := cell_below hb1 HF0.out.1
  have c1 := cell_below hb1 HF0.out.2
  have hb1w := HB0.out.trans (hb1.mono HB0.out.size)
  go_wp2_with fail
  refine (P1.out _ hb1w).mono ?_
  rintro e w2 hq
  obtain ⟨rfl, hb2⟩ := hq.below
  clear hq
  have c0b := cell_below hb2 c0
  have c1b := cell_below hb2 c1
  have hb2w := hb1w.trans (hb2.mono hb1w.size)
  obtain ⟨W3, hW3⟩ : ∃ W, W = w2.alloc (.cells #[] 56) := ⟨_, rfl⟩
  have hb3 : Below w2.heap.size w2 W3 := hW3 ▸ (Below.refl _ _).alloc (Nat.le_refl _) _
  have hb3w := hb2w.trans (hb3.mono hb2w.size)
  have HS0 := Lib.hid (show SumI w W3 (.slice (some ⟨w2.heap.size, 0, none⟩) 0 0) (putAll [] (allL f.parts h 0)) 0 ∧ W3.cell? ⟨w.heap.size, 0, none⟩ = some (.int .i64 (lp : Int)) ∧ W3.cell? ⟨w.heap.size, 1, none⟩ = some (.slice adp lp cp) from
    ⟨⟨⟨_, _, rfl⟩, ⟨[], rfl, by rw [hW3]; simpa [rowS] using World.ownsRow_lit (base := 0) (e := 56) (size := 2) w2 #[] 0 (Nat.zero_le _) (Nat.zero_le _) rfl, by simp⟩, hb3w⟩, cell_below hb3 c0b, cell_below hb3 c1b⟩)
  have HW3 := Lib.hid hW3
  clear hb1 hb2 hb3 c0 c1 hb1w hb2w hb3w hW3
  go_wp2
  rw [← HW3.out]
  go_loopw [5, 6] (fun u si wr => ∃ (k zl : Nat), si = .int .i64 k ∧ k ≤ lp ∧ SumI w wr u (putAll [] (allL f.parts h k)) zl ∧ wr.cell? ⟨w.heap.size, 0, none⟩ = some (.int .i64 (lp : Int)) ∧ wr.cell? ⟨w.heap.size, 1, none⟩ = some (.slice adp lp cp)) (fun _ si _ => lp - (intOf si).toNat)
  case atStart => exact ⟨0, 0, rfl, Nat.zero_le _, HS0.out⟩
  case round =>
    obtain ⟨wk, rfl⟩ : ∃ W, W = wr := ⟨_, rfl⟩
    clear HS0 c0b c1b
    obtain ⟨k, zl, rfl, hk, hs, hc0, hc1⟩ := hrel
    obtain ⟨gs, caps, rfl⟩ := hs.shape
    by_cases hlt : k < lp
    case neg =>
      obtain rfl : k = lp := by omega
      have hb := hs.below
      have HE2 := Lib.hid (show keepsB f h = decide (zl = 0) from by have := HE.out; rwa [HPN.out, hs.len] at this)
      clear hs
      go_wp2
      go_ret
      exact ⟨ret_bool (by rw [HE2.out, Bool.eq_iff_iff]; simp), hb⟩
    obtain ⟨bp, op, ad5, l5, c5, p, rfl, hp, hc5, h51, h52, h53, h54, _⟩ := rdMss_get (rdMss_mono hs.below HPR.out) hlt
    obtain ⟨hp12, hpm⟩ := HPARTS.out p (List.mem_of_getElem? hp)
    have hzl : zl ≤ 864 := by
      have h1 := putAll_len (allL f.parts h k) []
      have h2 := HALL.out k
      rw [hs.len] at h1
      simp at h1
      omega
    have hb := hs.below
    have HSW := Lib.hid (fun (X : World) (hX : Below wk.heap.size wk X) => show X.cell? ⟨w.heap.size, 1, none⟩ = some (.slice (some ⟨bp, op, none⟩) lp cp) ∧ X.cell? ⟨bp, op + k, none⟩ = some (.slice ad5 l5 c5) from ⟨cell_below hX hc1, cell_below hX hc5⟩)
    have PA := Lib.hid (sPart_any (.slice adh lh ch) h k lp 1 wk.drew (rdMs_mono (hb.trans ((Below.refl _ _).drew.mono hb.size)) HHR.out) HH12.out HHM.out hn6 hlt (by omega))
    have TI := Lib.hid (fun (v1 : Value) (fp1 : List Nat) (w1 : World) (ho1 : OwnMs 56 3 w1 v1 (partL k 1 h) fp1) (hb1 : Below wk.heap.size wk w1) =>
      sTimes3_any (.slice (some ⟨gs, 0, none⟩) zl caps) v1 (.slice ad5 l5 c5) _ (partL k 1 h) p lp zl w w1 (hs.step hb1) (ownMs_rd ho1) (rdMs_mono hb1 h54) (Nat.le_trans (partL_len _ _ _) HH12.out) hp12 (partL_small HHM.out) (fine_small hpm) hn1 hn6 (by omega))
    have HNX := Lib.hid (allL_next (h := h) hp)
    have HS0 := HSW.out wk.drew ((Below.refl _ _).drew)
    have HSD := Lib.hid HS0
    have HC0 := Lib.hid hc0
    have HBW := Lib.hid hb
    have hkI : (k : Int) < lp := by omega
    clear hs hp h51 h54 hp12 hpm hb HS0
    go_wp2
    go_region_held3 (fun w' => w'.cell? ⟨w.heap.size, 1, none⟩ = some (.slice (some ⟨bp, op, none⟩) lp cp) ∧ w'.cell? ⟨bp, op + k, none⟩ = some (.slice ad5 l5 c5)) (first | exact HSD.out | exact hSa | exact hSb) (first | (go_at_call 81; (with_reducible refine (PA.out).mono ?_); rintro e wa ⟨v1, fp1, rfl, ho1, hf1, hba⟩; have hra := (show Below wk.heap.size wk wa from ((Below.refl _ _).drew).trans (hba.mono (Nat.le_refl _))); have hSa := HSW.out wa hra; have T1 := Lib.hid (TI.out v1 fp1 wa ho1 hra); have HRA := Lib.hid hra; obtain ⟨ad1, l1, c1', rfl⟩ := ownMs_open ho1; clear ho1 hf1 hba hra) | (go_at_call 80; (with_reducible refine (T1.out).mono ?_); rintro e wb ⟨gn, zn, cn, rfl, hsn, hbb⟩; have hrb := HRA.out.trans (hbb.mono HRA.out.size); have hSb := HSW.out wb hrb; have HSN := Lib.hid hsn; have HRB := Lib.hid hrb; clear hsn hbb hrb))
    all_goals (
      have HN := Lib.hid (show SumI w wb (.slice (some ⟨gn, 0, none⟩) zn cn) (putAll [] (allL f.parts h (k + 1))) zn ∧ wb.cell? ⟨w.heap.size, 0, none⟩ = some (.int .i64 (lp : Int)) ∧ wb.cell? ⟨w.heap.size, 1, none⟩ = some (.slice (some ⟨bp, op, none⟩) lp cp) from ⟨by rw [HNX.out, putAll_append]; exact HSN.out, cell_below HRB.out HC0.out, hSb.1⟩)
      clear hSa hSb
      go_wp2
      go_roundw
      case rel => exact ⟨k + 1, zn, by go_num, by omega, HN.out⟩
      case measure => (simp [intOf]; try omega))
end Go.Proofs.YtbcjhpgkodeoeaaGreatDoor

/- From the form's readings of arguments to the readings of these proofs, over any program. Conditions: none. -/
namespace Go.Proofs.YtbcjhpgkodeoeaaGreatDoor
open Go.ChangeShapes Go.WideShapes Go.ChangeAt Go.RowKit Go.Deep Go.Joins

theorem add_eq (b o j : Nat) : (⟨b, o, none⟩ : Addr).add j = ⟨b, o + j, none⟩ := by
  by_cases h : j = 0 <;> simp [Addr.add, h]

section
variable {H : Type} {enc : TypeId × Value → H} {P : Program} {w : World} {base : Nat} {held : Bool}

theorem rdS_of_trod {α : Type} [Inhabited α] {size : Nat} {El : World → List Value → α → Prop} {t e : TypeId} {fuel : Nat} {cs : List Value} {x : DataW H × List MemPlace}
    (ht : P.underlying t = some (.slice e)) (hC : P.cellsOf e = size) (hs : 0 < size)
    (hel : ∀ n cs' y, DataW.trod enc P w base (fun _ => true) held n e cs' = some y → ∃ x : α, El w cs' x)
    (h : DataW.trod enc P w base (fun _ => true) held fuel t cs = some x) : ∃ v xs, cs = [v] ∧ RdS size El w v xs := by
  rcases open_slice ht h with ⟨h0, _⟩ | ⟨a, len, cap, m, n, D, Pl, hcs, hb, hl, hm, hmm, hx, hi⟩
  · exact ⟨_, [], h0, none, 0, rfl, Nat.le_refl _, by omega, fun hp => by simp at hp⟩
  · simp only [if_true] at hmm
    subst hmm
    rw [hC] at hi
    have each : ∀ i, i < len → ∃ y : List Value × α, y.1.length = size ∧ (∀ j, j < size → w.cell? ((a.add (i * size)).add j) = y.1[j]?) ∧ El w y.1 y.2 := by
      intro i hil
      obtain ⟨cs', hc, ht'⟩ := hi i (by omega)
      obtain ⟨_, hcl, hat⟩ := World.cells?_some hc
      obtain ⟨x, hx⟩ := hel _ _ _ ht'
      exact ⟨(cs', x), hcl, fun j hj => hat j hj, hx⟩
    obtain ⟨f, hf⟩ := choose_lt each
    refine ⟨_, (List.range len).map fun i => (f i).2, hcs, _, m, by rw [List.length_map, List.length_range], by simpa using hl, by unfold maxLen at hm; simpa using hm, fun hp => ?_⟩
    simp at hp
    obtain ⟨b, off, spot⟩ := a
    have hc0 := (hf 0 hp).2.1 0 hs
    have h1 := (hf 0 hp).1
    rw [List.getElem?_eq_getElem (by omega)] at hc0
    have hspot : spot = none := by simpa [Addr.add] using World.cell?_spot hc0
    subst hspot
    refine ⟨b, off, rfl, fun i x hx => ?_⟩
    simp only [List.getElem?_map, Option.map_eq_some_iff] at hx
    obtain ⟨i', hi', rfl⟩ := hx
    obtain ⟨hil, rfl⟩ := List.getElem?_eq_some_iff.1 hi'
    simp only [List.length_range] at hil
    simp only [List.getElem_range]
    obtain ⟨h2, h3, h4⟩ := hf i hil
    refine ⟨_, h2, fun j u hj => ?_, h4⟩
    have := h3 j (by have := (List.getElem?_eq_some_iff.1 hj).1; omega)
    rw [hj] at this
    rwa [add_eq, add_eq] at this

/-- An argument that is a slice. -/
theorem rdS_of_arg {α : Type} [Inhabited α] {size : Nat} {El : World → List Value → α → Prop} {t e : TypeId} {v : Value} {d : DataW H} {p : List MemPlace} {r : Reach} {b0 : Nat}
    (ht : P.underlying t = some (.slice e)) (hC : P.cellsOf e = size) (hs : 0 < size)
    (hel : ∀ n cs' y, DataW.trod enc P w base (fun _ => true) held n e cs' = some y → ∃ x : α, El w cs' x)
    (hval : Value.okWide P w r b0 t v) (h : DataW.Trod enc P w base (fun _ => true) held t v d p) : ∃ xs, RdS size El w v xs := by
  obtain ⟨a0, len, cap, rfl⟩ := okWide_slice ht hval
  obtain ⟨fuel, hf⟩ := h
  obtain ⟨v, xs, hcs, h⟩ := rdS_of_trod ht hC hs hel hf
  simp [Value.cells] at hcs
  subst hcs
  exact ⟨xs, h⟩

end
end Go.Proofs.YtbcjhpgkodeoeaaGreatDoor

/- Closed facts on the program that every row's step wants. Conditions: none. -/
namespace Go.Proofs.YtbcjhpgkodeoeaaGreatDoor
theorem Tryz.own : ownKnob Tryz.prog.godebug = none := by kernel_rfl
theorem Tryz.laidOut : laidOutB Tryz.prog = true := by kernel_rfl
end Go.Proofs.YtbcjhpgkodeoeaaGreatDoor

/- The laws' own helpers: the size of an argument, shapes, comparisons. Conditions: none. -/
namespace Go.Proofs.YtbcjhpgkodeoeaaGreatDoor
open Go.ChangeShapes Go.WideShapes Go.ChangeAt Go.RowKit Go.Deep Go.Joins

theorem Tryz.cells_byte : Tryz.prog.cellsOf 5 = 1 := by kernel_rfl
theorem elB_of_trod {H : Type} {enc : TypeId × Value → H} {P : Program} {w : World} {base : Nat} {held : Bool} {e : TypeId} (he : P.underlying e = some (.int .u8)) {spare : Nat → Bool} (n : Nat) (cs : List Value) (y : DataW H × List MemPlace)
    (h : DataW.trod enc P w base spare held n e cs = some y) : ∃ x : Int, ElB w cs x := by
  obtain ⟨x, rfl, _, hw⟩ := DataW.trod_int he h
  have := bounds_u8 hw
  exact ⟨x, rfl, this.1, by omega⟩
theorem big_any (ad : Option Addr) (len cap : Nat) (w : World) : Calls Tryz.prog 6 #[.slice ad len cap] w fun e w' => e = .returned (.bool (decide ((1048576 : Int) < len))) ∧ w = w' := by
  go_enter Tryz.func6, Tryz.ntmps6
  go_wp2
  go_ret
  exact ⟨rfl, rfl⟩
set_option maxHeartbeats 800000 in
theorem ints_same (va vb : Value) (xs : List Int) (w : World) (ha : RdI w va xs) (hb : RdI w vb xs) : Calls Tryz.prog 17 #[va, vb] w (Qt (.bool true) w) := by
  obtain ⟨ad, len, cap, rfl, hl, hlc, hcm, h'⟩ := rdS_open ha
  obtain ⟨ad2, len2, cap2, rfl, hl2, hlc2, hcm2, h2'⟩ := rdS_open hb
  have hll : len = len2 := by omega
  subst hll
  clear ha hb hl hl2
  go_enter Tryz.func17, Tryz.ntmps17
  go_wp2
  go_loopw [5] (fun i wr => ∃ k : Nat, k ≤ len ∧ i = .int .i64 k ∧ ∃ m, wr = w.drewN m) (fun i _ => len - (intOf i).toNat)
  case atStart => exact ⟨0, Nat.zero_le _, rfl, 0, rfl⟩
  case round =>
    obtain ⟨k, hk, rfl, m, hwr⟩ := hrel
    have h'r := rdI_drewN m h'
    have h2'r := rdI_drewN m h2'
    rw [← hwr] at h'r h2'r
    have HW := Lib.hid hwr
    clear hwr
    by_cases hlt : k < len
    · obtain ⟨b, off, x, rfl, hx, hc, hI, _⟩ := rdI_get h'r hlt
      obtain ⟨b2, off2, y, rfl, hy, hc2, hI2, _⟩ := rdI_get h2'r hlt
      rw [hx] at hy
      obtain rfl := Option.some.inj hy
      clear hx hy
      go_wp2
      go_quiet (fail)
      go_wp2
      go_roundw
      case rel => exact ⟨k + 1, by omega, by go_num, _, by rw [HW.out, World.drewN_drewN]⟩
      case measure => simp [intOf]; omega
    · go_wp2
      go_ret
      exact ⟨rfl, m, HW.out⟩
end Go.Proofs.YtbcjhpgkodeoeaaGreatDoor

/- The reference's copy of rows. Conditions: rows that are not empty. -/
namespace Go.Proofs.YtbcjhpgkodeoeaaGreatDoor
open Go.RowKit

end Go.Proofs.YtbcjhpgkodeoeaaGreatDoor

/- The laws' helpers that read a byte and cut the tangents off. Conditions: short codes, four coordinates. -/
namespace Go.Proofs.YtbcjhpgkodeoeaaGreatDoor
open Go.ChangeShapes Go.WideShapes Go.ChangeAt Go.RowKit Go.Deep Go.Joins

set_option maxHeartbeats 800000 in
theorem at0_any (v : Value) (bs : List Int) (iz : Int) (w : World) (h : RdB w v bs) (hi : iz = 0 ∨ iz = 1) (hl : bs.length ≤ 1048576) : Calls Tryz.prog 11 #[v, .int .i64 iz] w fun e w' => ∃ x : Nat, e = .returned (.int .i64 (x : Int)) ∧ x < 256 ∧ w = w' := by
  obtain ⟨ad, len, cap, rfl, hlen, hlc, hcm, h'⟩ := rdS_open h
  obtain ⟨i, hz⟩ : ∃ i : Nat, iz = i := ⟨iz.toNat, by omega⟩
  subst hz
  by_cases hlt : i < len
  · obtain ⟨b, off, us, x, rfl, hx, hus, hc, hxx, _⟩ := rdS_get h' hlt
    obtain ⟨rfl, hx0, hx1⟩ := hxx
    obtain ⟨y, rfl⟩ : ∃ y : Nat, x = y := ⟨x.toNat, by omega⟩
    have HY := Lib.hid (show y < 256 by omega)
    have hcc := hc 0 _ rfl
    simp only [Nat.mul_one, Nat.add_zero] at hcc
    have hltI : (i : Int) < len := by omega
    have hiI : 0 ≤ (i : Int) := by omega
    have hcI : (i : Int) ≤ cap := by omega
    clear h h' hc hlen hus hx
    go_enter Tryz.func11, Tryz.ntmps11
    go_wp2
    go_ret
    exact ⟨y, rfl, HY.out, rfl⟩
  · have hnl : ¬ ((i : Int) < len) := by omega
    clear h h'
    go_enter Tryz.func11, Tryz.ntmps11
    go_wp2
    go_ret
    exact ⟨(((i : Int) * 7 + len) % 256).toNat, by rw [Int.toNat_of_nonneg (by omega)]; rfl, by omega, rfl⟩
end Go.Proofs.YtbcjhpgkodeoeaaGreatDoor
