/- The reference puts the products of two polynomials into a third one. Conditions: valid powers. -/
import Derived.Test.YtdaaamdighojdaaSPut
set_option linter.unusedSimpArgs false
set_option linter.unusedVariables false
namespace Go.Proofs.Ytdaaamdighojdaa
open Go.RowKit Go.Sort

/-- A load that is not to be looked at ahead of its turn. -/
def opM (s : String) : Oper := { dst := some 46, op := Op.load 24 (Operand.tmp 45), type := 24, pos := s, after := #[{ on := 0, ground := Ground.data }], guard := none }
theorem opM_def (s : String) : opM s = { dst := some 46, op := Op.load 24 (Operand.tmp 45), type := 24, pos := s, after := #[{ on := 0, ground := Ground.data }], guard := none } := rfl
attribute [local go_sem] opM_def

/-- A monomial that is being made: its box, and its powers so far. -/
structure MBox (e : Nat) (W wr : World) (B : Nat) (c : Int) (v : Value) (ps : List Int) (f : List Nat) : Prop where
  own : OwnI e wr v ps f
  newF : ∀ g ∈ f, W.heap.size ≤ g ∧ g ≠ B
  hB : W.heap.size ≤ B
  c0 : wr.cell? ⟨B, 0, none⟩ = some (.int .i64 c)
  c1 : wr.cell? ⟨B, 1, none⟩ = some v
  f1 : wr.frozen? ⟨B, 1, none⟩ = false
  below : Below W.heap.size W wr
theorem MBox.push {e : Nat} {W wr w1 w2 : World} {B n' : Nat} {c y : Int} {v v' : Value} {ps : List Int} {f : List Nat} (h : MBox e W wr B c v ps f) (hy : I64 y) (hn : ps.length = n') (h1 : Below wr.heap.size wr w1)
    (hown : w2.ownsRow 0 e 1 v' (n' + 1) (ps.map (Value.int .i64) ++ [.int .i64 y])) (hg : w1.grownBy w2 v.ownBlock) (hv : ∀ b, v'.ownBlock = some b → v.ownBlock = some b ∨ w1.heap.size ≤ b) :
    w2.cell? ⟨B, 1, none⟩ = some v ∧ w2.frozen? ⟨B, 1, none⟩ = false ∧ Below W.heap.size W w2 ∧ ∃ f', MBox e W (w2.setCell ⟨B, 1, none⟩ v') B c v' (ps ++ [y]) f' := by
  subst hn
  have hfe : f = v.ownBlock.toList := h.own.2.1
  have hO : Only f wr w2 := (Only.of_below h1).trans ⟨hg.os, hg.tape, hg.output, hg.size, fun k hk hn => hg.block k hk (fun e => hn (by rw [hfe, ← e]; simp))⟩
  have hBl : B < wr.heap.size := World.block_lt_of_cell? _ _ h.c0
  have hBf : B ∉ f := fun hm => (h.newF B hm).2 rfl
  have hs1 := h1.size
  have hbs := h.below.size
  have hsub : ∀ b ∈ v'.ownBlock.toList, b ∈ f ∨ w1.heap.size ≤ b := fun b hb => by
    rw [Option.mem_toList] at hb
    rcases hv b hb with hb | hb
    · left; rw [hfe, hb]; simp
    · right; exact hb
  have hnew : ∀ b ∈ v'.ownBlock.toList, W.heap.size ≤ b ∧ b ≠ B := fun b hb => by
    rcases hsub b hb with h' | h'
    · exact h.newF b h'
    · exact ⟨by omega, by omega⟩
  have hSt : Only [B] w2 (w2.setCell ⟨B, 1, none⟩ v') := (Only.refl _ _).setCell (by simp) _
  have hI' : OwnI e w2 v' (ps ++ [y]) v'.ownBlock.toList := ⟨by simpa using hown, rfl, fun x hx => by
    simp at hx
    rcases hx with hx | rfl
    · exact h.own.2.2 x hx
    · exact hy⟩
  have hc1 := cell_only hO hBf h.c1
  have hf1 : w2.frozen? ⟨B, 1, none⟩ = false := (frz_only hO hBf hBl).trans h.f1
  have hbl2 : Below W.heap.size W w2 := h.below.trans (hO.below hbs (fun g hg => (h.newF g hg).1))
  exact ⟨hc1, hf1, hbl2, v'.ownBlock.toList, ownI_only hI' hSt (fun b hb hm => (hnew b hb).2 (List.mem_singleton.1 hm)), hnew, h.hB, (World.cell?_setCell_other _ _ _ _ (by simp)).trans (cell_only hO hBf h.c0), World.cell?_setCell_same _ _ _ hc1, by rw [World.frozen?_setCell]; exact hf1, hbl2.setCell h.hB _⟩

/-- A polynomial that only is read: its row is a call's own. -/
structure SumI (w wr : World) (v : Value) (xs : List MonZ) (zl : Nat) : Prop where
  shape : ∃ gg cap, v = .slice (some ⟨gg, 0, none⟩) zl cap
  els : ∃ Z : List ElS, Z.map monS = xs ∧ wr.ownsRow 0 91 2 v zl (rowS Z) ∧ ∀ z ∈ Z, RdI wr z.v z.ps ∧ I64 z.c
  below : Below w.heap.size w wr
theorem SumI.step {w wr w2 : World} {v : Value} {xs : List MonZ} {zl : Nat} (h : SumI w wr v xs zl) (hb : Below wr.heap.size wr w2) : SumI w w2 v xs zl := by
  obtain ⟨Z, h1, h2, h3⟩ := h.els
  exact ⟨h.shape, ⟨Z, h1, ownsRow_only h2 (Only.of_below (fp := []) hb) (by simp), fun z hz => ⟨rdI_mono hb (h3 z hz).1, (h3 z hz).2⟩⟩, h.below.trans (hb.mono h.below.size)⟩
theorem putAll_snoc (p l : List MonZ) (m : MonZ) : putAll p (l ++ [m]) = putL (putAll p l) m := by simp [putAll, List.foldl_append]
theorem putL_len (p : List MonZ) (m : MonZ) : (putL p m).length ≤ p.length + 1 := by
  have h1 : ∀ (l : List MonZ) (c : Int) (b : Bool), (putA m.pows l c b).length ≤ l.length + if b = true then 0 else 1 := by
    intro l
    induction l with
    | nil => intro c b; rw [putA]; split <;> simp_all
    | cons x l ih =>
      intro c b
      rw [putA]
      split
      · have := ih (plusZ c x.coef) b
        simp only [List.length_cons]
        omega
      · split
        · rename_i hb
          have := ih c true
          rw [hb.1]
          simp at this ⊢
          omega
        · have := ih c b
          simp only [List.length_cons]
          omega
  have h2 := h1 p m.coef false
  unfold putL keptL
  exact Nat.le_trans (List.length_filter_le _ _) (by simpa using h2)
theorem putAll_len : ∀ (q p : List MonZ), (putAll p q).length ≤ p.length + q.length
  | [], p => by simp [putAll]
  | m :: q, p => by
    have h1 := putAll_len q (putL p m)
    have h2 := putL_len p m
    have : putAll p (m :: q) = putAll (putL p m) q := rfl
    rw [this, List.length_cons]
    omega
theorem SumI.len {w wr : World} {v : Value} {xs : List MonZ} {zl : Nat} (h : SumI w wr v xs zl) : xs.length = zl := by
  obtain ⟨Z, h1, h2, _⟩ := h.els
  have := h2.1
  rw [rowS_length] at this
  rw [← h1, List.length_map]
  omega
/-- Putting one monomial more. -/
theorem sumPut_any {w wr : World} {gp zl capp : Nat} {xs : List MonZ} (h : SumI w wr (.slice (some ⟨gp, 0, none⟩) zl capp) xs zl) (hl : zl ≤ 100000) (m : MonZ) (ad : Option Addr) (l k : Nat) (hm : RdI wr (.slice ad l k) m.pows) (hI : I64 m.coef) :
    Calls Try.prog 104 #[.slice (some ⟨gp, 0, none⟩) zl capp, .agg #[.int .i64 m.coef, .slice ad l k]] wr fun e w' => ∃ gg cap, e = .returned (.slice (some ⟨gg, 0, none⟩) (putL xs m).length cap) ∧ SumI w w' (.slice (some ⟨gg, 0, none⟩) (putL xs m).length cap) (putL xs m) (putL xs m).length ∧ Below wr.heap.size wr w' := by
  obtain ⟨Z, h1, h2, h3⟩ := h.els
  refine (put_any gp zl capp Z ⟨m.coef, ad, l, k, m.pows, []⟩ wr h2 h3 hm hl).mono ?_
  rintro e w' ⟨gg, cap, rfl, hgg, hrow, hb⟩
  have hmap : (putE Z ⟨m.coef, ad, l, k, m.pows, []⟩).map monS = putL xs m := by rw [putE_map, h1]; rfl
  have hlen : (putE Z ⟨m.coef, ad, l, k, m.pows, []⟩).length = (putL xs m).length := by rw [← hmap, List.length_map]
  rw [hlen] at hrow ⊢
  refine ⟨gg, cap, rfl, ⟨⟨gg, cap, rfl⟩, ⟨_, hmap, hrow, fun z hz => ?_⟩, h.below.trans (hb.mono h.below.size)⟩, hb⟩
  rcases putAE_mem _ _ _ _ z hI (List.mem_filter.1 hz).1 with hz | ⟨d, hd, rfl⟩
  · exact ⟨rdI_mono hb (h3 z hz).1, (h3 z hz).2⟩
  · exact ⟨rdI_mono hb hm, hd⟩

theorem mbox_new {e t : Nat} {w : World} {c : Int} : MBox e w ((w.alloc (.cells #[.int .i64 c, .slice none 0 0] t)).drew) w.heap.size c (.slice none 0 0) [] [] :=
  ⟨⟨World.ownsRow_nil _ _ _ _, rfl, by simp⟩, by simp, Nat.le_refl _, by simp, by simp, by simp, ((Below.refl _ _).alloc (Nat.le_refl _) _).drew⟩
/-- What putting the products leaves. -/
def TimesPost (w0 w : World) (xs : List MonZ) : Ending → World → Prop := fun e w' => ∃ gg zl cap, e = .returned (.slice (some ⟨gg, 0, none⟩) zl cap) ∧ SumI w0 w' (.slice (some ⟨gg, 0, none⟩) zl cap) xs zl ∧ Below w.heap.size w w'

set_option maxRecDepth 100000 in
set_option maxHeartbeats 6400000 in
theorem sTimes3_any (vp va vb : Value) (xs a b : List MonZ) (n zl : Nat) (w0 w : World) (hs : SumI w0 w vp xs zl) (ha : RdMs w va a) (hb : RdMs w vb b) (ha12 : a.length ≤ 12) (hb12 : b.length ≤ 12) (ham : ∀ m ∈ a, MonSmall n m) (hbm : ∀ m ∈ b, MonSmall n m) (hn1 : 1 ≤ n) (hn6 : n ≤ 6) (hzl : zl ≤ 90000) :
    Calls Try.prog 93 #[vp, va, vb] w (TimesPost w0 w (putAll xs (mulL a b))) := by
  obtain ⟨ad1, len1, cap1, rfl, hl1, hlc1, hcm1, h1'⟩ := rdS_open ha
  obtain ⟨ad2, len2, cap2, rfl, hl2, hlc2, hcm2, h2'⟩ := rdS_open hb
  obtain ⟨gp, capp, rfl⟩ := hs.shape
  have hxl := hs.len
  rw [hl1] at ha12
  rw [hl2] at hb12
  have HL1 := Lib.hid hl1
  have HL2 := Lib.hid hl2
  have HAM := Lib.hid ham
  have HBM := Lib.hid hbm
  have HS0 := Lib.hid (show SumI w0 w _ (putAll xs (mulL (a.take 0) b)) zl ∧ Below w.heap.size w w from ⟨by simpa [mulL, putAll] using hs, Below.refl _ _⟩)
  have HLEN := Lib.hid (fun (i : Nat) (hi : i ≤ 12) => show (putAll xs (mulL (a.take i) b)).length ≤ zl + 144 from by
    have h1 := putAll_len (mulL (a.take i) b) xs
    rw [mulL_len, List.length_take, hxl] at h1
    have h2 : min i a.length * b.length ≤ 12 * 12 := Nat.mul_le_mul (by omega) (by omega)
    omega)
  have HLEN2 := Lib.hid (fun (i k : Nat) (m : MonZ) => show (putAll xs (mulL (a.take i) b ++ mulRowM m (b.take k))).length ≤ zl + 288 from by
    have h1 := putAll_len (mulL (a.take i) b ++ mulRowM m (b.take k)) xs
    have h3 : (mulRowM m (b.take k)).length ≤ 144 := by rw [mulRowM, List.length_map, List.length_take]; omega
    have h4 : (mulL (a.take i) b).length ≤ 12 * 12 := by
      rw [mulL_len, List.length_take]
      exact Nat.mul_le_mul (by omega) (by omega)
    rw [List.length_append, hxl] at h1
    omega)
  clear ha hb hl1 hl2 ham hbm hs hxl
  obtain ⟨i0, hi, hz0, hz1, hz2⟩ := info_parts Try.info_int
  go_enter Try.func93, Try.ntmps93
  go_wp2
  go_loopw [0, 7] (fun u si wr => ∃ (i zi : Nat), i ≤ len1 ∧ si = .int .i64 i ∧ SumI w0 wr u (putAll xs (mulL (a.take i) b)) zi ∧ Below w.heap.size w wr) (fun _ si _ => len1 - (intOf si).toNat)
  case atStart => exact ⟨0, zl, Nat.zero_le _, rfl, HS0.out⟩
  case round =>
    obtain ⟨wz, rfl⟩ : ∃ W, W = wr := ⟨_, rfl⟩
    obtain ⟨i, zi, hil, rfl, hsi, hbz⟩ := hrel
    clear HS0
    obtain ⟨gi, capi, rfl⟩ := hsi.shape
    by_cases hlt1 : i < len1
    case neg =>
      obtain rfl : i = len1 := by omega
      have HE := Lib.hid (show SumI w0 wz _ (putAll xs (mulL a b)) zi from by rwa [List.take_of_length_le (by rw [HL1.out]; exact Nat.le_refl _)] at hsi)
      clear hsi
      go_wp2
      go_ret
      exact ⟨gi, zi, capi, rfl, HE.out, hbz⟩
    obtain ⟨ba, oa, ada, la, ca, x, rfl, hx, hca0, hca1, hIx, hx1, hx2, hx3, hx4, _⟩ := rdMs_get h1' hlt1
    obtain ⟨hmx0, hmxl, hmxp⟩ := HAM.out x (List.mem_of_getElem? hx)
    obtain rfl : la = n := by omega
    have HX := Lib.hid hx
    have HMXL := Lib.hid hmxl
    have HMXP := Lib.hid hmxp
    have HRX := Lib.hid hx4
    have HS1 := Lib.hid (show SumI w0 wz (.slice (some ⟨gi, 0, none⟩) zi capi) (putAll xs (mulL (a.take i) b ++ mulRowM x (b.take 0))) zi from by simpa [mulRowM] using hsi)
    have HBZ := Lib.hid hbz
    clear hx hx1 hx4 hmxl hmxp hsi hbz
    go_wp2
    go_loopw [0, 8] (fun u si wr => ∃ (k zk : Nat), k ≤ len2 ∧ si = .int .i64 k ∧ SumI w0 wr u (putAll xs (mulL (a.take i) b ++ mulRowM x (b.take k))) zk ∧ Below w.heap.size w wr) (fun _ si _ => len2 - (intOf si).toNat)
    case atStart => exact ⟨0, zi, Nat.zero_le _, rfl, HS1.out, HBZ.out⟩
    case round =>
      obtain ⟨wk, rfl⟩ : ∃ W, W = wr := ⟨_, rfl⟩
      obtain ⟨k, zk, hkl, rfl, hsk, hbk⟩ := hrel
      clear HS1
      obtain ⟨gk, capk, rfl⟩ := hsk.shape
      by_cases hlt2 : k < len2
      case neg =>
        obtain rfl : k = len2 := by omega
        have HE := Lib.hid (show SumI w0 wk (.slice (some ⟨gk, 0, none⟩) zk capk) (putAll xs (mulL (a.take (i + 1)) b)) zk ∧ Below w.heap.size w wk from ⟨by rwa [show b.take k = b from List.take_of_length_le (by rw [HL2.out]; exact Nat.le_refl _), ← mulL_next HX.out] at hsk, hbk⟩)
        clear hsk hbk
        go_wp2
        go_roundw
        case rel => exact ⟨i + 1, zk, by omega, by go_num, HE.out⟩
        case measure => (simp [intOf]; try omega)
      obtain ⟨bb, ob, adb, lb, cb, y, rfl, hy, hcb0, hcb1, hIy, hy1, hy2, hy3, hy4, _⟩ := rdMs_get h2' hlt2
      obtain ⟨hmy0, hmyl, hmyp⟩ := HBM.out y (List.mem_of_getElem? hy)
      obtain rfl : lb = la := by omega
      have hA0 := cell_below hbk hca0
      have hB0 := cell_below hbk hcb0
      have HA1 := Lib.hid (cell_below hbk hca1)
      have HB1 := Lib.hid (cell_below hbk hcb1)
      have HY := Lib.hid hy
      have HMYL := Lib.hid hmyl
      have HMYP := Lib.hid hmyp
      have HRY := Lib.hid hy4
      have HSK := Lib.hid hsk
      have HBK := Lib.hid hbk
      have hzk : zk ≤ zl + 288 := by have := HLEN2.out i k x; rw [hsk.len] at this; exact this
      have hbaw := World.block_lt_of_cell? _ _ hca0
      have hbbw := World.block_lt_of_cell? _ _ hcb0
      have hwk := hbk.size
      have hilI : (i : Int) < len1 := by omega
      have hklI : (k : Int) < len2 := by omega
      have hdr : Below wk.heap.size wk wk.drew := (Below.refl _ _).drew
      have hz9 : Below wk.heap.size wk (wk.alloc (.cells #[.int .i64 0, .slice none 0 0] 91)) := (Below.refl _ _).alloc (Nat.le_refl _) _
      have hA0z := cell_below hz9 hA0
      have hB0z := cell_below hz9 hB0
      have hne0 := World.new_ne wk _ hA0
      have hne1 := World.new_ne wk _ hB0
      have hn0 : ba ∉ [wk.heap.size] := by simp at hbaw ⊢; omega
      have hn1 : bb ∉ [wk.heap.size] := by simp at hbbw ⊢; omega
      clear hca0 hca1 hcb0 hcb1 hy hy1 hy4 hmyl hmyp hsk hbk hbaw hbbw
      go_wp2
      go_cut [9] from 17 to 69 (fun s9 wx => ∃ B : Nat, s9 = .pointer (some ⟨B, 0, none⟩) ∧ MBox 3 wk wx B (timesZ x.coef y.coef) (.slice none 0 0) [] [])
      case first =>
        go_region_held3 (fun w' => w'.cell? ⟨ba, oa + i * 2, none⟩ = some (.int .i64 x.coef) ∧ w'.cell? ⟨bb, ob + k * 2, none⟩ = some (.int .i64 y.coef)) (first | exact ⟨hA0, hB0⟩ | exact ⟨hA0z, hB0z⟩ | exact ⟨cell_only (((Only.refl [wk.heap.size] _).setCell (by simp) _).setCell (by simp) _) hn0 hA0z, cell_only (((Only.refl [wk.heap.size] _).setCell (by simp) _).setCell (by simp) _) hn1 hB0z⟩ | go_keep) (first | (go_at_call 97; (with_reducible refine (sTimes_any _ _ _).mono ?_); rintro e w' ⟨rfl, rfl⟩))
        all_goals (
          go_wp2_with fail
          go_meet
          exact ⟨wk.heap.size, rfl, mbox_new⟩)
      case rest =>
        obtain ⟨B, rfl, hMB⟩ := hcut
        have HM0 := Lib.hid (show MBox 3 wk wc B (timesZ x.coef y.coef) (.slice none 0 0) ((powsAdd x.pows y.pows).take 0) [] from by simpa using hMB)
        have HPL := Lib.hid (show (powsAdd x.pows y.pows).length = lb from by rw [powsAdd, List.length_zipWith, HMXL.out, HMYL.out]; omega)
        clear hMB hA0 hB0 hA0z hB0z hne0 hne1 hn0 hn1 hdr hz9
        go_wp2
        go_loopw [10] (fun si wr => ∃ (r : Nat) (v : Value) (f : List Nat), si = .int .i64 r ∧ r ≤ lb ∧ MBox 3 wk wr B (timesZ x.coef y.coef) v ((powsAdd x.pows y.pows).take r) f) (fun si _ => lb - (intOf si).toNat)
        case atStart => exact ⟨0, _, _, rfl, Nat.zero_le _, HM0.out⟩
        case round =>
          obtain ⟨wy, rfl⟩ : ∃ W, W = wr := ⟨_, rfl⟩
          clear HM0
          obtain ⟨r, v, f, rfl, hr, hM⟩ := hrel
          have hA1y := cell_below hM.below HA1.out
          have hwy := HBK.out.trans (hM.below.mono HBK.out.size)
          by_cases hlt3 : r < lb
          case pos =>
            obtain ⟨bp, op, p1, rfl, hp1, hcp1, hIp1, _⟩ := rdI_get (rdI_mono HBK.out HRX.out) hlt3
            obtain ⟨bq, oq, p2, rfl, hp2, hcp2, hIp2, _⟩ := rdI_get (rdI_mono HBK.out HRY.out) hlt3
            obtain ⟨x0, x5⟩ := HMXP.out p1 (List.mem_of_getElem? hp1)
            obtain ⟨y0, y5⟩ := HMYP.out p2 (List.mem_of_getElem? hp2)
            have hq : (powsAdd x.pows y.pows)[r]? = some (p1 + p2) := by simp [powsAdd, List.getElem?_zipWith, hp1, hp2]
            have hrl : ((powsAdd x.pows y.pows).take r).length = r := by rw [List.length_take, HPL.out]; omega
            have HSW := Lib.hid (fun (X : World) (hX : Below wk.heap.size wk X) => show X.cell? ⟨ba, oa + i * 2 + 1, none⟩ = some (.slice (some ⟨bp, op, none⟩) lb ca) ∧ X.cell? ⟨bp, op + r, none⟩ = some (.int .i64 p1) ∧ X.cell? ⟨bb, ob + k * 2 + 1, none⟩ = some (.slice (some ⟨bq, oq, none⟩) lb cb) ∧ X.cell? ⟨bq, oq + r, none⟩ = some (.int .i64 p2) from
              ⟨cell_below hX HA1.out, cell_below hX hcp1, cell_below hX HB1.out, cell_below hX hcp2⟩)
            obtain ⟨adv, lv, cv, rfl, hvl, _, _, hownv, _, _⟩ := ownI_open hM.own
            rw [hrl] at hvl
            subst hvl
            have hm1 := hM.c1
            have hbM := hM.below
            have HNU := Lib.hid hownv
            have HTN := Lib.hid (take_snoc hq)
            have HP := Lib.hid (fun (w5 : World) (gg capn : Nat) (hown1 : w5.ownsRow 0 3 1 (.slice (some ⟨gg, 0, none⟩) (r + 1) capn) (r + 1) (((powsAdd x.pows y.pows).take r).map (Value.int .i64) ++ [.int .i64 (p1 + p2)])) (hgrow : ((wy.alloc (.cells #[.int .i64 (p1 + p2)] 3)).drew).grownBy w5 (Value.slice adv r cv).ownBlock) (hat : (Value.slice adv r cv).ownBlock = some gg ∨ gg = wy.heap.size + 1) =>
              hM.push (y := p1 + p2) ⟨by omega, by omega⟩ hrl (((Below.refl _ _).alloc (Nat.le_refl _) _).drew) hown1 hgrow (fun b hb => by
                simp [Value.ownBlock] at hb
                subst hb
                rcases hat with hat | hat
                · left; exact hat
                · right; rw [hat]; show ((wy.alloc _).drew).heap.size ≤ _; simp [World.drew]))
            have hsd := HSW.out wy hbM
            have hsA := HSW.out ((wy.alloc (.cells #[.int .i64 (p1 + p2)] 3)).drew) (hbM.trans ((((Below.refl _ _).alloc (Nat.le_refl _) _).drew).mono hbM.size))
            have HSD := Lib.hid hsd
            have HSA := Lib.hid hsA
            have hm1a := cell_below (show Below wy.heap.size wy ((wy.alloc (.cells #[.int .i64 (p1 + p2)] 3)).drew) from ((Below.refl _ _).alloc (Nat.le_refl _) _).drew) hm1
            have hrI : (r : Int) < lb := by omega
            have hwr : IntKind.i64.wrap (p1 + p2) = p1 + p2 := IntWalk.i64_in _ (by omega)
            clear hM hbM hownv hq hrl hsd hsA hp1 hp2 hcp1 hcp2
            go_wp2
            rw [← opM_def]
            go_region_held3 (fun w' => w'.cell? ⟨ba, oa + i * 2 + 1, none⟩ = some (.slice (some ⟨bp, op, none⟩) lb ca) ∧ w'.cell? ⟨bp, op + r, none⟩ = some (.int .i64 p1) ∧ w'.cell? ⟨bb, ob + k * 2 + 1, none⟩ = some (.slice (some ⟨bq, oq, none⟩) lb cb) ∧ w'.cell? ⟨bq, oq + r, none⟩ = some (.int .i64 p2)) (first | exact HSD.out | exact HSA.out | exact hs5 | exact hs6) (first | (refine step_append_lies _ (by rfl) _ _ _ (by rfl) 0 3 i0 _ 1 8 Try.underlying24 hi hz0 hz1 hz2 rfl (by omega) (.slice adv r cv) r _ (by rfl) ((HNU.out.alloc _).drew) ⟨wy.heap.size, 0, none⟩ 1 1 [.int .i64 (p1 + p2)] (by rfl) (by rfl) (World.news_of_block (cs := #[.int .i64 (p1 + p2)]) (t := 3) (fr := (0, 0)) (heap_alloc_new wy _)) (by simp [Value.oneCell']) (by omega) (by unfold maxLen; omega) (by omega) (by simp) (wy.heap.size + 1) (by simp) ?_; intro gg capn w5 hown1 hgrow hat hlt5; obtain ⟨hp1, hp2, hp3, f', hP⟩ := HP.out w5 gg capn hown1 hgrow hat; have hs5 := HSW.out _ hp3; have hs6 := HSW.out _ hP.below; have HPP := Lib.hid hP; clear hP))
            all_goals (
              go_wp2
              go_roundw
              case rel => exact ⟨r + 1, _, f', by go_num, by omega, by rw [HTN.out]; exact HPP.out⟩
              case measure => (simp [intOf]; try omega))
          case neg =>
            obtain rfl : r = lb := by omega
            have hM' : MBox 3 wk wy B (timesZ x.coef y.coef) v (powsAdd x.pows y.pows) f := by
              have := hM
              rwa [List.take_of_length_le (by rw [HPL.out]; exact Nat.le_refl _)] at this
            obtain ⟨ad, l, c, rfl, _⟩ := ownI_open hM'.own
            have hm0 := hM'.c0
            have hm1 := hM'.c1
            have SP := Lib.hid (sumPut_any (HSK.out.step hM'.below) (by omega) (mulM x y) ad l c (ownI_rd hM'.own) (i64_of_bd (timesZ_bd _ _)))
            have HNX := Lib.hid (mulRowM_next (a := x) HY.out)
            have HBY := Lib.hid hwy
            clear hM hM' hwy
            go_wp2_with fail
            refine SP.out.mono ?_
            rintro e w9 ⟨gg, capn, rfl, hsn, hb9⟩
            have HSN := Lib.hid (show SumI w0 w9 (.slice (some ⟨gg, 0, none⟩) (putL (putAll xs (mulL (a.take i) b ++ mulRowM x (b.take k))) (mulM x y)).length capn) (putAll xs (mulL (a.take i) b ++ mulRowM x (b.take (k + 1)))) (putL (putAll xs (mulL (a.take i) b ++ mulRowM x (b.take k))) (mulM x y)).length ∧ Below w.heap.size w w9 from ⟨by rw [HNX.out, ← List.append_assoc, putAll_snoc]; exact hsn, HBY.out.trans (hb9.mono HBY.out.size)⟩)
            clear hsn hb9 hm0 hm1 hA1y
            go_wp2
            go_roundw
            case rel => exact ⟨k + 1, _, by omega, by go_num, HSN.out⟩
            case measure => (simp [intOf]; try omega)
end Go.Proofs.Ytdaaamdighojdaa
