/- The texts DrwG, Fermat, SForm, DerP in one: each says at its head what it proves. Conditions: as said there. -/
import Derived.Deep.RegionLaw
import Derived.Deep.AppendLies
import Derived.Test.YtbcjhpgkodeoeaaGreatDoorG12
import Derived.Test.YtbcjhpgkodeoeaaGreatDoorG03
import Derived.Test.YtbcjhpgkodeoeaaGreatDoorG09
import Derived.Test.YtbcjhpgkodeoeaaGreatDoorG02
import Derived.Test.YtbcjhpgkodeoeaaGreatDoorG10
import Derived.Test.YtbcjhpgkodeoeaaGreatDoorG06
set_option linter.unusedSimpArgs false
set_option linter.unusedVariables false
/- Drawn fields. Conditions: a cursor. -/
namespace Go.Proofs.YtbcjhpgkodeoeaaGreatDoor
open Go.RowKit Go.Sort

/-- Polynomials in order. -/
def PolsIn (n : Nat) (d : Int) (most : Nat) (xs : List (List MonZ)) : Prop := ∀ p ∈ xs, Canon p ∧ p.length ≤ most ∧ ∀ m ∈ p, MonIn n d m
/-- A field that is being drawn. -/
structure FldD (g : Nat) (W w : World) (Bf : Nat) (dim : Int) (v : Value) (xs : List (List MonZ)) (fs : List Nat) : Prop where
  own : OwnMss 24 56 3 w v xs fs
  new : ∀ b ∈ fs, W.heap.size ≤ b
  only : Only [Bf, g] W w
  cur : Cur w g
  c0 : w.cell? ⟨Bf, 0, none⟩ = some (.int .i64 dim)
  c1 : w.cell? ⟨Bf, 1, none⟩ = some v
  f1 : w.frozen? ⟨Bf, 1, none⟩ = false
  lt : Bf < W.heap.size
  gt : g < Bf
  lg : g < W.heap.size
theorem FldD.draw {g Bf : Nat} {dim : Int} {v : Value} {xs : List (List MonZ)} {fs : List Nat} {W w w' : World} (h : FldD g W w Bf dim v xs fs) (hd : Drawn g w w') : FldD g W w' Bf dim v xs fs := by
  have hb : Bf ∉ [g] := by have := h.gt; simp; omega
  have hl := World.block_lt_of_cell? _ _ h.c1
  have hg := h.lg
  exact ⟨ownMss_only h.own hd.only (fun b hb => by have := h.new b hb; simp; omega), h.new, h.only.trans (hd.only.mono (by intro b hb; simp at hb; simp [hb])), hd.cur, cell_only hd.only hb h.c0, cell_only hd.only hb h.c1, (World.frozen?_of_block (hd.only.block _ hl hb)).trans h.f1, h.lt, h.gt, h.lg⟩
theorem FldD.bel {g Bf : Nat} {dim : Int} {v : Value} {xs : List (List MonZ)} {fs : List Nat} {W w w' : World} (h : FldD g W w Bf dim v xs fs) (hb : Below w.heap.size w w') : FldD g W w' Bf dim v xs fs := h.draw ((Drawn.refl h.cur).below hb)
/-- Behind a call, an append to the parts, and the store of the new slice of parts. -/
theorem FldD.push {g Bf : Nat} {dim : Int} {v v' p : Value} {xs : List (List MonZ)} {x : List MonZ} {us : List (List Value)} {fs f : List Nat} {n : Nat} {W w w1 w2 : World}
    (h : FldD g W w Bf dim v xs (v.ownBlock.toList ++ fs)) (hone : ∀ u ∈ us, u.length = 1) (hels : OwnEls (OElMss 56 3) w us xs fs) (hnd : (v.ownBlock.toList ++ fs).Nodup) (hown0 : w.ownsRow 0 24 1 v xs.length us.flatten) (hn : xs.length = n)
    (hp : OwnMs 56 3 w p x f) (hf : ∀ b ∈ f, W.heap.size ≤ b ∧ b ∉ v.ownBlock.toList ++ fs) (h1 : Below w.heap.size w w1) (hown : w2.ownsRow 0 24 1 v' (n + 1) (us.flatten ++ [p])) (hg : w1.grownBy w2 v.ownBlock)
    (hv : ∀ b, v'.ownBlock = some b → v.ownBlock = some b ∨ w1.heap.size ≤ b) :
    w2.cell? ⟨Bf, 1, none⟩ = some v ∧ w2.frozen? ⟨Bf, 1, none⟩ = false ∧ ∃ fp', FldD g W (w2.setCell ⟨Bf, 1, none⟩ v') Bf dim v' (xs ++ [x]) fp' := by
  have hlt : ∀ b ∈ v.ownBlock.toList ++ fs, b < w.heap.size := fun b hb => by
    simp only [List.mem_append, Option.mem_toList] at hb
    rcases hb with hb | hb
    · exact (hown0.lt b hb).2
    · exact ownEls_lt (fun _ _ _ h => oelMss_lt h) hels b hb
  have hWw := h.only.size
  have h11 := h1.size
  have hBlt := h.lt
  have hgl := h.lg
  obtain ⟨fp', hP, hfp, hO⟩ := ownS_push2 (El := OElMss 56 3) (w := w) (w1 := w1) (f := f) (fs := fs) (fun w w' u x f g h ho hd => oelMss_only h ho hd) hone hels hnd ⟨p, rfl, hp⟩ rfl
    (fun b hb => (hf b hb).2) (ownMs_nodup hp) (ownMs_lt hp) (fun b hb => hlt b (by simp [hb])) hn h1 hown hg hv
  have hBn : Bf ∉ v.ownBlock.toList := fun hm => by have := h.new Bf (by simp only [List.mem_append]; left; exact hm); omega
  have hgn : g ∉ v.ownBlock.toList := fun hm => by have := h.new g (by simp only [List.mem_append]; left; exact hm); omega
  have hvn : ∀ b ∈ v.ownBlock.toList, W.heap.size ≤ b := fun b hb => h.new b (by simp only [List.mem_append]; exact .inl hb)
  have hfn : ∀ b ∈ fp', W.heap.size ≤ b := fun b hb => by
    rcases hfp b hb with h2 | h2 | h2
    · exact h.new b h2
    · exact (hf b h2).1
    · omega
  have hSt : Only [Bf] w2 (w2.setCell ⟨Bf, 1, none⟩ v') := (Only.refl _ _).setCell (by simp) _
  have hc1 := cell_only hO hBn h.c1
  have hc0 := cell_only hO hBn h.c0
  have hf1 : w2.frozen? ⟨Bf, 1, none⟩ = false := (World.frozen?_of_block (hO.block Bf (by omega) hBn)).trans h.f1
  have hcu : Cur w2 g := h.cur.only hO hgn (fun b hb => by have := hvn b hb; omega)
  refine ⟨hc1, hf1, fp', ⟨ownMss_only hP hSt (fun b hb hm => by have := hfn b hb; simp at hm; omega), hfn, ?_, ?_, ?_, World.cell?_setCell_same _ _ _ hc1, ?_, hBlt, h.gt, h.lg⟩⟩
  · refine ⟨by rw [hSt.os, hO.os, h.only.os], by rw [hSt.tape, hO.tape, h.only.tape], by rw [hSt.output, hO.output, h.only.output], by have := hSt.size; have := hO.size; omega, fun k hk hn => ?_⟩
    rw [hSt.block k (by have := hO.size; omega) (fun hm => hn (by simp at hm; simp [hm])), hO.block k (by omega) (fun hm => by have := hvn k hm; omega), h.only.block k hk hn]
  · exact hcu.only hSt (by have := h.gt; simp; omega) (fun b hb => by have := h.gt; simp at hb; omega)
  · exact (World.cell?_setCell_other _ _ _ _ (by simp)).trans hc0
  · rw [World.frozen?_setCell]; exact hf1
theorem fldD_start {g n : Nat} {w : World} {dim : Int} {W : World} (hW : W = w.alloc (.cells #[.int .i64 dim, .slice none 0 0] 30)) (hc : Cur w g) : FldD g W W w.heap.size dim (.slice none 0 0) [] [] := by
  have hl := hc.lt
  have hcW : Cur W g := hW ▸ hc.below ((Below.refl _ _).alloc (Nat.le_refl _) _)
  have hlW := hcW.lt
  refine ⟨⟨[], [], World.ownsRow_nil _ _ _ _, by simp, rfl, rfl, by simp⟩, by simp, Only.refl _ _, hcW, ?_, ?_, ?_, ?_, hl, hlW⟩ <;> rw [hW] <;> simp

/-- What a drawn field is. -/
def FldIn (n : Nat) (d : Int) (f : FldZ) : Prop := f.dim = n ∧ f.parts.length = n ∧ PolsIn n d 3 f.parts
theorem fldIn_ok {n : Nat} {d : Int} {f : FldZ} (h : FldIn n d f) (h1 : 1 ≤ n) (h6 : n ≤ 6) (hd : d ≤ 5) : fldOkB f = true := by
  obtain ⟨hf, hl, hp⟩ := h
  rw [fldOkB_all (by simp [dimB, hf]; omega) (by rw [hf, hl]), List.all_eq_true]
  intro p hm
  obtain ⟨h2, h3, h4⟩ := hp p hm
  rw [hf]
  exact polyOk_canon h1 h6 h2 (by omega) (fun m hm => ⟨(h4 m hm).1, (h4 m hm).2.1, by have := (h4 m hm).2.2; omega⟩)
def DrawsFld (g n : Nat) (d : Int) (w : World) : Ending → World → Prop := fun e w' => ∃ v f fp, e = .returned v ∧ OwnFld 24 56 3 w' v f fp ∧ FldIn n d f ∧ (∀ b ∈ fp, w.heap.size ≤ b) ∧ Drawn g w w'

/-- Behind the draw of a part: what an append of it leaves. -/
theorem fldD_app {g Bf n k capu : Nat} {d dim : Int} {adu : Option Addr} {xs : List (List MonZ)} {fs0 : List Nat} {W wk wa : World} {q : Value} {Z : List ElS} (hI : FldD g W wk Bf dim (.slice adu k capu) xs fs0) (hlt : ∀ b ∈ fs0, b < wk.heap.size) (hkl : xs.length = k) (hps : PolsIn n d 3 xs)
    (h : PolD g n d wk wa q Z) (hl3 : Z.length ≤ 3) (hW : W.heap.size ≤ wk.heap.size) :
    wa.cell? ⟨Bf, 1, none⟩ = some (.slice adu k capu) ∧ ∃ us : List (List Value), wa.ownsRow 0 24 1 (.slice adu k capu) k us.flatten ∧ ∃ gq capq, q = .slice (some ⟨gq, 0, none⟩) Z.length capq ∧
      ∀ (w2 : World) (gg capn : Nat), w2.ownsRow 0 24 1 (.slice (some ⟨gg, 0, none⟩) (k + 1) capn) (k + 1) (us.flatten ++ [.slice (some ⟨gq, 0, none⟩) Z.length capq]) → (wa.alloc (.cells #[.slice (some ⟨gq, 0, none⟩) Z.length capq] 24)).grownBy w2 (Value.slice adu k capu).ownBlock →
        ((Value.slice adu k capu).ownBlock = some gg ∨ gg = wa.heap.size + 1) → w2.cell? ⟨Bf, 1, none⟩ = some (.slice adu k capu) ∧ w2.frozen? ⟨Bf, 1, none⟩ = false ∧ ∃ fp', FldD g W (w2.setCell ⟨Bf, 1, none⟩ (.slice (some ⟨gg, 0, none⟩) (k + 1) capn)) Bf dim (.slice (some ⟨gg, 0, none⟩) (k + 1) capn) (xs ++ [Z.map monS]) fp' ∧
          (xs ++ [Z.map monS]).length = k + 1 ∧ PolsIn n d 3 (xs ++ [Z.map monS]) := by
  have hIa := hI.draw h.drawn
  obtain ⟨us, fs, hown, hone, hels, rfl, hnd⟩ := hIa.own
  obtain ⟨gq, capq, rfl⟩ := h.shape
  have hown' := hown
  rw [hkl] at hown'
  refine ⟨hIa.c1, us, hown', gq, capq, rfl, fun w2 gg capn h1 h2 h3 => ?_⟩
  obtain ⟨k1, k2, fp', k3⟩ := hIa.push hone hels hnd hown hkl h.own (fun b hb => ⟨by have := h.new b hb; omega, fun hm => by have := h.new b hb; have := hlt b hm; omega⟩) ((Below.refl _ _).alloc (Nat.le_refl _) _) h1 h2 (fun b hb => by
    simp [Value.ownBlock] at hb
    subst hb
    rcases h3 with h3 | h3
    · left; exact h3
    · right; rw [h3]; simp)
  refine ⟨k1, k2, fp', k3, by simp [hkl], fun p hp => ?_⟩
  rcases List.mem_append.1 hp with hp | hp
  · exact hps p hp
  · rw [List.mem_singleton.1 hp]
    exact ⟨h.canon, by simpa using hl3, fun m hm => by
      obtain ⟨z, hz, rfl⟩ := List.mem_map.1 hm
      exact h.mons z hz⟩

set_option maxRecDepth 100000 in
set_option maxHeartbeats 12800000 in
theorem field_any (g n deg : Nat) (nz dz : Int) (hnz : nz = n) (hdz : dz = deg) (h1 : 1 ≤ n) (h6 : n ≤ 6) (hd5 : deg ≤ 12) (w : World) (hc : Cur w g) :
    Calls Tryz.prog 86 #[.pointer (some ⟨g, 0, none⟩), .int .i64 nz, .int .i64 dz] w (DrawsFld g n deg w) := by
  obtain ⟨j1, hj1, hw0, hw1, hw2⟩ := info_parts Tryz.info_mons
  have hgl := hc.lt
  obtain ⟨W0, hW0⟩ : ∃ W, W = w.alloc (.cells #[.int .i64 0, .slice none 0 0] 30) := ⟨_, rfl⟩
  have hb0 : Below w.heap.size w W0 := hW0 ▸ (Below.refl _ _).alloc (Nat.le_refl _) _
  have hs0 : W0.heap.size = w.heap.size + 1 := by rw [hW0]; simp
  obtain ⟨W1, hW1⟩ : ∃ W, W = W0.alloc (.cells #[.int .i64 nz, .slice none 0 0] 30) := ⟨_, rfl⟩
  have hb1 : Below W0.heap.size W0 W1 := hW1 ▸ (Below.refl _ _).alloc (Nat.le_refl _) _
  have hs1 : W1.heap.size = W0.heap.size + 1 := by rw [hW1]; simp
  have HI0 := Lib.hid (fldD_start (n := n) hW1 (hc.below hb0))
  have HR := Lib.hid (show B2 W1 w.heap.size from (hW0 ▸ B2.new w (.int .i64 0) (.slice none 0 0) 30 : B2 W0 w.heap.size).only (Only.of_below (fp := []) hb1) (by simp))
  have HD1 := Lib.hid (((Drawn.refl hc).below hb0).below (hb1.mono (Nat.le_refl _)))
  have HW : Hid (W1 = (w.alloc (.cells #[.int .i64 0, .slice none 0 0] 30)).alloc (.cells #[.int .i64 nz, .slice none 0 0] 30)) := Lib.hid (by rw [hW1, hW0])
  obtain ⟨Bf, hBf⟩ : ∃ B, B = W0.heap.size := ⟨_, rfl⟩
  rw [← hBf] at HI0 hs1
  have HBF := Lib.hid (show w.heap.size + 1 = Bf from by omega)
  have HS1 := Lib.hid (show W1.heap.size = w.heap.size + 2 from by omega)
  have HN := Lib.hid hnz
  have HDZ := Lib.hid hdz
  have hnb : 0 ≤ nz ∧ nz ≤ 6 := by omega
  obtain ⟨hn0, hn6⟩ := hnb
  clear hW0 hW1 hb0 hb1 hs0 hs1 hnz hBf hdz
  go_enter Tryz.func86, Tryz.ntmps86
  go_wp2
  rw [← HW.out, HBF.out]
  go_loopw [8] (fun si wq => ∃ (k : Nat) (u : Value) (xs : List (List MonZ)) (fs : List Nat), k ≤ n ∧ si = .int .i64 k ∧ FldD g W1 wq Bf nz u xs fs ∧ xs.length = k ∧ PolsIn n deg 3 xs) (fun si _ => n - (intOf si).toNat)
  case atStart => exact ⟨0, _, [], _, Nat.zero_le _, rfl, HI0.out, rfl, by intro p hp; cases hp⟩
  case round =>
    obtain ⟨wk, rfl⟩ : ∃ W, W = wr := ⟨_, rfl⟩
    obtain ⟨k, u, xs, fs0, hk, rfl, hI, hkl, hps⟩ := hrel
    clear HI0
    by_cases hlt : k < n
    case neg =>
      obtain rfl : k = n := by omega
      have hkI : ¬ ((k : Int) < nz) := by rw [HN.out]; omega
      have hi0 := hI.c0
      have hi1 := hI.c1
      obtain ⟨adu, lu, cu, rfl⟩ := ownMss_slice hI.own
      obtain ⟨⟨y0, hy0⟩, ⟨y1, hy1⟩, hyf0, hyf1⟩ := HR.out.only hI.only (by have := HBF.out; simp; omega)
      have HI := Lib.hid hI
      have HPS := Lib.hid hps
      clear hI hps
      go_wp2
      refine bodyPost_ret (v := .agg #[.int .i64 nz, .slice adu lu cu]) (by simp [results, Tryz.results86, go_sem, hy0, hy1]) rfl ?_
      have hO2 : Only [w.heap.size] wk ((wk.setCell ⟨w.heap.size, 0, none⟩ (.int .i64 nz)).setCell ⟨w.heap.size, 1, none⟩ (.slice adu lu cu)) := ((Only.refl _ _).setCell (by simp) _).setCell (by simp) _
      have hs1 := HS1.out
      have hbf := HBF.out
      have hOw : Only [g] w wk := by
        have h1 := HD1.out.only
        have h2 := HI.out.only
        refine ⟨h2.os.trans h1.os, h2.tape.trans h1.tape, h2.output.trans h1.output, Nat.le_trans h1.size h2.size, fun q hq hn => ?_⟩
        rw [h2.block q (by omega) (by simp at hn; simp; omega), h1.block q hq hn]
      exact ⟨_, ⟨nz, xs⟩, fs0, rfl, ⟨_, rfl, ⟨by show (-9223372036854775808 : Int) ≤ nz; omega, by show nz ≤ 9223372036854775807; omega⟩, ownMss_only HI.out.own hO2 (fun b hb hm => by have := HI.out.new b hb; simp at hm; omega)⟩, ⟨HN.out, hkl, HPS.out⟩, fun b hb => by { have := HI.out.new b hb; omega }, (Drawn.mk hOw HI.out.cur).newer hgl hO2 (by simp)⟩
    have hkI : (k : Int) < nz := by rw [HN.out]; omega
    have hdr : Below wk.heap.size wk wk.drew := (Below.refl _ _).drew
    have hId := hI.bel hdr
    have hi1 := hI.c1
    have HIK := Lib.hid hI
    have HM := Lib.hid (monomials_any g n 3 deg nz 3 dz HN.out rfl HDZ.out h1 h6 (by omega) hd5 wk.drew hId.cur)
    have HID := Lib.hid hId
    have HPS := Lib.hid hps
    have hsl : ∃ adu capu, u = .slice adu k capu ∧ k ≤ capu ∧ capu ≤ 9223372036854775807 := by
      obtain ⟨us, fs, hown, _⟩ := hI.own
      rw [hkl] at hown
      obtain ⟨adu, capu, rfl, h1, h2, _⟩ := row_open hown
      exact ⟨_, _, rfl, h1, h2⟩
    obtain ⟨adu, capu, rfl, hluc, hcum⟩ := hsl
    have hltD := ownMss_lt hId.own
    have hWk := hI.only.size
    have HLT := Lib.hid hltD
    have HKL := Lib.hid hkl
    clear hdr hId hI hps hltD hkl
    have HAP := Lib.hid (fun (wa : World) (q : Value) (Z : List ElS) (h : PolD g n deg wk.drew wa q Z) (hl3 : Z.length ≤ 3) => fldD_app (W := W1) HID.out HLT.out HKL.out HPS.out h hl3 (by show W1.heap.size ≤ wk.heap.size; exact hWk))
    go_wp2
    go_region_law (first | (go_simp; go_at_call 41; (with_reducible refine (HM.out).mono ?_); rintro e wa ⟨q, Z, rfl, hPq, hZl⟩; have hApp := HAP.out wa q Z hPq hZl; obtain ⟨hi1a, us, hNQ, gq, capq, rfl, hAp⟩ := hApp; have hi1b := cell_al (o := .cells #[.slice (some ⟨gq, 0, none⟩) Z.length capq] 24) hi1a; have HNQ := Lib.hid hNQ; have HAQ := Lib.hid hAp; clear hNQ hAp hPq) | (refine step_append_lies _ (by rfl) _ _ _ (by rfl) 0 24 j1 _ 1 24 Tryz.underlying28 hj1 hw0 hw1 hw2 rfl (by omega) (.slice adu k capu) k _ (by rfl) (HNQ.out.alloc _) ⟨wa.heap.size, 0, none⟩ 1 1 [.slice (some ⟨gq, 0, none⟩) Z.length capq] (by rfl) (by rfl) (World.news_of_block (cs := #[.slice (some ⟨gq, 0, none⟩) Z.length capq]) (t := 24) (fr := (0, 0)) (heap_alloc_new wa _)) (by simp [Value.oneCell']) (by omega) (by unfold maxLen; omega) (by omega) (by simp) (wa.heap.size + 1) (by simp) ?_; intro gg capn w2 hown1 hgrow hat hlt1; obtain ⟨hcB, hfB, fp', hP, hPl, hPI⟩ := HAQ.out w2 gg capn hown1 hgrow hat; have HPP := Lib.hid hP; clear hown1 hgrow hat hP))
    all_goals (
      go_wp2
      go_roundw
      case rel => exact ⟨k + 1, _, _, fp', by omega, by go_num, HPP.out, hPl, hPI⟩
      case measure => simp [intOf]; omega)
end Go.Proofs.YtbcjhpgkodeoeaaGreatDoor

/- The number 1000000271 is prime, and what is not zero has an inverse: Fermat's law. Plain: no program's step stands here. -/
namespace Go.Proofs.YtbcjhpgkodeoeaaGreatDoor

/-- Pascal's numbers. -/
def ch : Nat → Nat → Nat
  | _, 0 => 1
  | 0, _ + 1 => 0
  | n + 1, k + 1 => ch n k + ch n (k + 1)
theorem ch_zero (n : Nat) : ch n 0 = 1 := by cases n <;> rfl
theorem ch_succ (n k : Nat) : ch (n + 1) (k + 1) = ch n k + ch n (k + 1) := rfl
theorem ch_abs : ∀ n k, (k + 1) * ch (n + 1) (k + 1) = (n + 1) * ch n k
  | 0, 0 => rfl
  | 0, k + 1 => by simp [ch]
  | n + 1, 0 => by
    have h := ch_abs n 0
    rw [ch_succ, ch_zero]
    rw [ch_zero] at h
    omega
  | n + 1, j + 1 => by
    have h1 := ch_abs n j
    have h2 := ch_abs n (j + 1)
    rw [ch_succ (n + 1) (j + 1), Nat.mul_add, h2]
    have h3 : (j + 1 + 1) * ch (n + 1) (j + 1) = (n + 1) * ch n j + ch (n + 1) (j + 1) := by rw [← h1]; grind
    rw [h3, ch_succ n j]
    grind
theorem ch_out : ∀ n k, n < k → ch n k = 0
  | 0, k + 1, _ => rfl
  | n + 1, k + 1, h => by rw [ch_succ, ch_out n k (by omega), ch_out n (k + 1) (by omega)]
def chS (n x : Nat) : Nat → Nat
  | 0 => 0
  | m + 1 => chS n x m + ch n m * x ^ m
theorem chS_succ (n x : Nat) : ∀ m, chS (n + 1) x (m + 1) = chS n x (m + 1) + x * chS n x m
  | 0 => by simp [chS, ch_zero]
  | m + 1 => by
    rw [chS, chS_succ n x m, chS, chS, chS, ch_succ]
    grind
theorem chS_pow (x : Nat) : ∀ n, (x + 1) ^ n = chS n x (n + 1)
  | 0 => by simp [chS, ch]
  | n + 1 => by
    rw [chS_succ, Nat.pow_succ, chS_pow x n]
    have : chS n x (n + 1 + 1) = chS n x (n + 1) := by rw [chS, ch_out n (n + 1) (by omega)]; simp
    rw [this]
    grind
/-- Nothing divides it but 1 and itself. -/
def Prim (p : Nat) : Prop := 1 < p ∧ ∀ d, d ∣ p → d = 1 ∨ d = p
theorem prim_coprime {p k : Nat} (hp : Prim p) (hk : ¬ p ∣ k) : Nat.Coprime p k := by
  rcases hp.2 _ (Nat.gcd_dvd_left p k) with h | h
  · exact h
  · exact absurd (h ▸ Nat.gcd_dvd_right p k) hk
theorem prim_ch {p k : Nat} (hp : Prim p) (h0 : 0 < k) (hk : k < p) : p ∣ ch p k := by
  obtain ⟨n, rfl⟩ : ∃ n, p = n + 1 := ⟨p - 1, by omega⟩
  obtain ⟨j, rfl⟩ : ∃ j, k = j + 1 := ⟨k - 1, by omega⟩
  have h : (n + 1) ∣ (j + 1) * ch (n + 1) (j + 1) := ⟨ch n j, ch_abs n j⟩
  exact (prim_coprime hp (fun hd => by have := Nat.le_of_dvd (by omega) hd; omega)).dvd_of_dvd_mul_left h
theorem chS_mod {p x : Nat} (hp : Prim p) : ∀ m, m < p → chS p x (m + 1) % p = 1
  | 0, _ => by rw [chS, chS, ch_zero]; simp; exact Nat.mod_eq_of_lt hp.1
  | m + 1, h => by
    obtain ⟨c, hc⟩ := prim_ch hp (by omega : 0 < m + 1) h
    rw [chS, hc, Nat.mul_assoc, Nat.add_mul_mod_self_left]
    exact chS_mod hp m (by omega)
theorem ch_self : ∀ n, ch n n = 1
  | 0 => rfl
  | n + 1 => by rw [ch_succ, ch_self n, ch_out n (n + 1) (by omega)]
theorem fermat {p : Nat} (hp : Prim p) : ∀ a, a ^ p % p = a % p
  | 0 => by rw [Nat.zero_pow (by have := hp.1; omega)]
  | a + 1 => by
    have h2 := hp.1
    have h1 : chS p a (p + 1) = chS p a p + ch p p * a ^ p := rfl
    rw [chS_pow, h1, ch_self, Nat.one_mul]
    have h3 : chS p a p % p = 1 := by
      have := chS_mod (x := a) hp (p - 1) (by omega)
      rwa [show p - 1 + 1 = p by omega] at this
    rw [Nat.add_mod, h3, fermat hp a, ← Nat.add_mod_mod, Nat.mod_mod, Nat.add_comm a 1, Nat.add_mod_mod]
theorem fermat_one {p a : Nat} (hp : Prim p) (ha : ¬ p ∣ a) : a ^ (p - 1) % p = 1 := by
  have h2 := hp.1
  have h0 : 0 < a := Nat.pos_of_ne_zero fun h => ha (h ▸ Nat.dvd_zero p)
  have h1 := fermat hp a
  have hx : 1 ≤ a ^ (p - 1) := Nat.one_le_iff_ne_zero.2 (Nat.pos_iff_ne_zero.1 (Nat.pow_pos h0))
  have h3 : a ^ p = a * a ^ (p - 1) := by
    conv => lhs; rw [show p = p - 1 + 1 by omega]
    rw [Nat.pow_succ, Nat.mul_comm]
  have h4 : p ∣ a * (a ^ (p - 1) - 1) := by
    rw [Nat.mul_sub, Nat.mul_one, ← h3]
    exact Nat.dvd_of_mod_eq_zero (Nat.sub_mod_eq_zero_of_mod_eq h1)
  obtain ⟨c, hc⟩ := (prim_coprime hp ha).dvd_of_dvd_mul_left h4
  rw [show a ^ (p - 1) = 1 + p * c by omega, Nat.add_mul_mod_self_left]
  exact Nat.mod_eq_of_lt h2

theorem no_div : ((List.range 31624).all fun d => d < 2 || 1000000271 % d != 0) = true := by decide +kernel
theorem prime_p : Prim 1000000271 := by
  refine ⟨by omega, fun d hd => ?_⟩
  obtain ⟨e, he⟩ := hd
  have key : ∀ x y : Nat, 1000000271 = x * y → x ≤ y → x = 1 := fun x y h hxy => by
    have hx : x < 31624 := by
      apply Nat.lt_of_not_le
      intro hge
      have : 31624 * 31624 ≤ x * y := Nat.mul_le_mul hge (by omega)
      omega
    have := List.all_eq_true.1 no_div x (List.mem_range.2 hx)
    have hm : 1000000271 % x = 0 := Nat.mod_eq_zero_of_dvd ⟨y, h⟩
    simp [hm] at this
    rcases (by omega : x = 0 ∨ x = 1) with rfl | rfl
    · simp at h
    · rfl
  rcases Nat.le_total d e with h | h
  · exact .inl (key d e he h)
  · have := key e d (by rw [he, Nat.mul_comm]) h
    subst this
    omega
/-- What is not zero has an inverse. -/
theorem inv_one {a : Int} (h : a % 1000000271 ≠ 0) : timesZ a (powZ a 1000000269) = 1 := by
  obtain ⟨r, hr⟩ : ∃ r : Nat, a % 1000000271 = r := ⟨(a % 1000000271).toNat, by omega⟩
  have hf := fermat_one (a := r) prime_p (fun hd => by have := Nat.le_of_dvd (by omega) hd; omega)
  have hp : powZ a 1000000269 = a ^ (1000000269 : Nat) % 1000000271 := by unfold powZ; rw [if_neg (by omega)]; rfl
  have h1 : ∀ k : Nat, a ^ k % 1000000271 = (r : Int) ^ k % 1000000271 := fun k => by
    induction k with
    | zero => simp
    | succ k ih => rw [Int.pow_succ, Int.pow_succ, Int.mul_emod, ih, hr, Int.mul_emod (↑r ^ k), Int.emod_eq_of_lt (a := (r : Int)) (by omega) (by omega)]
  unfold timesZ
  rw [hp, Int.mul_emod, Int.emod_emod, ← Int.mul_emod, Int.mul_comm, ← Int.pow_succ, h1]
  have := congrArg (Nat.cast (R := Int)) hf
  simpa using this
#print axioms inv_one
end Go.Proofs.YtbcjhpgkodeoeaaGreatDoor

/- SymplecticForm of the reference and of the program. Conditions: lengths of slices up to 2^20. -/
namespace Go.Proofs.YtbcjhpgkodeoeaaGreatDoor
open Go.RowKit Go.Sort

theorem pathOk_facts {xs : List (List Int)} {n : Nat} (h : pathOkB xs n = true) : 1 ≤ xs.length ∧ xs.length ≤ 7 ∧ (∀ y ∈ xs, y.length = n) ∧ ∀ y ∈ xs, Nums y := by
  simp only [pathOkB, Bool.and_eq_true, decide_eq_true_eq, List.all_eq_true, rowOkB] at h
  refine ⟨h.1.1, h.1.2, fun y hy => by have := (h.2 y hy).1; omega, fun y hy x hx => ?_⟩
  have := (h.2 y hy).2 x hx
  simp only [isNumB, decide_eq_true_eq] at this
  omega
theorem colZ_len (xs : List (List Int)) (i : Nat) : (colZ xs i).length = xs.length := by simp [colZ]
theorem colZ_nums {xs : List (List Int)} (h : ∀ y ∈ xs, Nums y) (i : Nat) : Nums (colZ xs i) := fun x hx => by
  simp only [colZ, List.mem_map] at hx
  obtain ⟨y, hy, rfl⟩ := hx
  cases hc : y[i]? with
  | none => simp
  | some z => exact nums_at (h y hy) hc
theorem turnZ_get (xs : List (List Int)) {n i : Nat} (h : i < n) : (turnZ xs n)[i]? = some (colZ xs i) := by simp [turnZ, h]
theorem turnZ_len (xs : List (List Int)) (n : Nat) : (turnZ xs n).length = n := by simp [turnZ]

def hdL (u : List (List Int)) : Nat := (u.head?.getD []).length
def sfOkB (u v : List (List Int)) : Bool := decide (u.length ≠ 0 ∧ u.length = v.length) && (decide (hdL u % 2 = 0) && (pathOkB u (hdL u) && pathOkB v (hdL u)))
def sfStep (u v : List (List Int)) (n : Nat) (out : List Int) (i : Nat) : List Int := addJ (addJ out (mulZ (colZ u i) (colZ v (n + i))) 1) (mulZ (colZ u (n + i)) (colZ v i)) (-1)
def sfZ (u v : List (List Int)) (n : Nat) : Nat → List Int
  | 0 => List.replicate u.length 0
  | i + 1 => sfStep u v n (sfZ u v n i) i
def sympFormL (u v : List (List Int)) : List Int := if sfOkB u v then sfZ u v (hdL u / 2) (hdL u / 2) else []
theorem sfZ_len (u v : List (List Int)) (n i : Nat) : (sfZ u v n i).length = u.length := by
  induction i with
  | zero => simp [sfZ]
  | succ i ih => simp [sfZ, sfStep, addJ_len, ih]
theorem sfZ_nums (u v : List (List Int)) (n i : Nat) : Nums (sfZ u v n i) := by
  cases i with
  | zero => exact nums_zero _
  | succ i => exact nums_add _ _ _

theorem turn_get {w : World} {ad : Option Addr} {l cap n i : Nat} {xs : List (List Int)} (h : RdII w (.slice ad l cap) (turnZ xs n)) (hi : i < n) :
    ∃ b off ad' len' cap', ad = some ⟨b, off, none⟩ ∧ w.cell? ⟨b, off + i, none⟩ = some (.slice ad' len' cap') ∧ len' = xs.length ∧ RdI w (.slice ad' len' cap') (colZ xs i) := by
  obtain ⟨ad0, l0, cap0, he, hl, _, _, h'⟩ := rdS_open h
  simp only [Value.slice.injEq] at he
  obtain ⟨rfl, rfl, rfl⟩ := he
  rw [turnZ_len] at hl
  obtain ⟨b, off, ad', len', cap', y, rfl, hy, hcc, h6, _, _, h9, _⟩ := rdII_get h' (k := i) (by omega)
  rw [turnZ_get xs hi] at hy
  obtain rfl := Option.some.inj hy
  rw [colZ_len] at h6
  exact ⟨b, off, ad', len', cap', rfl, hcc, h6.symm, h9⟩

end Go.Proofs.YtbcjhpgkodeoeaaGreatDoor

/- What the derivative of a polynomial along directions computes, in plain lists; without directions it is a sum of products. Conditions: numbers. -/
namespace Go.Proofs.YtbcjhpgkodeoeaaGreatDoor
open Go.RowKit Go.Sort

def atL (l : List (List Int)) (i : Nat) : List Int := l[i]?.getD []
theorem atL_get {l : List (List Int)} {i : Nat} {x : List Int} (h : l[i]? = some x) : atL l i = x := by simp [atL, h]
def atLL (l : List (List (List Int))) (i : Nat) : List (List Int) := l[i]?.getD []
theorem atLL_get {l : List (List (List Int))} {i : Nat} {x : List (List Int)} (h : l[i]? = some x) : atLL l i = x := by simp [atLL, h]
def bitB (s d : Nat) : Bool := (s >>> d) &&& 1 == 1

/-- A set's part after d directions. -/
def derX (now y : List (List Int)) (al : List (List (List Int))) (v s : Nat) : Nat → List Int
  | 0 => mulZ (atL now s) (atL y v)
  | d + 1 => if bitB s d then addJ (derX now y al v s d) (mulZ (atL now (s ^^^ 1 <<< d)) (atL (atLL al d) v)) 1 else derX now y al v s d
/-- The sets' parts after one more factor; k sets done. -/
def derS (now y : List (List Int)) (al : List (List (List Int))) (v : Nat) : Nat → List (List Int)
  | 0 => now
  | k + 1 => (derS now y al v k).set (2 ^ al.length - 1 - k) (derX (derS now y al v k) y al v (2 ^ al.length - 1 - k) al.length)
/-- n factors of one variable -/
def derN (now y : List (List Int)) (al : List (List (List Int))) (v : Nat) : Nat → List (List Int)
  | 0 => now
  | n + 1 => derS (derN now y al v n) y al v (2 ^ al.length)
def derV (now y : List (List Int)) (al : List (List (List Int))) (ps : List Int) : Nat → List (List Int)
  | 0 => now
  | v + 1 => derN (derV now y al ps v) y al v (atZ ps v).toNat
def oneAt (c : Int) (size : Nat) : List Int := (List.replicate size 0).set 0 c
def derM (m : MonZ) (y : List (List Int)) (al : List (List (List Int))) (size : Nat) : List Int :=
  atL (derV ((List.replicate (2 ^ al.length) (List.replicate size 0)).set 0 (oneAt m.coef size)) y al m.pows m.pows.length) (2 ^ al.length - 1)
def derAdd (out : List Int) (m : MonZ) (y : List (List Int)) (al : List (List (List Int))) (size : Nat) : List Int :=
  if degZ m.pows < al.length then out else addJ out (derM m y al size) 1
def derP (p : List MonZ) (y : List (List Int)) (al : List (List (List Int))) (size : Nat) : Nat → List Int
  | 0 => List.replicate size 0
  | k + 1 => derAdd (derP p y al size k) (p[k]?.getD default) y al size
def derL (p : List MonZ) (y : List (List Int)) (al : List (List (List Int))) (size : Nat) : List Int := derP p y al size p.length

/-- A product of powers: n factors, then all variables. -/
def powN (y : List Int) (a : List Int) : Nat → List Int
  | 0 => a
  | n + 1 => mulZ (powN y a n) y
def powV (y : List (List Int)) (ps : List Int) (a : List Int) : Nat → List Int
  | 0 => a
  | v + 1 => powN (atL y v) (powV y ps a v) (atZ ps v).toNat
/-- The reference's derivative of a product of powers along vectors. -/
def oneS (y : List (List Int)) (ps : List Int) (v0 : List (List Int)) (rec : List Int → List Int) : Nat → List Int
  | 0 => List.replicate (hdL y) 0
  | i + 1 => if 0 < atZ ps i then addJ (oneS y ps v0 rec i) (mulZ (atL v0 i) (rec (ps.set i (atZ ps i - 1)))) (atZ ps i) else oneS y ps v0 rec i
def oneL (y : List (List Int)) : List (List (List Int)) → List Int → List Int
  | [], ps => powV y ps (oneAt 1 (hdL y)) ps.length
  | v :: vs, ps => oneS y ps v (oneL y vs) ps.length
def dervP (p : List MonZ) (y : List (List Int)) (vs : List (List (List Int))) : Nat → List Int
  | 0 => List.replicate (hdL y) 0
  | k + 1 => addJ (dervP p y vs k) (oneL y vs (p[k]?.getD default).pows) (p[k]?.getD default).coef
def dervL (p : List MonZ) (y : List (List Int)) (vs : List (List (List Int))) : List Int := dervP p y vs p.length

theorem modl (a b : Int) : (a % 1000000271 * b) % 1000000271 = (a * b) % 1000000271 := by rw [Int.mul_emod, Int.emod_emod, ← Int.mul_emod]
theorem modr (a b : Int) : (a * (b % 1000000271)) % 1000000271 = (a * b) % 1000000271 := by rw [Int.mul_emod, Int.emod_emod, ← Int.mul_emod]

def smulZ (c : Int) (xs : List Int) : List Int := xs.map fun x => timesZ x c
theorem smulZ_len (c : Int) (xs : List Int) : (smulZ c xs).length = xs.length := by simp [smulZ]
theorem smulZ_at (c : Int) (xs : List Int) (i : Nat) : atZ (smulZ c xs) i = timesZ (atZ xs i) c := by
  unfold atZ smulZ
  rw [List.getElem?_map]
  cases xs[i]? <;> simp [timesZ]
theorem mulRow_smul (c : Int) (out a b : List Int) (i j : Nat) : mulRow (smulZ c out) (smulZ c a) b i j = smulZ c (mulRow out a b i j) := by
  induction j with
  | zero => rfl
  | succ j ih =>
    rw [mulRow, mulRow, ih, smulZ_at, smulZ_at, smulZ, smulZ, List.map_set]
    congr 1
    simp only [plusZ, timesZ, modl, modr, Int.add_emod_emod, Int.emod_add_emod]
    congr 1
    grind
theorem mulCol_smul (c : Int) (a b : List Int) (i : Nat) : mulCol (smulZ c a) b i = smulZ c (mulCol a b i) := by
  induction i with
  | zero => simp [mulCol, smulZ, timesZ]
  | succ i ih => rw [mulCol, mulCol, ih, smulZ_len, mulRow_smul]
theorem mulZ_smul (c : Int) (a b : List Int) : mulZ (smulZ c a) b = smulZ c (mulZ a b) := by rw [mulZ, mulZ, smulZ_len, mulCol_smul]
theorem powN_smul (c : Int) (y a : List Int) (n : Nat) : powN y (smulZ c a) n = smulZ c (powN y a n) := by
  induction n with
  | zero => rfl
  | succ n ih => rw [powN, powN, ih, mulZ_smul]
theorem powV_smul (c : Int) (y : List (List Int)) (ps a : List Int) (v : Nat) : powV y ps (smulZ c a) v = smulZ c (powV y ps a v) := by
  induction v with
  | zero => rfl
  | succ v ih => rw [powV, powV, ih, powN_smul]
theorem addJ_smul (out x : List Int) (c : Int) : addJ out (smulZ c x) 1 = addJ out x c := by
  unfold addJ
  congr 1
  funext i
  rw [smulZ_at]
  simp only [plusZ, timesZ, modl, modr, Int.add_emod_emod, Int.emod_add_emod]
  congr 1
  grind
theorem oneAt_smul {c : Int} (h0 : 0 ≤ c) (h1 : c ≤ 1000000270) (n : Nat) : oneAt c n = smulZ c (oneAt 1 n) := by
  unfold oneAt smulZ
  rw [List.map_set, List.map_replicate]
  simp only [timesZ, Int.zero_mul, Int.one_mul]
  rw [Int.emod_eq_of_lt h0 (by omega)]
  rfl
theorem powN_len (y a : List Int) (n : Nat) : (powN y a n).length = a.length := by
  induction n with
  | zero => rfl
  | succ n ih => rw [powN, mulZ_len, ih]
theorem powV_len (y : List (List Int)) (ps a : List Int) (v : Nat) : (powV y ps a v).length = a.length := by
  induction v with
  | zero => rfl
  | succ v ih => rw [powV, powN_len, ih]
theorem oneAt_len (c : Int) (n : Nat) : (oneAt c n).length = n := by simp [oneAt]
theorem powN_nums {y a : List Int} (h : Nums a) (n : Nat) : Nums (powN y a n) := by
  cases n with
  | zero => exact h
  | succ n => exact mulZ_nums _ _
theorem powV_nums {y : List (List Int)} {ps a : List Int} (h : Nums a) (v : Nat) : Nums (powV y ps a v) := by
  induction v with
  | zero => exact h
  | succ v ih => exact powN_nums ih _
theorem oneAt_nums {c : Int} (h : 0 ≤ c ∧ c ≤ 1000000270) (n : Nat) : Nums (oneAt c n) := nums_set (nums_zero n) h
theorem oneS_len (y : List (List Int)) (ps : List Int) (v0 : List (List Int)) (rec : List Int → List Int) (i : Nat) : (oneS y ps v0 rec i).length = hdL y := by
  induction i with
  | zero => simp [oneS]
  | succ i ih => rw [oneS]; split <;> simp [addJ_len, ih]
theorem oneS_nums (y : List (List Int)) (ps : List Int) (v0 : List (List Int)) (rec : List Int → List Int) (i : Nat) : Nums (oneS y ps v0 rec i) := by
  induction i with
  | zero => exact nums_zero _
  | succ i ih => rw [oneS]; split; exact nums_add _ _ _; exact ih
theorem oneL_len (y : List (List Int)) (vs : List (List (List Int))) (ps : List Int) : (oneL y vs ps).length = hdL y := by
  cases vs with
  | nil => rw [oneL, powV_len, oneAt_len]
  | cons v vs => rw [oneL, oneS_len]
theorem oneL_nums (y : List (List Int)) (vs : List (List (List Int))) (ps : List Int) : Nums (oneL y vs ps) := by
  cases vs with
  | nil => rw [oneL]; exact powV_nums (oneAt_nums (by omega) _) _
  | cons v vs => rw [oneL]; exact oneS_nums _ _ _ _ _
theorem dervP_len (p : List MonZ) (y : List (List Int)) (vs : List (List (List Int))) (k : Nat) : (dervP p y vs k).length = hdL y := by
  induction k with
  | zero => simp [dervP]
  | succ k ih => rw [dervP, addJ_len, ih]
theorem dervP_nums (p : List MonZ) (y : List (List Int)) (vs : List (List (List Int))) (k : Nat) : Nums (dervP p y vs k) := by
  cases k with
  | zero => exact nums_zero _
  | succ k => exact nums_add _ _ _

-- lengths and numbers of the program's own
def AllJ (size : Nat) (l : List (List Int)) : Prop := ∀ x ∈ l, x.length = size ∧ Nums x
theorem allJ_at {size : Nat} {l : List (List Int)} (h : AllJ size l) {i : Nat} {x : List Int} (hx : l[i]? = some x) : x.length = size ∧ Nums x := h x (List.mem_of_getElem? hx)
theorem allJ_set {size : Nat} {l : List (List Int)} (h : AllJ size l) {i : Nat} {x : List Int} (hx : x.length = size ∧ Nums x) : AllJ size (l.set i x) := fun z hz => by
  rcases List.mem_or_eq_of_mem_set hz with hz | rfl
  · exact h z hz
  · exact hx
theorem derX_ok {now y : List (List Int)} {al : List (List (List Int))} {v s size : Nat} (h : (atL now s).length = size) (d : Nat) : (derX now y al v s d).length = size ∧ Nums (derX now y al v s d) := by
  induction d with
  | zero => exact ⟨by rw [derX, mulZ_len, h], mulZ_nums _ _⟩
  | succ d ih =>
    rw [derX]
    split
    · exact ⟨by rw [addJ_len, ih.1], nums_add _ _ _⟩
    · exact ih
theorem derS_len (now y : List (List Int)) (al : List (List (List Int))) (v k : Nat) : (derS now y al v k).length = now.length := by
  induction k with
  | zero => rfl
  | succ k ih => rw [derS, List.length_set, ih]
theorem derS_ok {now y : List (List Int)} {al : List (List (List Int))} {v size : Nat} (hl : now.length = 2 ^ al.length) (h : AllJ size now) (k : Nat) : AllJ size (derS now y al v k) := by
  induction k with
  | zero => exact h
  | succ k ih =>
    have hlt : 2 ^ al.length - 1 - k < (derS now y al v k).length := by
      rw [derS_len, hl]
      have := Nat.two_pow_pos al.length
      omega
    refine allJ_set ih (derX_ok ?_ _)
    rw [atL_get (List.getElem?_eq_getElem hlt)]
    exact (ih _ (List.getElem_mem hlt)).1
theorem derN_len (now y : List (List Int)) (al : List (List (List Int))) (v n : Nat) : (derN now y al v n).length = now.length := by
  induction n with
  | zero => rfl
  | succ n ih => rw [derN, derS_len, ih]
theorem derN_ok {now y : List (List Int)} {al : List (List (List Int))} {v size : Nat} (hl : now.length = 2 ^ al.length) (h : AllJ size now) (n : Nat) : AllJ size (derN now y al v n) := by
  induction n with
  | zero => exact h
  | succ n ih => exact derS_ok (by rw [derN_len, hl]) ih _
theorem derV_len (now y : List (List Int)) (al : List (List (List Int))) (ps : List Int) (v : Nat) : (derV now y al ps v).length = now.length := by
  induction v with
  | zero => rfl
  | succ v ih => rw [derV, derN_len, ih]
theorem derV_ok {now y : List (List Int)} {al : List (List (List Int))} {ps : List Int} {size : Nat} (hl : now.length = 2 ^ al.length) (h : AllJ size now) (v : Nat) : AllJ size (derV now y al ps v) := by
  induction v with
  | zero => exact h
  | succ v ih => exact derN_ok (by rw [derV_len, hl]) ih _
theorem derStart_ok {c : Int} (hc : 0 ≤ c ∧ c ≤ 1000000270) (n size : Nat) : AllJ size ((List.replicate n (List.replicate size (0 : Int))).set 0 (oneAt c size)) := by
  refine allJ_set (fun x hx => ?_) ⟨oneAt_len _ _, oneAt_nums hc _⟩
  rw [List.eq_of_mem_replicate hx]
  exact ⟨by simp, nums_zero _⟩
theorem derAdd_len (out : List Int) (m : MonZ) (y : List (List Int)) (al : List (List (List Int))) (size : Nat) : (derAdd out m y al size).length = out.length := by
  unfold derAdd
  split
  · rfl
  · rw [addJ_len]
theorem derP_len (p : List MonZ) (y : List (List Int)) (al : List (List (List Int))) (size k : Nat) : (derP p y al size k).length = size := by
  induction k with
  | zero => simp [derP]
  | succ k ih => rw [derP, derAdd_len, ih]
theorem derP_nums (p : List MonZ) (y : List (List Int)) (al : List (List (List Int))) (size k : Nat) : Nums (derP p y al size k) := by
  induction k with
  | zero => exact nums_zero _
  | succ k ih =>
    rw [derP, derAdd]
    split
    · exact ih
    · exact nums_add _ _ _

-- no directions
theorem derN_nil (a : List Int) (y : List (List Int)) (v n : Nat) : derN [a] y [] v n = [powN (atL y v) a n] := by
  induction n with
  | zero => rfl
  | succ n ih =>
    rw [derN, ih]
    simp [derS, derX, atL, powN]
theorem derV_nil (a : List Int) (y : List (List Int)) (ps : List Int) (v : Nat) : derV [a] y [] ps v = [powV y ps a v] := by
  induction v with
  | zero => rfl
  | succ v ih => rw [derV, ih, derN_nil, powV]
theorem derM_nil (m : MonZ) (y : List (List Int)) (size : Nat) : derM m y [] size = powV y m.pows (oneAt m.coef size) m.pows.length := by
  have : (List.replicate (2 ^ ([] : List (List (List Int))).length) (List.replicate size (0 : Int))).set 0 (oneAt m.coef size) = [oneAt m.coef size] := by simp
  rw [derM, this, derV_nil]
  simp [atL]
theorem degZ_nonneg {ps : List Int} (h : 0 ≤ degZ ps) : ¬ degZ ps < (([] : List (List (List Int))).length : Int) := by simp; exact h
theorem derP_nil (p : List MonZ) (y : List (List Int)) (size : Nat) (hs : size = hdL y) (hc : ∀ m ∈ p, 0 ≤ m.coef ∧ m.coef ≤ 1000000270 ∧ 0 ≤ degZ m.pows) :
    ∀ k, k ≤ p.length → derP p y [] size k = dervP p y [] k
  | 0, _ => by rw [derP, dervP, hs]
  | k + 1, hk => by
    have hm : p[k]? = some p[k] := List.getElem?_eq_getElem (by omega)
    obtain ⟨h0, h1, h2⟩ := hc p[k] (List.getElem_mem (by omega))
    rw [derP, dervP, derP_nil p y size hs hc k (by omega), derAdd, if_neg (by rw [hm]; exact degZ_nonneg h2), derM_nil, hm]
    simp only [Option.getD_some]
    rw [oneAt_smul h0 h1, powV_smul, addJ_smul, hs]
    rfl
theorem derL_nil {p : List MonZ} {y : List (List Int)} {size : Nat} (hs : size = hdL y) (hc : ∀ m ∈ p, 0 ≤ m.coef ∧ m.coef ≤ 1000000270 ∧ 0 ≤ degZ m.pows) : derL p y [] size = dervL p y [] := derP_nil p y size hs hc _ (Nat.le_refl _)
end Go.Proofs.YtbcjhpgkodeoeaaGreatDoor
