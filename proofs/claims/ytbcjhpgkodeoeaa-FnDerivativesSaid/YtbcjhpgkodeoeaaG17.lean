/- The texts DrwG, Fermat in one: each says at its head what it proves. Conditions: as said there. -/
import Derived.Deep.RegionLaw
import Derived.Deep.AppendLies
import Derived.Test.YtbcjhpgkodeoeaaG16
import Derived.Test.YtbcjhpgkodeoeaaG04
import Derived.Test.YtbcjhpgkodeoeaaG12
import Derived.Test.YtbcjhpgkodeoeaaG02
set_option linter.unusedSimpArgs false
set_option linter.unusedVariables false
/- Drawn fields. Conditions: a cursor. -/
namespace Go.Proofs.Ytbcjhpgkodeoeaa
open Go.RowKit Go.Sort

/-- Polynomials in order. -/
def PolsIn (n : Nat) (d : Int) (most : Nat) (xs : List (List MonZ)) : Prop := ∀ p ∈ xs, Canon p ∧ p.length ≤ most ∧ ∀ m ∈ p, MonIn n d m
/-- A field that is being drawn. -/
structure FldD (g : Nat) (W w : World) (Bf : Nat) (dim : Int) (v : Value) (xs : List (List MonZ)) (fs : List Nat) : Prop where
  own : OwnMss 63 80 3 w v xs fs
  new : ∀ b ∈ fs, W.heap.size ≤ b
  only : Only [Bf, g] W w
  cur : Cur w g
  c0 : w.cell? ⟨Bf, 0, none⟩ = some (.int .i64 dim)
  c1 : w.cell? ⟨Bf, 1, none⟩ = some v
  f1 : w.frozen? ⟨Bf, 1, none⟩ = false
  lt : Bf < W.heap.size
  gt : g < Bf
  lg : g < W.heap.size
theorem FldD.draw {g Bf : Nat} {dim : Int} {v : Value} {xs : List (List MonZ)} {fs : List Nat} {W w w' : World} (h : FldD g W w Bf dim v xs fs) (hd : Drawn g w w') : FldD g W w' Bf dim v xs fs := by
  have hb : Bf ∉ [g] := by have := h.gt; simp; omega
  have hl := World.block_lt_of_cell? _ _ h.c1
  have hg := h.lg
  exact ⟨ownMss_only h.own hd.only (fun b hb => by have := h.new b hb; simp; omega), h.new, h.only.trans (hd.only.mono (by intro b hb; simp at hb; simp [hb])), hd.cur, cell_only hd.only hb h.c0, cell_only hd.only hb h.c1, (World.frozen?_of_block (hd.only.block _ hl hb)).trans h.f1, h.lt, h.gt, h.lg⟩
theorem FldD.bel {g Bf : Nat} {dim : Int} {v : Value} {xs : List (List MonZ)} {fs : List Nat} {W w w' : World} (h : FldD g W w Bf dim v xs fs) (hb : Below w.heap.size w w') : FldD g W w' Bf dim v xs fs := h.draw ((Drawn.refl h.cur).below hb)
/-- Behind a call, an append to the parts, and the store of the new slice of parts. -/
theorem FldD.push {g Bf : Nat} {dim : Int} {v v' p : Value} {xs : List (List MonZ)} {x : List MonZ} {us : List (List Value)} {fs f : List Nat} {n : Nat} {W w w1 w2 : World}
    (h : FldD g W w Bf dim v xs (v.ownBlock.toList ++ fs)) (hone : ∀ u ∈ us, u.length = 1) (hels : OwnEls (OElMss 80 3) w us xs fs) (hnd : (v.ownBlock.toList ++ fs).Nodup) (hown0 : w.ownsRow 0 63 1 v xs.length us.flatten) (hn : xs.length = n)
    (hp : OwnMs 80 3 w p x f) (hf : ∀ b ∈ f, W.heap.size ≤ b ∧ b ∉ v.ownBlock.toList ++ fs) (h1 : Below w.heap.size w w1) (hown : w2.ownsRow 0 63 1 v' (n + 1) (us.flatten ++ [p])) (hg : w1.grownBy w2 v.ownBlock)
    (hv : ∀ b, v'.ownBlock = some b → v.ownBlock = some b ∨ w1.heap.size ≤ b) :
    w2.cell? ⟨Bf, 1, none⟩ = some v ∧ w2.frozen? ⟨Bf, 1, none⟩ = false ∧ ∃ fp', FldD g W (w2.setCell ⟨Bf, 1, none⟩ v') Bf dim v' (xs ++ [x]) fp' := by
  have hlt : ∀ b ∈ v.ownBlock.toList ++ fs, b < w.heap.size := fun b hb => by
    simp only [List.mem_append, Option.mem_toList] at hb
    rcases hb with hb | hb
    · exact (hown0.lt b hb).2
    · exact ownEls_lt (fun _ _ _ h => oelMss_lt h) hels b hb
  have hWw := h.only.size
  have h11 := h1.size
  have hBlt := h.lt
  have hgl := h.lg
  obtain ⟨fp', hP, hfp, hO⟩ := ownS_push2 (El := OElMss 80 3) (w := w) (w1 := w1) (f := f) (fs := fs) (fun w w' u x f g h ho hd => oelMss_only h ho hd) hone hels hnd ⟨p, rfl, hp⟩ rfl
    (fun b hb => (hf b hb).2) (ownMs_nodup hp) (ownMs_lt hp) (fun b hb => hlt b (by simp [hb])) hn h1 hown hg hv
  have hBn : Bf ∉ v.ownBlock.toList := fun hm => by have := h.new Bf (by simp only [List.mem_append]; left; exact hm); omega
  have hgn : g ∉ v.ownBlock.toList := fun hm => by have := h.new g (by simp only [List.mem_append]; left; exact hm); omega
  have hvn : ∀ b ∈ v.ownBlock.toList, W.heap.size ≤ b := fun b hb => h.new b (by simp only [List.mem_append]; exact .inl hb)
  have hfn : ∀ b ∈ fp', W.heap.size ≤ b := fun b hb => by
    rcases hfp b hb with h2 | h2 | h2
    · exact h.new b h2
    · exact (hf b h2).1
    · omega
  have hSt : Only [Bf] w2 (w2.setCell ⟨Bf, 1, none⟩ v') := (Only.refl _ _).setCell (by simp) _
  have hc1 := cell_only hO hBn h.c1
  have hc0 := cell_only hO hBn h.c0
  have hf1 : w2.frozen? ⟨Bf, 1, none⟩ = false := (World.frozen?_of_block (hO.block Bf (by omega) hBn)).trans h.f1
  have hcu : Cur w2 g := h.cur.only hO hgn (fun b hb => by have := hvn b hb; omega)
  refine ⟨hc1, hf1, fp', ⟨ownMss_only hP hSt (fun b hb hm => by have := hfn b hb; simp at hm; omega), hfn, ?_, ?_, ?_, World.cell?_setCell_same _ _ _ hc1, ?_, hBlt, h.gt, h.lg⟩⟩
  · refine ⟨by rw [hSt.os, hO.os, h.only.os], by rw [hSt.tape, hO.tape, h.only.tape], by rw [hSt.output, hO.output, h.only.output], by have := hSt.size; have := hO.size; omega, fun k hk hn => ?_⟩
    rw [hSt.block k (by have := hO.size; omega) (fun hm => hn (by simp at hm; simp [hm])), hO.block k (by omega) (fun hm => by have := hvn k hm; omega), h.only.block k hk hn]
  · exact hcu.only hSt (by have := h.gt; simp; omega) (fun b hb => by have := h.gt; simp at hb; omega)
  · exact (World.cell?_setCell_other _ _ _ _ (by simp)).trans hc0
  · rw [World.frozen?_setCell]; exact hf1
theorem fldD_start {g n : Nat} {w : World} {dim : Int} {W : World} (hW : W = w.alloc (.cells #[.int .i64 dim, .slice none 0 0] 29)) (hc : Cur w g) : FldD g W W w.heap.size dim (.slice none 0 0) [] [] := by
  have hl := hc.lt
  have hcW : Cur W g := hW ▸ hc.below ((Below.refl _ _).alloc (Nat.le_refl _) _)
  have hlW := hcW.lt
  refine ⟨⟨[], [], World.ownsRow_nil _ _ _ _, by simp, rfl, rfl, by simp⟩, by simp, Only.refl _ _, hcW, ?_, ?_, ?_, ?_, hl, hlW⟩ <;> rw [hW] <;> simp

/-- What a drawn field is. -/
def FldIn (n : Nat) (d : Int) (f : FldZ) : Prop := f.dim = n ∧ f.parts.length = n ∧ PolsIn n d 3 f.parts
theorem fldIn_ok {n : Nat} {d : Int} {f : FldZ} (h : FldIn n d f) (h1 : 1 ≤ n) (h6 : n ≤ 6) (hd : d ≤ 5) : fldOkB f = true := by
  obtain ⟨hf, hl, hp⟩ := h
  rw [fldOkB_all (by simp [dimB, hf]; omega) (by rw [hf, hl]), List.all_eq_true]
  intro p hm
  obtain ⟨h2, h3, h4⟩ := hp p hm
  rw [hf]
  exact polyOk_canon h1 h6 h2 (by omega) (fun m hm => ⟨(h4 m hm).1, (h4 m hm).2.1, by have := (h4 m hm).2.2; omega⟩)
def DrawsFld (g n : Nat) (d : Int) (w : World) : Ending → World → Prop := fun e w' => ∃ v f fp, e = .returned v ∧ OwnFld 63 80 3 w' v f fp ∧ FldIn n d f ∧ (∀ b ∈ fp, w.heap.size ≤ b) ∧ Drawn g w w'

/-- Behind the draw of a part: what an append of it leaves. -/
theorem fldD_app {g Bf n k capu : Nat} {d dim : Int} {adu : Option Addr} {xs : List (List MonZ)} {fs0 : List Nat} {W wk wa : World} {q : Value} {Z : List ElS} (hI : FldD g W wk Bf dim (.slice adu k capu) xs fs0) (hlt : ∀ b ∈ fs0, b < wk.heap.size) (hkl : xs.length = k) (hps : PolsIn n d 3 xs)
    (h : PolD g n d wk wa q Z) (hl3 : Z.length ≤ 3) (hW : W.heap.size ≤ wk.heap.size) :
    wa.cell? ⟨Bf, 1, none⟩ = some (.slice adu k capu) ∧ ∃ us : List (List Value), wa.ownsRow 0 63 1 (.slice adu k capu) k us.flatten ∧ ∃ gq capq, q = .slice (some ⟨gq, 0, none⟩) Z.length capq ∧
      ∀ (w2 : World) (gg capn : Nat), w2.ownsRow 0 63 1 (.slice (some ⟨gg, 0, none⟩) (k + 1) capn) (k + 1) (us.flatten ++ [.slice (some ⟨gq, 0, none⟩) Z.length capq]) → (wa.alloc (.cells #[.slice (some ⟨gq, 0, none⟩) Z.length capq] 63)).grownBy w2 (Value.slice adu k capu).ownBlock →
        ((Value.slice adu k capu).ownBlock = some gg ∨ gg = wa.heap.size + 1) → w2.cell? ⟨Bf, 1, none⟩ = some (.slice adu k capu) ∧ w2.frozen? ⟨Bf, 1, none⟩ = false ∧ ∃ fp', FldD g W (w2.setCell ⟨Bf, 1, none⟩ (.slice (some ⟨gg, 0, none⟩) (k + 1) capn)) Bf dim (.slice (some ⟨gg, 0, none⟩) (k + 1) capn) (xs ++ [Z.map monS]) fp' ∧
          (xs ++ [Z.map monS]).length = k + 1 ∧ PolsIn n d 3 (xs ++ [Z.map monS]) := by
  have hIa := hI.draw h.drawn
  obtain ⟨us, fs, hown, hone, hels, rfl, hnd⟩ := hIa.own
  obtain ⟨gq, capq, rfl⟩ := h.shape
  have hown' := hown
  rw [hkl] at hown'
  refine ⟨hIa.c1, us, hown', gq, capq, rfl, fun w2 gg capn h1 h2 h3 => ?_⟩
  obtain ⟨k1, k2, fp', k3⟩ := hIa.push hone hels hnd hown hkl h.own (fun b hb => ⟨by have := h.new b hb; omega, fun hm => by have := h.new b hb; have := hlt b hm; omega⟩) ((Below.refl _ _).alloc (Nat.le_refl _) _) h1 h2 (fun b hb => by
    simp [Value.ownBlock] at hb
    subst hb
    rcases h3 with h3 | h3
    · left; exact h3
    · right; rw [h3]; simp)
  refine ⟨k1, k2, fp', k3, by simp [hkl], fun p hp => ?_⟩
  rcases List.mem_append.1 hp with hp | hp
  · exact hps p hp
  · rw [List.mem_singleton.1 hp]
    exact ⟨h.canon, by simpa using hl3, fun m hm => by
      obtain ⟨z, hz, rfl⟩ := List.mem_map.1 hm
      exact h.mons z hz⟩

set_option maxRecDepth 100000 in
set_option maxHeartbeats 12800000 in
theorem field_any (g n deg : Nat) (nz dz : Int) (hnz : nz = n) (hdz : dz = deg) (h1 : 1 ≤ n) (h6 : n ≤ 6) (hd5 : deg ≤ 12) (w : World) (hc : Cur w g) :
    Calls Try.prog 14 #[.pointer (some ⟨g, 0, none⟩), .int .i64 nz, .int .i64 dz] w (DrawsFld g n deg w) := by
  obtain ⟨j1, hj1, hw0, hw1, hw2⟩ := info_parts Try.info_mons
  have hgl := hc.lt
  obtain ⟨W0, hW0⟩ : ∃ W, W = w.alloc (.cells #[.int .i64 0, .slice none 0 0] 29) := ⟨_, rfl⟩
  have hb0 : Below w.heap.size w W0 := hW0 ▸ (Below.refl _ _).alloc (Nat.le_refl _) _
  have hs0 : W0.heap.size = w.heap.size + 1 := by rw [hW0]; simp
  obtain ⟨W1, hW1⟩ : ∃ W, W = W0.alloc (.cells #[.int .i64 nz, .slice none 0 0] 29) := ⟨_, rfl⟩
  have hb1 : Below W0.heap.size W0 W1 := hW1 ▸ (Below.refl _ _).alloc (Nat.le_refl _) _
  have hs1 : W1.heap.size = W0.heap.size + 1 := by rw [hW1]; simp
  have HI0 := Lib.hid (fldD_start (n := n) hW1 (hc.below hb0))
  have HR := Lib.hid (show B2 W1 w.heap.size from (hW0 ▸ B2.new w (.int .i64 0) (.slice none 0 0) 29 : B2 W0 w.heap.size).only (Only.of_below (fp := []) hb1) (by simp))
  have HD1 := Lib.hid (((Drawn.refl hc).below hb0).below (hb1.mono (Nat.le_refl _)))
  have HW : Hid (W1 = (w.alloc (.cells #[.int .i64 0, .slice none 0 0] 29)).alloc (.cells #[.int .i64 nz, .slice none 0 0] 29)) := Lib.hid (by rw [hW1, hW0])
  obtain ⟨Bf, hBf⟩ : ∃ B, B = W0.heap.size := ⟨_, rfl⟩
  rw [← hBf] at HI0 hs1
  have HBF := Lib.hid (show w.heap.size + 1 = Bf from by omega)
  have HS1 := Lib.hid (show W1.heap.size = w.heap.size + 2 from by omega)
  have HN := Lib.hid hnz
  have HDZ := Lib.hid hdz
  have hnb : 0 ≤ nz ∧ nz ≤ 6 := by omega
  obtain ⟨hn0, hn6⟩ := hnb
  clear hW0 hW1 hb0 hb1 hs0 hs1 hnz hBf hdz
  go_enter Try.func14, Try.ntmps14
  go_wp2
  rw [← HW.out, HBF.out]
  go_loopw [8] (fun si wq => ∃ (k : Nat) (u : Value) (xs : List (List MonZ)) (fs : List Nat), k ≤ n ∧ si = .int .i64 k ∧ FldD g W1 wq Bf nz u xs fs ∧ xs.length = k ∧ PolsIn n deg 3 xs) (fun si _ => n - (intOf si).toNat)
  case atStart => exact ⟨0, _, [], _, Nat.zero_le _, rfl, HI0.out, rfl, by intro p hp; cases hp⟩
  case round =>
    obtain ⟨wk, rfl⟩ : ∃ W, W = wr := ⟨_, rfl⟩
    obtain ⟨k, u, xs, fs0, hk, rfl, hI, hkl, hps⟩ := hrel
    clear HI0
    by_cases hlt : k < n
    case neg =>
      obtain rfl : k = n := by omega
      have hkI : ¬ ((k : Int) < nz) := by rw [HN.out]; omega
      have hi0 := hI.c0
      have hi1 := hI.c1
      obtain ⟨adu, lu, cu, rfl⟩ := ownMss_slice hI.own
      obtain ⟨⟨y0, hy0⟩, ⟨y1, hy1⟩, hyf0, hyf1⟩ := HR.out.only hI.only (by have := HBF.out; simp; omega)
      have HI := Lib.hid hI
      have HPS := Lib.hid hps
      clear hI hps
      go_wp2
      refine bodyPost_ret (v := .agg #[.int .i64 nz, .slice adu lu cu]) (by simp [results, Try.results14, go_sem, hy0, hy1]) rfl ?_
      have hO2 : Only [w.heap.size] wk ((wk.setCell ⟨w.heap.size, 0, none⟩ (.int .i64 nz)).setCell ⟨w.heap.size, 1, none⟩ (.slice adu lu cu)) := ((Only.refl _ _).setCell (by simp) _).setCell (by simp) _
      have hs1 := HS1.out
      have hbf := HBF.out
      have hOw : Only [g] w wk := by
        have h1 := HD1.out.only
        have h2 := HI.out.only
        refine ⟨h2.os.trans h1.os, h2.tape.trans h1.tape, h2.output.trans h1.output, Nat.le_trans h1.size h2.size, fun q hq hn => ?_⟩
        rw [h2.block q (by omega) (by simp at hn; simp; omega), h1.block q hq hn]
      exact ⟨_, ⟨nz, xs⟩, fs0, rfl, ⟨_, rfl, ⟨by show (-9223372036854775808 : Int) ≤ nz; omega, by show nz ≤ 9223372036854775807; omega⟩, ownMss_only HI.out.own hO2 (fun b hb hm => by have := HI.out.new b hb; simp at hm; omega)⟩, ⟨HN.out, hkl, HPS.out⟩, fun b hb => by { have := HI.out.new b hb; omega }, (Drawn.mk hOw HI.out.cur).newer hgl hO2 (by simp)⟩
    have hkI : (k : Int) < nz := by rw [HN.out]; omega
    have hdr : Below wk.heap.size wk wk.drew := (Below.refl _ _).drew
    have hId := hI.bel hdr
    have hi1 := hI.c1
    have HIK := Lib.hid hI
    have HM := Lib.hid (monomials_any g n 3 deg nz 3 dz HN.out rfl HDZ.out h1 h6 (by omega) hd5 wk.drew hId.cur)
    have HID := Lib.hid hId
    have HPS := Lib.hid hps
    have hsl : ∃ adu capu, u = .slice adu k capu ∧ k ≤ capu ∧ capu ≤ 9223372036854775807 := by
      obtain ⟨us, fs, hown, _⟩ := hI.own
      rw [hkl] at hown
      obtain ⟨adu, capu, rfl, h1, h2, _⟩ := row_open hown
      exact ⟨_, _, rfl, h1, h2⟩
    obtain ⟨adu, capu, rfl, hluc, hcum⟩ := hsl
    have hltD := ownMss_lt hId.own
    have hWk := hI.only.size
    have HLT := Lib.hid hltD
    have HKL := Lib.hid hkl
    clear hdr hId hI hps hltD hkl
    have HAP := Lib.hid (fun (wa : World) (q : Value) (Z : List ElS) (h : PolD g n deg wk.drew wa q Z) (hl3 : Z.length ≤ 3) => fldD_app (W := W1) HID.out HLT.out HKL.out HPS.out h hl3 (by show W1.heap.size ≤ wk.heap.size; exact hWk))
    go_wp2
    go_region_law (first | (go_simp; go_at_call 30; (with_reducible refine (HM.out).mono ?_); rintro e wa ⟨q, Z, rfl, hPq, hZl⟩; have hApp := HAP.out wa q Z hPq hZl; obtain ⟨hi1a, us, hNQ, gq, capq, rfl, hAp⟩ := hApp; have hi1b := cell_al (o := .cells #[.slice (some ⟨gq, 0, none⟩) Z.length capq] 63) hi1a; have HNQ := Lib.hid hNQ; have HAQ := Lib.hid hAp; clear hNQ hAp hPq) | (refine step_append_lies _ (by rfl) _ _ _ (by rfl) 0 63 j1 _ 1 24 Try.underlying27 hj1 hw0 hw1 hw2 rfl (by omega) (.slice adu k capu) k _ (by rfl) (HNQ.out.alloc _) ⟨wa.heap.size, 0, none⟩ 1 1 [.slice (some ⟨gq, 0, none⟩) Z.length capq] (by rfl) (by rfl) (World.news_of_block (cs := #[.slice (some ⟨gq, 0, none⟩) Z.length capq]) (t := 63) (fr := (0, 0)) (heap_alloc_new wa _)) (by simp [Value.oneCell']) (by omega) (by unfold maxLen; omega) (by omega) (by simp) (wa.heap.size + 1) (by simp) ?_; intro gg capn w2 hown1 hgrow hat hlt1; obtain ⟨hcB, hfB, fp', hP, hPl, hPI⟩ := HAQ.out w2 gg capn hown1 hgrow hat; have HPP := Lib.hid hP; clear hown1 hgrow hat hP))
    all_goals (
      go_wp2
      go_roundw
      case rel => exact ⟨k + 1, _, _, fp', by omega, by go_num, HPP.out, hPl, hPI⟩
      case measure => simp [intOf]; omega)
end Go.Proofs.Ytbcjhpgkodeoeaa

/- The number 1000000271 is prime, and what is not zero has an inverse: Fermat's law. Plain: no program's step stands here. -/
namespace Go.Proofs.Ytbcjhpgkodeoeaa

/-- Pascal's numbers. -/
def ch : Nat → Nat → Nat
  | _, 0 => 1
  | 0, _ + 1 => 0
  | n + 1, k + 1 => ch n k + ch n (k + 1)
theorem ch_zero (n : Nat) : ch n 0 = 1 := by cases n <;> rfl
theorem ch_succ (n k : Nat) : ch (n + 1) (k + 1) = ch n k + ch n (k + 1) := rfl
theorem ch_abs : ∀ n k, (k + 1) * ch (n + 1) (k + 1) = (n + 1) * ch n k
  | 0, 0 => rfl
  | 0, k + 1 => by simp [ch]
  | n + 1, 0 => by
    have h := ch_abs n 0
    rw [ch_succ, ch_zero]
    rw [ch_zero] at h
    omega
  | n + 1, j + 1 => by
    have h1 := ch_abs n j
    have h2 := ch_abs n (j + 1)
    rw [ch_succ (n + 1) (j + 1), Nat.mul_add, h2]
    have h3 : (j + 1 + 1) * ch (n + 1) (j + 1) = (n + 1) * ch n j + ch (n + 1) (j + 1) := by rw [← h1]; grind
    rw [h3, ch_succ n j]
    grind
theorem ch_out : ∀ n k, n < k → ch n k = 0
  | 0, k + 1, _ => rfl
  | n + 1, k + 1, h => by rw [ch_succ, ch_out n k (by omega), ch_out n (k + 1) (by omega)]
def chS (n x : Nat) : Nat → Nat
  | 0 => 0
  | m + 1 => chS n x m + ch n m * x ^ m
theorem chS_succ (n x : Nat) : ∀ m, chS (n + 1) x (m + 1) = chS n x (m + 1) + x * chS n x m
  | 0 => by simp [chS, ch_zero]
  | m + 1 => by
    rw [chS, chS_succ n x m, chS, chS, chS, ch_succ]
    grind
theorem chS_pow (x : Nat) : ∀ n, (x + 1) ^ n = chS n x (n + 1)
  | 0 => by simp [chS, ch]
  | n + 1 => by
    rw [chS_succ, Nat.pow_succ, chS_pow x n]
    have : chS n x (n + 1 + 1) = chS n x (n + 1) := by rw [chS, ch_out n (n + 1) (by omega)]; simp
    rw [this]
    grind
/-- Nothing divides it but 1 and itself. -/
def Prim (p : Nat) : Prop := 1 < p ∧ ∀ d, d ∣ p → d = 1 ∨ d = p
theorem prim_coprime {p k : Nat} (hp : Prim p) (hk : ¬ p ∣ k) : Nat.Coprime p k := by
  rcases hp.2 _ (Nat.gcd_dvd_left p k) with h | h
  · exact h
  · exact absurd (h ▸ Nat.gcd_dvd_right p k) hk
theorem prim_ch {p k : Nat} (hp : Prim p) (h0 : 0 < k) (hk : k < p) : p ∣ ch p k := by
  obtain ⟨n, rfl⟩ : ∃ n, p = n + 1 := ⟨p - 1, by omega⟩
  obtain ⟨j, rfl⟩ : ∃ j, k = j + 1 := ⟨k - 1, by omega⟩
  have h : (n + 1) ∣ (j + 1) * ch (n + 1) (j + 1) := ⟨ch n j, ch_abs n j⟩
  exact (prim_coprime hp (fun hd => by have := Nat.le_of_dvd (by omega) hd; omega)).dvd_of_dvd_mul_left h
theorem chS_mod {p x : Nat} (hp : Prim p) : ∀ m, m < p → chS p x (m + 1) % p = 1
  | 0, _ => by rw [chS, chS, ch_zero]; simp; exact Nat.mod_eq_of_lt hp.1
  | m + 1, h => by
    obtain ⟨c, hc⟩ := prim_ch hp (by omega : 0 < m + 1) h
    rw [chS, hc, Nat.mul_assoc, Nat.add_mul_mod_self_left]
    exact chS_mod hp m (by omega)
theorem ch_self : ∀ n, ch n n = 1
  | 0 => rfl
  | n + 1 => by rw [ch_succ, ch_self n, ch_out n (n + 1) (by omega)]
theorem fermat {p : Nat} (hp : Prim p) : ∀ a, a ^ p % p = a % p
  | 0 => by rw [Nat.zero_pow (by have := hp.1; omega)]
  | a + 1 => by
    have h2 := hp.1
    have h1 : chS p a (p + 1) = chS p a p + ch p p * a ^ p := rfl
    rw [chS_pow, h1, ch_self, Nat.one_mul]
    have h3 : chS p a p % p = 1 := by
      have := chS_mod (x := a) hp (p - 1) (by omega)
      rwa [show p - 1 + 1 = p by omega] at this
    rw [Nat.add_mod, h3, fermat hp a, ← Nat.add_mod_mod, Nat.mod_mod, Nat.add_comm a 1, Nat.add_mod_mod]
theorem fermat_one {p a : Nat} (hp : Prim p) (ha : ¬ p ∣ a) : a ^ (p - 1) % p = 1 := by
  have h2 := hp.1
  have h0 : 0 < a := Nat.pos_of_ne_zero fun h => ha (h ▸ Nat.dvd_zero p)
  have h1 := fermat hp a
  have hx : 1 ≤ a ^ (p - 1) := Nat.one_le_iff_ne_zero.2 (Nat.pos_iff_ne_zero.1 (Nat.pow_pos h0))
  have h3 : a ^ p = a * a ^ (p - 1) := by
    conv => lhs; rw [show p = p - 1 + 1 by omega]
    rw [Nat.pow_succ, Nat.mul_comm]
  have h4 : p ∣ a * (a ^ (p - 1) - 1) := by
    rw [Nat.mul_sub, Nat.mul_one, ← h3]
    exact Nat.dvd_of_mod_eq_zero (Nat.sub_mod_eq_zero_of_mod_eq h1)
  obtain ⟨c, hc⟩ := (prim_coprime hp ha).dvd_of_dvd_mul_left h4
  rw [show a ^ (p - 1) = 1 + p * c by omega, Nat.add_mul_mod_self_left]
  exact Nat.mod_eq_of_lt h2

theorem no_div : ((List.range 31624).all fun d => d < 2 || 1000000271 % d != 0) = true := by decide +kernel
theorem prime_p : Prim 1000000271 := by
  refine ⟨by omega, fun d hd => ?_⟩
  obtain ⟨e, he⟩ := hd
  have key : ∀ x y : Nat, 1000000271 = x * y → x ≤ y → x = 1 := fun x y h hxy => by
    have hx : x < 31624 := by
      apply Nat.lt_of_not_le
      intro hge
      have : 31624 * 31624 ≤ x * y := Nat.mul_le_mul hge (by omega)
      omega
    have := List.all_eq_true.1 no_div x (List.mem_range.2 hx)
    have hm : 1000000271 % x = 0 := Nat.mod_eq_zero_of_dvd ⟨y, h⟩
    simp [hm] at this
    rcases (by omega : x = 0 ∨ x = 1) with rfl | rfl
    · simp at h
    · rfl
  rcases Nat.le_total d e with h | h
  · exact .inl (key d e he h)
  · have := key e d (by rw [he, Nat.mul_comm]) h
    subst this
    omega
/-- What is not zero has an inverse. -/
theorem inv_one {a : Int} (h : a % 1000000271 ≠ 0) : timesZ a (powZ a 1000000269) = 1 := by
  obtain ⟨r, hr⟩ : ∃ r : Nat, a % 1000000271 = r := ⟨(a % 1000000271).toNat, by omega⟩
  have hf := fermat_one (a := r) prime_p (fun hd => by have := Nat.le_of_dvd (by omega) hd; omega)
  have hp : powZ a 1000000269 = a ^ (1000000269 : Nat) % 1000000271 := by unfold powZ; rw [if_neg (by omega)]; rfl
  have h1 : ∀ k : Nat, a ^ k % 1000000271 = (r : Int) ^ k % 1000000271 := fun k => by
    induction k with
    | zero => simp
    | succ k ih => rw [Int.pow_succ, Int.pow_succ, Int.mul_emod, ih, hr, Int.mul_emod (↑r ^ k), Int.emod_eq_of_lt (a := (r : Int)) (by omega) (by omega)]
  unfold timesZ
  rw [hp, Int.mul_emod, Int.emod_emod, ← Int.mul_emod, Int.mul_comm, ← Int.pow_succ, h1]
  have := congrArg (Nat.cast (R := Int)) hf
  simpa using this
#print axioms inv_one
end Go.Proofs.Ytbcjhpgkodeoeaa
