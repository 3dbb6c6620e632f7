/- An array of polynomials in h whose rows are replaced one by one; slices of slices of slices of numbers. Conditions: none. -/
import Derived.Test.YtbcjhpgkodeoeaaGreatDoorN20
import Derived.Test.YtbcjhpgkodeoeaaGreatDoorN10
set_option linter.unusedSimpArgs false
set_option linter.unusedVariables false

namespace Go.Proofs.YtbcjhpgkodeoeaaGreatDoor
open Go.RowKit Go.Sort

def ElIII (w : World) (us : List Value) (x : List (List Int)) : Prop := ∃ u, us = [u] ∧ RdII w u x
/-- [][][]int -/
abbrev RdIII := RdS 1 ElIII
theorem elIII_mono {w w' : World} {us : List Value} {x : List (List Int)} (hb : Below w.heap.size w w') (h : ElIII w us x) : ElIII w' us x := by
  obtain ⟨u, rfl, h⟩ := h
  exact ⟨u, rfl, rdII_mono hb h⟩
theorem rdIII_mono {w w' : World} {v : Value} {xs : List (List (List Int))} (hb : Below w.heap.size w w') (h : RdIII w v xs) : RdIII w' v xs := rdS_mono (fun _ _ h => elIII_mono hb h) hb h
theorem rdIII_get {w : World} {ad : Option Addr} {len cap : Nat} {xs : List (List (List Int))} (h : RdIII w (.slice ad len cap) xs)
    {k : Nat} (hk : k < len) : ∃ b off ad' len' cap' x, ad = some ⟨b, off, none⟩ ∧ xs[k]? = some x ∧ w.cell? ⟨b, off + k, none⟩ = some (.slice ad' len' cap') ∧
      x.length = len' ∧ len' ≤ cap' ∧ cap' ≤ 9223372036854775807 ∧ RdII w (.slice ad' len' cap') x ∧ b < w.heap.size := by
  obtain ⟨b, off, us, x, h1, h2, h3, h4, u, rfl, h5⟩ := rdS_get h hk
  have := h4 0 _ rfl
  simp only [Nat.mul_one, Nat.add_zero] at this
  obtain ⟨ad', len', cap', rfl, h6, h7, h8, h9⟩ := rdS_open h5
  exact ⟨b, off, ad', len', cap', x, h1, h2, this, h6, h7, h8, h9, World.block_lt_of_cell? _ _ this⟩
theorem rdIII_nil (w : World) : RdIII w (.slice none 0 0) [] := ⟨none, 0, rfl, Nat.le_refl _, by omega, fun h => by simp at h⟩

/-- The array lies in the block g; each row in blocks that are not g. -/
structure Nows (e1 e g n : Nat) (W w : World) (xs : List (List Int)) (us : List Value) : Prop where
  row : w.ownsRow 0 e1 1 (.slice (some ⟨g, 0, none⟩) n n) n us
  els : ∀ (s : Nat) (u : Value) (x : List Int), us[s]? = some u → xs[s]? = some x → ∃ f, OwnI e w u x f ∧ ∀ b ∈ f, b ≠ g
  len : xs.length = n
  below : Below W.heap.size W w
  head : W.heap.size ≤ g

theorem Nows.mono {e1 e g n : Nat} {W w w' : World} {xs : List (List Int)} {us : List Value} (h : Nows e1 e g n W w xs us) (hb : Below w.heap.size w w') : Nows e1 e g n W w' xs us := by
  refine ⟨ownsRow_only h.row (Only.of_below (fp := []) hb) (by simp), fun s u x hu hx => ?_, h.len, h.below.trans (hb.mono h.below.size), h.head⟩
  obtain ⟨f, h1, h2⟩ := h.els s u x hu hx
  exact ⟨f, ownI_only h1 (Only.of_below (fp := []) hb) (by simp), h2⟩
theorem Nows.get {e1 e g n : Nat} {W w : World} {xs : List (List Int)} {us : List Value} (h : Nows e1 e g n W w xs us) {s : Nat} (hs : s < n) :
    ∃ ad len cap, w.cell? ⟨g, s, none⟩ = some (.slice ad len cap) ∧ (atL xs s).length = len ∧ RdI w (.slice ad len cap) (atL xs s) := by
  have hl := h.row.1
  have hsu : s < us.length := by omega
  have hsx : s < xs.length := by rw [h.len]; exact hs
  have hc := h.row.cellAt s (by omega)
  rw [List.getElem?_eq_getElem hsu] at hc
  obtain ⟨f, h1, _⟩ := h.els s us[s] xs[s] (List.getElem?_eq_getElem hsu) (List.getElem?_eq_getElem hsx)
  rw [atL_get (List.getElem?_eq_getElem hsx)]
  obtain ⟨ad, len, cap, hv, hlen, _⟩ := ownI_open h1
  rw [hv] at hc h1
  exact ⟨ad, len, cap, hc, hlen, ownI_rd h1⟩
theorem Nows.put {e1 e g n : Nat} {W w : World} {xs : List (List Int)} {us : List Value} (h : Nows e1 e g n W w xs us) {s : Nat} (hs : s < n) {p : Value} {x : List Int} {f : List Nat} (hx : OwnI e w p x f) (hf : ∀ b ∈ f, b ≠ g) :
    w.frozen? ⟨g, s, none⟩ = false ∧ ∃ us', Nows e1 e g n W (w.setCell ⟨g, s, none⟩ p) (xs.set s x) us' := by
  have hl := h.row.1
  have hO : Only [g] w (w.setCell ⟨g, s, none⟩ p) := (Only.refl _ _).setCell (by simp) _
  refine ⟨h.row.frozenAt s, us.set s p, (h.row.stored s p).1, fun t u y hu hy => ?_, by rw [List.length_set, h.len], h.below.setCell h.head _, h.head⟩
  by_cases ht : t = s
  · subst ht
    rw [List.getElem?_set_self (by omega)] at hu
    rw [List.getElem?_set_self (by rw [h.len]; exact hs)] at hy
    obtain rfl := Option.some.inj hu
    obtain rfl := Option.some.inj hy
    exact ⟨f, ownI_only hx hO (fun b hb hm => hf b hb (List.mem_singleton.1 hm)), hf⟩
  · rw [List.getElem?_set_ne (by omega)] at hu hy
    obtain ⟨f', h1, h2⟩ := h.els t u y hu hy
    exact ⟨f', ownI_only h1 hO (fun b hb hm => h2 b hb (List.mem_singleton.1 hm)), h2⟩
/-- All rows are made; a number is put into the first row's first place. -/
theorem nows_start {e1 e g n : Nat} {W w : World} {x : List Int} {xs : List (List Int)} {us : List (List Value)} {fs : List Nat} (hB : Build e1 1 (OElII e) g n n W w (x :: xs) us fs) (hl : (x :: xs).length = n) {z : Int} {zs : List Int} (hx : x = z :: zs) {c : Int} (hc : I64 c) :
    ∃ b cap, w.cell? ⟨g, 0, none⟩ = some (.slice (some ⟨b, 0, none⟩) x.length cap) ∧ w.cell? ⟨b, 0, none⟩ = some (.int .i64 z) ∧ w.frozen? ⟨b, 0, none⟩ = false ∧
      ∃ us', Nows e1 e g n W (w.setCell ⟨b, 0, none⟩ (.int .i64 c)) ((c :: zs) :: xs) us' := by
  obtain ⟨rest, hr⟩ := hB.row
  have hrest : rest = [] := by
    have h1 := hr.1
    have h2 := build_len hB
    rw [List.length_append, h2, hl] at h1
    exact List.eq_nil_of_length_eq_zero (by omega)
  rw [hrest, List.append_nil] at hr
  cases us with
  | nil => have := hB.els; simp [OwnEls] at this
  | cons u us =>
    obtain ⟨f, fs', rfl, ⟨p, rfl, hp⟩, hels⟩ := hB.els
    obtain ⟨ad, len, cap, rfl, hlen, hlc, hcm, hown, hg, hfe⟩ := ownI_open hp
    have hpos : 0 < len := by rw [← hlen, hx]; simp
    obtain ⟨b, rfl, hfb⟩ := hg hpos
    subst hfb
    have hnd := hB.nodup
    have hbg : b ≠ g := (hB.new b (by simp)).2
    have hO : Only [b] w (w.setCell ⟨b, 0, none⟩ (.int .i64 c)) := (Only.refl _ _).setCell (by simp) _
    have hbW := (hB.new b (by simp)).1
    have hn0 : 0 < n := by rw [← hl]; simp
    have c0 := hr.cellAt 0 (by omega)
    have c1 := hown.cellAt 0 (by omega)
    refine ⟨b, cap, by rw [hlen]; simpa using c0, by rw [c1, hx]; rfl, hown.frozenAt 0, ([Value.slice (some ⟨b, 0, none⟩) len cap] :: us).flatten, ?_, ?_, by simpa using hl, hB.below.setCell hbW _, hB.head⟩
    · exact ownsRow_only hr hO (fun g' hg' hm => hbg (by simp [Value.ownBlock] at hg'; rw [← List.mem_singleton.1 hm, hg']))
    · intro s v y hv hy
      cases s with
      | zero =>
        simp at hv hy
        subst hv hy
        have hs := (hown.stored 0 (.int .i64 c)).1
        have e1 : (x.map (Value.int .i64)).set 0 (.int .i64 c) = (c :: zs).map (Value.int .i64) := by rw [hx]; rfl
        rw [e1] at hs
        refine ⟨[b], ⟨?_, rfl, ?_⟩, by simpa using hbg⟩
        · have : (c :: zs).length = len := by rw [← hlen, hx]; rfl
          rw [this]; exact hs
        · intro a ha
          have := hp.2.2
          rw [hx] at this
          simp at ha
          rcases ha with rfl | ha
          · exact hc
          · exact this a (by simp [ha])
      | succ s =>
        have hfl : ([Value.slice (some ⟨b, 0, none⟩) len cap] :: us).flatten[s + 1]? = us.flatten[s]? := by simp
        rw [hfl] at hv
        simp at hy
        obtain ⟨u', f', hu', ⟨p', rfl, hp'⟩, hsub⟩ := ownEls_get hels hy
        have h5 := flat_get (fun u hu => hB.one u (by simp [hu])) hu' (j := 0) rfl
        simp only [Nat.mul_one, Nat.add_zero] at h5
        rw [h5] at hv
        obtain rfl := Option.some.inj hv
        rw [List.nodup_append] at hnd
        exact ⟨f', ownI_only hp' hO (fun b' hb' hm => hnd.2.2 b (by simp) b' (hsub b' hb') (List.mem_singleton.1 hm).symm), fun b' hb' => (hB.new b' (by simp [hsub b' hb'])).2⟩

end Go.Proofs.YtbcjhpgkodeoeaaGreatDoor
