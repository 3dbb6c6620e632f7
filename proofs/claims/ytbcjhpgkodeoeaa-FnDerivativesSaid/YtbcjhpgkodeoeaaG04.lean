/- The texts Fld, FldInv in one: each says at its head what it proves. Conditions: as said there. -/
import Derived.Test.YtbcjhpgkodeoeaaG03
set_option linter.unusedSimpArgs false
set_option linter.unusedVariables false
/- Fields: readings, what is owned, and the laws' copying, comparing, marking. Conditions: none. -/
namespace Go.Proofs.Ytbcjhpgkodeoeaa
open Go.RowKit Go.Sort

def ElMss (w : World) (us : List Value) (x : List MonZ) : Prop := ∃ u, us = [u] ∧ RdMs w u x
def OElMss (e2 e : Nat) (w : World) (us : List Value) (x : List MonZ) (fp : List Nat) : Prop := ∃ u, us = [u] ∧ OwnMs e2 e w u x fp
/-- [][]Monomial -/
abbrev RdMss := RdS 1 ElMss
def OwnMss (e1 e2 e : Nat) : World → Value → List (List MonZ) → List Nat → Prop := OwnS e1 1 (OElMss e2 e)

theorem elMss_mono {w w' : World} {us : List Value} {x : List MonZ} (hb : Below w.heap.size w w') (h : ElMss w us x) : ElMss w' us x := by
  obtain ⟨u, rfl, h⟩ := h
  exact ⟨u, rfl, rdMs_mono hb h⟩
theorem rdMss_mono {w w' : World} {v : Value} {xs : List (List MonZ)} (hb : Below w.heap.size w w') (h : RdMss w v xs) : RdMss w' v xs := rdS_mono (fun _ _ h => elMss_mono hb h) hb h
theorem oelMss_only {e2 e : Nat} {w w' : World} {us : List Value} {x : List MonZ} {fp fp' : List Nat} (h : OElMss e2 e w us x fp) (ho : Only fp' w w') (hd : ∀ g ∈ fp, g ∉ fp') : OElMss e2 e w' us x fp := by
  obtain ⟨u, rfl, h⟩ := h
  exact ⟨u, rfl, ownMs_only h ho hd⟩
theorem oelMss_lt {e2 e : Nat} {w : World} {us : List Value} {x : List MonZ} {fp : List Nat} (h : OElMss e2 e w us x fp) : ∀ g ∈ fp, g < w.heap.size := by
  obtain ⟨u, rfl, h⟩ := h
  exact ownMs_lt h
theorem ownMss_rd {e1 e2 e : Nat} {w : World} {v : Value} {xs : List (List MonZ)} {fp : List Nat} (h : OwnMss e1 e2 e w v xs fp) : RdMss w v xs := ownS_rd (fun _ _ _ ⟨u, hu, h⟩ => ⟨u, hu, ownMs_rd h⟩) h
theorem ownMss_lt {e1 e2 e : Nat} {w : World} {v : Value} {xs : List (List MonZ)} {fp : List Nat} (h : OwnMss e1 e2 e w v xs fp) : ∀ b ∈ fp, b < w.heap.size := ownS_lt (fun _ _ _ h => oelMss_lt h) h
theorem ownMss_only {e1 e2 e : Nat} {w w' : World} {v : Value} {xs : List (List MonZ)} {fp fp' : List Nat} (h : OwnMss e1 e2 e w v xs fp) (ho : Only fp' w w') (hd : ∀ b ∈ fp, b ∉ fp') : OwnMss e1 e2 e w' v xs fp :=
  ownS_only (fun _ _ _ h hd => oelMss_only h ho hd) h ho hd
theorem ownMs_nodup {e2 e : Nat} {w : World} {v : Value} {xs : List MonZ} {fp : List Nat} (h : OwnMs e2 e w v xs fp) : fp.Nodup := by
  obtain ⟨_, _, _, _, _, _, h⟩ := h
  exact h
theorem ownMs_open {e2 e : Nat} {w : World} {v : Value} {xs : List MonZ} {fp : List Nat} (h : OwnMs e2 e w v xs fp) : ∃ ad len cap, v = .slice ad len cap := by
  obtain ⟨_, _, h, _⟩ := h
  obtain ⟨ad, cap, rfl, _⟩ := row_open h
  exact ⟨_, _, _, rfl⟩

theorem rdMss_get {w : World} {ad : Option Addr} {len cap : Nat} {xs : List (List MonZ)} (h : RdMss w (.slice ad len cap) xs)
    {k : Nat} (hk : k < len) : ∃ b off ad' len' cap' x, ad = some ⟨b, off, none⟩ ∧ xs[k]? = some x ∧ w.cell? ⟨b, off + k, none⟩ = some (.slice ad' len' cap') ∧
      x.length = len' ∧ len' ≤ cap' ∧ cap' ≤ 9223372036854775807 ∧ RdMs w (.slice ad' len' cap') x ∧ b < w.heap.size := by
  obtain ⟨b, off, us, x, h1, h2, h3, h4, u, rfl, h5⟩ := rdS_get h hk
  have := h4 0 _ rfl
  simp only [Nat.mul_one, Nat.add_zero] at this
  obtain ⟨ad', len', cap', rfl, h6, h7, h8, h9⟩ := rdS_open h5
  exact ⟨b, off, ad', len', cap', x, h1, h2, this, h6, h7, h8, h9, World.block_lt_of_cell? _ _ this⟩

theorem Try.info_mons : (Try.prog.info? 63).map (fun i => (i.zero, i.size, i.bytes)) = some (some (.slice none 0 0), 1, 24) := by kernel_rfl

def mk_Mss : Int → List (List MonZ) → List (List MonZ) := mkL mk_Ms cnt_Ms
def cnt_Mss : List (List MonZ) → Nat := cntL cnt_Ms
def Fit_Mss (xs : List (List MonZ)) : Prop := xs.length ≤ 1048576 ∧ (∀ x ∈ xs, Fit_Ms x) ∧ cnt_Mss xs ≤ 1048576

theorem cntMss_snoc (xs : List (List MonZ)) (x : List MonZ) : cnt_Mss (xs ++ [x]) = cnt_Mss xs + cnt_Ms x := cntL_snoc xs x
theorem mkMss_snoc (xs : List (List MonZ)) (x : List MonZ) (k : Int) : mk_Mss k (xs ++ [x]) = mk_Mss k xs ++ [mk_Ms (k + (cnt_Mss xs : Int)) x] := mkL_snoc xs x k
theorem mkMss_length (xs : List (List MonZ)) (k : Int) : (mk_Mss k xs).length = xs.length := mkL_length xs k
theorem cntMss_take_le (xs : List (List MonZ)) (k : Nat) : cnt_Mss (xs.take k) ≤ cnt_Mss xs := cntL_take_le xs k

/-- A field: its dimension and its polynomials. -/
structure FldZ where
  dim : Int
  parts : List (List MonZ)
deriving Inhabited
def RdFld (w : World) (v : Value) (f : FldZ) : Prop := ∃ vP, v = .agg #[.int .i64 f.dim, vP] ∧ I64 f.dim ∧ RdMss w vP f.parts
def OwnFld (e1 e2 e : Nat) (w : World) (v : Value) (f : FldZ) (fp : List Nat) : Prop := ∃ vP, v = .agg #[.int .i64 f.dim, vP] ∧ I64 f.dim ∧ OwnMss e1 e2 e w vP f.parts fp
theorem rdFld_mono {w w' : World} {v : Value} {f : FldZ} (hb : Below w.heap.size w w') (h : RdFld w v f) : RdFld w' v f := by
  obtain ⟨vP, rfl, hI, h⟩ := h
  exact ⟨vP, rfl, hI, rdMss_mono hb h⟩
theorem ownFld_rd {e1 e2 e : Nat} {w : World} {v : Value} {f : FldZ} {fp : List Nat} (h : OwnFld e1 e2 e w v f fp) : RdFld w v f := by
  obtain ⟨vP, rfl, hI, h⟩ := h
  exact ⟨vP, rfl, hI, ownMss_rd h⟩
theorem ownFld_lt {e1 e2 e : Nat} {w : World} {v : Value} {f : FldZ} {fp : List Nat} (h : OwnFld e1 e2 e w v f fp) : ∀ b ∈ fp, b < w.heap.size := by
  obtain ⟨vP, rfl, hI, h⟩ := h
  exact ownMss_lt h
theorem ownFld_only {e1 e2 e : Nat} {w w' : World} {v : Value} {f : FldZ} {fp fp' : List Nat} (h : OwnFld e1 e2 e w v f fp) (ho : Only fp' w w') (hd : ∀ b ∈ fp, b ∉ fp') : OwnFld e1 e2 e w' v f fp := by
  obtain ⟨vP, rfl, hI, h⟩ := h
  exact ⟨vP, rfl, hI, ownMss_only h ho hd⟩
theorem rdMss_slice {w : World} {v : Value} {xs : List (List MonZ)} (h : RdMss w v xs) : ∃ ad len cap, v = .slice ad len cap := by
  obtain ⟨ad, len, cap, rfl, _⟩ := rdS_open h
  exact ⟨_, _, _, rfl⟩
theorem ownMss_slice {e1 e2 e : Nat} {w : World} {v : Value} {xs : List (List MonZ)} {fp : List Nat} (h : OwnMss e1 e2 e w v xs fp) : ∃ ad len cap, v = .slice ad len cap := rdMss_slice (ownMss_rd h)

def Fit_Fld (f : FldZ) : Prop := Fit_Mss f.parts
def mk_Fld (k : Int) (f : FldZ) : FldZ := ⟨f.dim, mk_Mss k f.parts⟩
def cnt_Fld (f : FldZ) : Nat := cnt_Mss f.parts

end Go.Proofs.Ytbcjhpgkodeoeaa

/- A field that is being made: its box, and its parts so far. Conditions: none. -/
namespace Go.Proofs.Ytbcjhpgkodeoeaa
open Go.RowKit Go.Sort

theorem ownS_push2 {α : Type} {e size : Nat} {El : World → List Value → α → List Nat → Prop} (hE : ∀ w w' u x f g, El w u x f → Only g w w' → (∀ b ∈ f, b ∉ g) → El w' u x f)
    {w w1 w2 : World} {v v' : Value} {xs : List α} {x : α} {us : List (List Value)} {u : List Value} {fs f : List Nat} {n : Nat}
    (hone : ∀ u ∈ us, u.length = size) (hels : OwnEls El w us xs fs) (hnd : (v.ownBlock.toList ++ fs).Nodup) (hx : El w u x f) (hul : u.length = size) (hdis : ∀ b ∈ f, b ∉ v.ownBlock.toList ++ fs) (hfn : f.Nodup)
    (hfl : ∀ b ∈ f, b < w.heap.size) (hsl : ∀ b ∈ fs, b < w.heap.size) (hn : xs.length = n)
    (h1 : Below w.heap.size w w1) (hown : w2.ownsRow 0 e size v' (n + 1) (us.flatten ++ u)) (hg : w1.grownBy w2 v.ownBlock) (hv : ∀ b, v'.ownBlock = some b → v.ownBlock = some b ∨ w1.heap.size ≤ b) :
    ∃ fp', OwnS e size El w2 v' (xs ++ [x]) fp' ∧ (∀ b ∈ fp', b ∈ v.ownBlock.toList ++ fs ∨ b ∈ f ∨ w1.heap.size ≤ b) ∧ Only v.ownBlock.toList w w2 := by
  subst hn
  have hO : Only v.ownBlock.toList w w2 := (Only.of_below h1).trans ⟨hg.os, hg.tape, hg.output, hg.size, fun k hk hn => hg.block k hk (fun e => hn (by rw [← e]; simp))⟩
  rw [List.nodup_append] at hnd
  have hv' : ∀ b, v'.ownBlock = some b → (b ∈ v.ownBlock.toList ∨ w1.heap.size ≤ b) := fun b hb => (hv b hb).imp (fun h => by rw [h]; simp) id
  refine ⟨v'.ownBlock.toList ++ (fs ++ f), ⟨us ++ [u], fs ++ f, by simpa using hown, ?_, ?_, rfl, ?_⟩, ?_, hO⟩
  · intro u' hu'
    simp at hu'
    rcases hu' with hu' | rfl
    · exact hone u' hu'
    · exact hul
  · refine ownEls_snoc (ownEls_only (fun u x f h hd => hE _ _ _ _ _ _ h hO hd) hels (fun b hb hm => hnd.2.2 b hm b hb rfl)) (hE _ _ _ _ _ _ hx hO (fun b hb hm => hdis b hb (by simp at hm; simp [hm])))
  · rw [List.nodup_append, List.nodup_append]
    refine ⟨by cases v'.ownBlock <;> simp, ⟨hnd.2.1, hfn, fun a ha b hb e => hdis b hb (by simp [← e, ha])⟩, fun a ha b hb e => ?_⟩
    subst e
    rw [Option.mem_toList] at ha
    have h1s := h1.size
    rcases hv' a ha with h | h
    · simp at hb
      rcases hb with hb | hb
      · exact hnd.2.2 a h a hb rfl
      · exact hdis a hb (by simp at h; simp [h])
    · simp at hb
      rcases hb with hb | hb
      · have := hsl a hb; omega
      · have := hfl a hb; omega
  · intro b hb
    simp only [List.mem_append, Option.mem_toList] at hb
    rcases hb with hb | hb | hb
    · rcases hv b hb with h | h
      · left; simp [h]
      · right; right; exact h
    · left; simp [hb]
    · right; left; exact hb

/-- A field that is being made: its box, and its parts so far. -/
structure FldInv (e1 e2 e : Nat) (W w : World) (Bf : Nat) (dim : Int) (v : Value) (xs : List (List MonZ)) (fs : List Nat) : Prop where
  own : OwnMss e1 e2 e w v xs fs
  new : ∀ b ∈ fs, W.heap.size ≤ b
  only : Only [Bf] W w
  c0 : w.cell? ⟨Bf, 0, none⟩ = some (.int .i64 dim)
  c1 : w.cell? ⟨Bf, 1, none⟩ = some v
  f1 : w.frozen? ⟨Bf, 1, none⟩ = false
  lt : Bf < W.heap.size
theorem fldInv_start {e1 e2 e t : Nat} {w : World} {dim : Int} {W : World} (hW : W = w.alloc (.cells #[.int .i64 dim, .slice none 0 0] t)) : FldInv e1 e2 e W W w.heap.size dim (.slice none 0 0) [] [] := by
  subst hW
  exact ⟨⟨[], [], World.ownsRow_nil _ _ _ _, by simp, rfl, rfl, by simp⟩, by simp, Only.refl _ _, by simp, by simp, by simp, by simp⟩
theorem FldInv.below {e1 e2 e : Nat} {w0 W w : World} {Bf : Nat} {dim : Int} {v : Value} {xs : List (List MonZ)} {fs : List Nat} (h : FldInv e1 e2 e W w Bf dim v xs fs) (hb : Below w0.heap.size w0 W) (hB : w0.heap.size ≤ Bf) : Below w0.heap.size w0 w :=
  hb.trans (h.only.below hb.size (by simpa using hB))
/-- Behind a call, an append to the parts, and the store of the new slice of parts. -/
theorem FldInv.push {e1 e2 e : Nat} {W w wa w1 w2 : World} {Bf : Nat} {dim : Int} {v v' p : Value} {xs : List (List MonZ)} {x : List MonZ} {us : List (List Value)} {fs f : List Nat} {n : Nat}
    (h : FldInv e1 e2 e W w Bf dim v xs (v.ownBlock.toList ++ fs)) (hone : ∀ u ∈ us, u.length = 1) (hels : OwnEls (OElMss e2 e) w us xs fs) (hnd : (v.ownBlock.toList ++ fs).Nodup) (hown0 : w.ownsRow 0 e1 1 v xs.length us.flatten) (hn : xs.length = n)
    (hp : OwnMs e2 e wa p x f) (hf : ∀ b ∈ f, w.heap.size ≤ b) (hq : Below w.heap.size w wa) (h1 : Below wa.heap.size wa w1) (hown : w2.ownsRow 0 e1 1 v' (n + 1) (us.flatten ++ [p])) (hg : w1.grownBy w2 v.ownBlock)
    (hv : ∀ b, v'.ownBlock = some b → v.ownBlock = some b ∨ w1.heap.size ≤ b) :
    w2.cell? ⟨Bf, 1, none⟩ = some v ∧ w2.frozen? ⟨Bf, 1, none⟩ = false ∧ ∃ fp', FldInv e1 e2 e W (w2.setCell ⟨Bf, 1, none⟩ v') Bf dim v' (xs ++ [x]) fp' := by
  have hlt : ∀ b ∈ v.ownBlock.toList ++ fs, b < w.heap.size := fun b hb => by
    simp only [List.mem_append, Option.mem_toList] at hb
    rcases hb with hb | hb
    · exact (hown0.lt b hb).2
    · exact ownEls_lt (fun _ _ _ h => oelMss_lt h) hels b hb
  have hWw := h.only.size
  have hq1 := hq.size
  have h11 := h1.size
  have hBlt := h.lt
  obtain ⟨fp', hP, hfp, hO⟩ := ownS_push2 (El := OElMss e2 e) (w := wa) (w1 := w1) (f := f) (fs := fs) (fun w w' u x f g h ho hd => oelMss_only h ho hd) hone (ownEls_only (fun u x f' h hd => oelMss_only h (Only.of_below (fp := []) hq) hd) hels (by simp)) hnd ⟨p, rfl, hp⟩ rfl
    (fun b hb hm => by have := hf b hb; have := hlt b hm; omega) (ownMs_nodup hp) (ownMs_lt hp) (fun b hb => by have := hlt b (by simp [hb]); omega) hn h1 hown hg hv
  have hBn : Bf ∉ v.ownBlock.toList := fun hm => by have := h.new Bf (by simp only [List.mem_append]; left; exact hm); omega
  have hfn : ∀ b ∈ fp', W.heap.size ≤ b := fun b hb => by
    rcases hfp b hb with h2 | h2 | h2
    · exact h.new b h2
    · have := hf b h2; omega
    · omega
  have hOw : Only v.ownBlock.toList w w2 := (Only.of_below hq).trans hO
  have hSt : Only [Bf] w2 (w2.setCell ⟨Bf, 1, none⟩ v') := (Only.refl _ _).setCell (by simp) _
  have hc1 := cell_only hOw hBn h.c1
  have hc0 := cell_only hOw hBn h.c0
  have hf1 : w2.frozen? ⟨Bf, 1, none⟩ = false := (World.frozen?_of_block (hOw.block Bf (by omega) hBn)).trans h.f1
  refine ⟨hc1, hf1, fp', ⟨ownMss_only hP hSt (fun b hb hm => by have := hfn b hb; simp at hm; omega), hfn, ?_, ?_, World.cell?_setCell_same _ _ _ hc1, ?_, hBlt⟩⟩
  · refine ⟨by rw [hSt.os, hOw.os, h.only.os], by rw [hSt.tape, hOw.tape, h.only.tape], by rw [hSt.output, hOw.output, h.only.output], by have := hSt.size; have := hOw.size; omega, fun k hk hn => ?_⟩
    rw [hSt.block k (by have := hOw.size; omega) hn, hOw.block k (by omega) (fun hm => by have := h.new k (by simp only [List.mem_append]; left; exact hm); omega), h.only.block k hk hn]
  · exact (World.cell?_setCell_other _ _ _ _ (by simp)).trans hc0
  · rw [World.frozen?_setCell]; exact hf1

end Go.Proofs.Ytbcjhpgkodeoeaa
