/- The texts Fld, FldInv, Push, DrwN, Cpy, AppI, Tab in one: each says at its head what it proves. Conditions: as said there. -/
import Derived.Deep.AppendLies
import Derived.Maps.AppendAt
import Derived.Laws.OwnMore
import Derived.Lib.AppendZeros
import Derived.Test.YtbcjhpgkodeoeaaGreatDoorG02
import Derived.Test.YtbcjhpgkodeoeaaGreatDoorG01
set_option linter.unusedSimpArgs false
set_option linter.unusedVariables false
/- Fields: readings, what is owned, and the laws' copying, comparing, marking. Conditions: none. -/
namespace Go.Proofs.YtbcjhpgkodeoeaaGreatDoor
open Go.RowKit Go.Sort

def ElMss (w : World) (us : List Value) (x : List MonZ) : Prop := ∃ u, us = [u] ∧ RdMs w u x
def OElMss (e2 e : Nat) (w : World) (us : List Value) (x : List MonZ) (fp : List Nat) : Prop := ∃ u, us = [u] ∧ OwnMs e2 e w u x fp
/-- [][]Monomial -/
abbrev RdMss := RdS 1 ElMss
def OwnMss (e1 e2 e : Nat) : World → Value → List (List MonZ) → List Nat → Prop := OwnS e1 1 (OElMss e2 e)

theorem elMss_mono {w w' : World} {us : List Value} {x : List MonZ} (hb : Below w.heap.size w w') (h : ElMss w us x) : ElMss w' us x := by
  obtain ⟨u, rfl, h⟩ := h
  exact ⟨u, rfl, rdMs_mono hb h⟩
theorem rdMss_mono {w w' : World} {v : Value} {xs : List (List MonZ)} (hb : Below w.heap.size w w') (h : RdMss w v xs) : RdMss w' v xs := rdS_mono (fun _ _ h => elMss_mono hb h) hb h
theorem oelMss_only {e2 e : Nat} {w w' : World} {us : List Value} {x : List MonZ} {fp fp' : List Nat} (h : OElMss e2 e w us x fp) (ho : Only fp' w w') (hd : ∀ g ∈ fp, g ∉ fp') : OElMss e2 e w' us x fp := by
  obtain ⟨u, rfl, h⟩ := h
  exact ⟨u, rfl, ownMs_only h ho hd⟩
theorem oelMss_lt {e2 e : Nat} {w : World} {us : List Value} {x : List MonZ} {fp : List Nat} (h : OElMss e2 e w us x fp) : ∀ g ∈ fp, g < w.heap.size := by
  obtain ⟨u, rfl, h⟩ := h
  exact ownMs_lt h
theorem ownMss_rd {e1 e2 e : Nat} {w : World} {v : Value} {xs : List (List MonZ)} {fp : List Nat} (h : OwnMss e1 e2 e w v xs fp) : RdMss w v xs := ownS_rd (fun _ _ _ ⟨u, hu, h⟩ => ⟨u, hu, ownMs_rd h⟩) h
theorem ownMss_lt {e1 e2 e : Nat} {w : World} {v : Value} {xs : List (List MonZ)} {fp : List Nat} (h : OwnMss e1 e2 e w v xs fp) : ∀ b ∈ fp, b < w.heap.size := ownS_lt (fun _ _ _ h => oelMss_lt h) h
theorem ownMss_only {e1 e2 e : Nat} {w w' : World} {v : Value} {xs : List (List MonZ)} {fp fp' : List Nat} (h : OwnMss e1 e2 e w v xs fp) (ho : Only fp' w w') (hd : ∀ b ∈ fp, b ∉ fp') : OwnMss e1 e2 e w' v xs fp :=
  ownS_only (fun _ _ _ h hd => oelMss_only h ho hd) h ho hd
theorem ownMs_nodup {e2 e : Nat} {w : World} {v : Value} {xs : List MonZ} {fp : List Nat} (h : OwnMs e2 e w v xs fp) : fp.Nodup := by
  obtain ⟨_, _, _, _, _, _, h⟩ := h
  exact h
theorem ownMs_open {e2 e : Nat} {w : World} {v : Value} {xs : List MonZ} {fp : List Nat} (h : OwnMs e2 e w v xs fp) : ∃ ad len cap, v = .slice ad len cap := by
  obtain ⟨_, _, h, _⟩ := h
  obtain ⟨ad, cap, rfl, _⟩ := row_open h
  exact ⟨_, _, _, rfl⟩

theorem rdMss_get {w : World} {ad : Option Addr} {len cap : Nat} {xs : List (List MonZ)} (h : RdMss w (.slice ad len cap) xs)
    {k : Nat} (hk : k < len) : ∃ b off ad' len' cap' x, ad = some ⟨b, off, none⟩ ∧ xs[k]? = some x ∧ w.cell? ⟨b, off + k, none⟩ = some (.slice ad' len' cap') ∧
      x.length = len' ∧ len' ≤ cap' ∧ cap' ≤ 9223372036854775807 ∧ RdMs w (.slice ad' len' cap') x ∧ b < w.heap.size := by
  obtain ⟨b, off, us, x, h1, h2, h3, h4, u, rfl, h5⟩ := rdS_get h hk
  have := h4 0 _ rfl
  simp only [Nat.mul_one, Nat.add_zero] at this
  obtain ⟨ad', len', cap', rfl, h6, h7, h8, h9⟩ := rdS_open h5
  exact ⟨b, off, ad', len', cap', x, h1, h2, this, h6, h7, h8, h9, World.block_lt_of_cell? _ _ this⟩

theorem Tryz.info_mons : (Tryz.prog.info? 24).map (fun i => (i.zero, i.size, i.bytes)) = some (some (.slice none 0 0), 1, 24) := by kernel_rfl

def mk_Mss : Int → List (List MonZ) → List (List MonZ) := mkL mk_Ms cnt_Ms
def cnt_Mss : List (List MonZ) → Nat := cntL cnt_Ms
def Fit_Mss (xs : List (List MonZ)) : Prop := xs.length ≤ 1048576 ∧ (∀ x ∈ xs, Fit_Ms x) ∧ cnt_Mss xs ≤ 1048576

theorem cntMss_snoc (xs : List (List MonZ)) (x : List MonZ) : cnt_Mss (xs ++ [x]) = cnt_Mss xs + cnt_Ms x := cntL_snoc xs x
theorem mkMss_snoc (xs : List (List MonZ)) (x : List MonZ) (k : Int) : mk_Mss k (xs ++ [x]) = mk_Mss k xs ++ [mk_Ms (k + (cnt_Mss xs : Int)) x] := mkL_snoc xs x k
theorem mkMss_length (xs : List (List MonZ)) (k : Int) : (mk_Mss k xs).length = xs.length := mkL_length xs k
theorem cntMss_take_le (xs : List (List MonZ)) (k : Nat) : cnt_Mss (xs.take k) ≤ cnt_Mss xs := cntL_take_le xs k

/-- A field: its dimension and its polynomials. -/
structure FldZ where
  dim : Int
  parts : List (List MonZ)
deriving Inhabited
def RdFld (w : World) (v : Value) (f : FldZ) : Prop := ∃ vP, v = .agg #[.int .i64 f.dim, vP] ∧ I64 f.dim ∧ RdMss w vP f.parts
def OwnFld (e1 e2 e : Nat) (w : World) (v : Value) (f : FldZ) (fp : List Nat) : Prop := ∃ vP, v = .agg #[.int .i64 f.dim, vP] ∧ I64 f.dim ∧ OwnMss e1 e2 e w vP f.parts fp
theorem rdFld_mono {w w' : World} {v : Value} {f : FldZ} (hb : Below w.heap.size w w') (h : RdFld w v f) : RdFld w' v f := by
  obtain ⟨vP, rfl, hI, h⟩ := h
  exact ⟨vP, rfl, hI, rdMss_mono hb h⟩
theorem ownFld_rd {e1 e2 e : Nat} {w : World} {v : Value} {f : FldZ} {fp : List Nat} (h : OwnFld e1 e2 e w v f fp) : RdFld w v f := by
  obtain ⟨vP, rfl, hI, h⟩ := h
  exact ⟨vP, rfl, hI, ownMss_rd h⟩
theorem ownFld_lt {e1 e2 e : Nat} {w : World} {v : Value} {f : FldZ} {fp : List Nat} (h : OwnFld e1 e2 e w v f fp) : ∀ b ∈ fp, b < w.heap.size := by
  obtain ⟨vP, rfl, hI, h⟩ := h
  exact ownMss_lt h
theorem ownFld_only {e1 e2 e : Nat} {w w' : World} {v : Value} {f : FldZ} {fp fp' : List Nat} (h : OwnFld e1 e2 e w v f fp) (ho : Only fp' w w') (hd : ∀ b ∈ fp, b ∉ fp') : OwnFld e1 e2 e w' v f fp := by
  obtain ⟨vP, rfl, hI, h⟩ := h
  exact ⟨vP, rfl, hI, ownMss_only h ho hd⟩
theorem rdMss_slice {w : World} {v : Value} {xs : List (List MonZ)} (h : RdMss w v xs) : ∃ ad len cap, v = .slice ad len cap := by
  obtain ⟨ad, len, cap, rfl, _⟩ := rdS_open h
  exact ⟨_, _, _, rfl⟩
theorem ownMss_slice {e1 e2 e : Nat} {w : World} {v : Value} {xs : List (List MonZ)} {fp : List Nat} (h : OwnMss e1 e2 e w v xs fp) : ∃ ad len cap, v = .slice ad len cap := rdMss_slice (ownMss_rd h)

def Fit_Fld (f : FldZ) : Prop := Fit_Mss f.parts
def mk_Fld (k : Int) (f : FldZ) : FldZ := ⟨f.dim, mk_Mss k f.parts⟩
def cnt_Fld (f : FldZ) : Nat := cnt_Mss f.parts

end Go.Proofs.YtbcjhpgkodeoeaaGreatDoor

/- A field that is being made: its box, and its parts so far. Conditions: none. -/
namespace Go.Proofs.YtbcjhpgkodeoeaaGreatDoor
open Go.RowKit Go.Sort

theorem ownS_push2 {α : Type} {e size : Nat} {El : World → List Value → α → List Nat → Prop} (hE : ∀ w w' u x f g, El w u x f → Only g w w' → (∀ b ∈ f, b ∉ g) → El w' u x f)
    {w w1 w2 : World} {v v' : Value} {xs : List α} {x : α} {us : List (List Value)} {u : List Value} {fs f : List Nat} {n : Nat}
    (hone : ∀ u ∈ us, u.length = size) (hels : OwnEls El w us xs fs) (hnd : (v.ownBlock.toList ++ fs).Nodup) (hx : El w u x f) (hul : u.length = size) (hdis : ∀ b ∈ f, b ∉ v.ownBlock.toList ++ fs) (hfn : f.Nodup)
    (hfl : ∀ b ∈ f, b < w.heap.size) (hsl : ∀ b ∈ fs, b < w.heap.size) (hn : xs.length = n)
    (h1 : Below w.heap.size w w1) (hown : w2.ownsRow 0 e size v' (n + 1) (us.flatten ++ u)) (hg : w1.grownBy w2 v.ownBlock) (hv : ∀ b, v'.ownBlock = some b → v.ownBlock = some b ∨ w1.heap.size ≤ b) :
    ∃ fp', OwnS e size El w2 v' (xs ++ [x]) fp' ∧ (∀ b ∈ fp', b ∈ v.ownBlock.toList ++ fs ∨ b ∈ f ∨ w1.heap.size ≤ b) ∧ Only v.ownBlock.toList w w2 := by
  subst hn
  have hO : Only v.ownBlock.toList w w2 := (Only.of_below h1).trans ⟨hg.os, hg.tape, hg.output, hg.size, fun k hk hn => hg.block k hk (fun e => hn (by rw [← e]; simp))⟩
  rw [List.nodup_append] at hnd
  have hv' : ∀ b, v'.ownBlock = some b → (b ∈ v.ownBlock.toList ∨ w1.heap.size ≤ b) := fun b hb => (hv b hb).imp (fun h => by rw [h]; simp) id
  refine ⟨v'.ownBlock.toList ++ (fs ++ f), ⟨us ++ [u], fs ++ f, by simpa using hown, ?_, ?_, rfl, ?_⟩, ?_, hO⟩
  · intro u' hu'
    simp at hu'
    rcases hu' with hu' | rfl
    · exact hone u' hu'
    · exact hul
  · refine ownEls_snoc (ownEls_only (fun u x f h hd => hE _ _ _ _ _ _ h hO hd) hels (fun b hb hm => hnd.2.2 b hm b hb rfl)) (hE _ _ _ _ _ _ hx hO (fun b hb hm => hdis b hb (by simp at hm; simp [hm])))
  · rw [List.nodup_append, List.nodup_append]
    refine ⟨by cases v'.ownBlock <;> simp, ⟨hnd.2.1, hfn, fun a ha b hb e => hdis b hb (by simp [← e, ha])⟩, fun a ha b hb e => ?_⟩
    subst e
    rw [Option.mem_toList] at ha
    have h1s := h1.size
    rcases hv' a ha with h | h
    · simp at hb
      rcases hb with hb | hb
      · exact hnd.2.2 a h a hb rfl
      · exact hdis a hb (by simp at h; simp [h])
    · simp at hb
      rcases hb with hb | hb
      · have := hsl a hb; omega
      · have := hfl a hb; omega
  · intro b hb
    simp only [List.mem_append, Option.mem_toList] at hb
    rcases hb with hb | hb | hb
    · rcases hv b hb with h | h
      · left; simp [h]
      · right; right; exact h
    · left; simp [hb]
    · right; left; exact hb

/-- A field that is being made: its box, and its parts so far. -/
structure FldInv (e1 e2 e : Nat) (W w : World) (Bf : Nat) (dim : Int) (v : Value) (xs : List (List MonZ)) (fs : List Nat) : Prop where
  own : OwnMss e1 e2 e w v xs fs
  new : ∀ b ∈ fs, W.heap.size ≤ b
  only : Only [Bf] W w
  c0 : w.cell? ⟨Bf, 0, none⟩ = some (.int .i64 dim)
  c1 : w.cell? ⟨Bf, 1, none⟩ = some v
  f1 : w.frozen? ⟨Bf, 1, none⟩ = false
  lt : Bf < W.heap.size
theorem fldInv_start {e1 e2 e t : Nat} {w : World} {dim : Int} {W : World} (hW : W = w.alloc (.cells #[.int .i64 dim, .slice none 0 0] t)) : FldInv e1 e2 e W W w.heap.size dim (.slice none 0 0) [] [] := by
  subst hW
  exact ⟨⟨[], [], World.ownsRow_nil _ _ _ _, by simp, rfl, rfl, by simp⟩, by simp, Only.refl _ _, by simp, by simp, by simp, by simp⟩
theorem FldInv.below {e1 e2 e : Nat} {w0 W w : World} {Bf : Nat} {dim : Int} {v : Value} {xs : List (List MonZ)} {fs : List Nat} (h : FldInv e1 e2 e W w Bf dim v xs fs) (hb : Below w0.heap.size w0 W) (hB : w0.heap.size ≤ Bf) : Below w0.heap.size w0 w :=
  hb.trans (h.only.below hb.size (by simpa using hB))
/-- Behind a call, an append to the parts, and the store of the new slice of parts. -/
theorem FldInv.push {e1 e2 e : Nat} {W w wa w1 w2 : World} {Bf : Nat} {dim : Int} {v v' p : Value} {xs : List (List MonZ)} {x : List MonZ} {us : List (List Value)} {fs f : List Nat} {n : Nat}
    (h : FldInv e1 e2 e W w Bf dim v xs (v.ownBlock.toList ++ fs)) (hone : ∀ u ∈ us, u.length = 1) (hels : OwnEls (OElMss e2 e) w us xs fs) (hnd : (v.ownBlock.toList ++ fs).Nodup) (hown0 : w.ownsRow 0 e1 1 v xs.length us.flatten) (hn : xs.length = n)
    (hp : OwnMs e2 e wa p x f) (hf : ∀ b ∈ f, w.heap.size ≤ b) (hq : Below w.heap.size w wa) (h1 : Below wa.heap.size wa w1) (hown : w2.ownsRow 0 e1 1 v' (n + 1) (us.flatten ++ [p])) (hg : w1.grownBy w2 v.ownBlock)
    (hv : ∀ b, v'.ownBlock = some b → v.ownBlock = some b ∨ w1.heap.size ≤ b) :
    w2.cell? ⟨Bf, 1, none⟩ = some v ∧ w2.frozen? ⟨Bf, 1, none⟩ = false ∧ ∃ fp', FldInv e1 e2 e W (w2.setCell ⟨Bf, 1, none⟩ v') Bf dim v' (xs ++ [x]) fp' := by
  have hlt : ∀ b ∈ v.ownBlock.toList ++ fs, b < w.heap.size := fun b hb => by
    simp only [List.mem_append, Option.mem_toList] at hb
    rcases hb with hb | hb
    · exact (hown0.lt b hb).2
    · exact ownEls_lt (fun _ _ _ h => oelMss_lt h) hels b hb
  have hWw := h.only.size
  have hq1 := hq.size
  have h11 := h1.size
  have hBlt := h.lt
  obtain ⟨fp', hP, hfp, hO⟩ := ownS_push2 (El := OElMss e2 e) (w := wa) (w1 := w1) (f := f) (fs := fs) (fun w w' u x f g h ho hd => oelMss_only h ho hd) hone (ownEls_only (fun u x f' h hd => oelMss_only h (Only.of_below (fp := []) hq) hd) hels (by simp)) hnd ⟨p, rfl, hp⟩ rfl
    (fun b hb hm => by have := hf b hb; have := hlt b hm; omega) (ownMs_nodup hp) (ownMs_lt hp) (fun b hb => by have := hlt b (by simp [hb]); omega) hn h1 hown hg hv
  have hBn : Bf ∉ v.ownBlock.toList := fun hm => by have := h.new Bf (by simp only [List.mem_append]; left; exact hm); omega
  have hfn : ∀ b ∈ fp', W.heap.size ≤ b := fun b hb => by
    rcases hfp b hb with h2 | h2 | h2
    · exact h.new b h2
    · have := hf b h2; omega
    · omega
  have hOw : Only v.ownBlock.toList w w2 := (Only.of_below hq).trans hO
  have hSt : Only [Bf] w2 (w2.setCell ⟨Bf, 1, none⟩ v') := (Only.refl _ _).setCell (by simp) _
  have hc1 := cell_only hOw hBn h.c1
  have hc0 := cell_only hOw hBn h.c0
  have hf1 : w2.frozen? ⟨Bf, 1, none⟩ = false := (World.frozen?_of_block (hOw.block Bf (by omega) hBn)).trans h.f1
  refine ⟨hc1, hf1, fp', ⟨ownMss_only hP hSt (fun b hb hm => by have := hfn b hb; simp at hm; omega), hfn, ?_, ?_, World.cell?_setCell_same _ _ _ hc1, ?_, hBlt⟩⟩
  · refine ⟨by rw [hSt.os, hOw.os, h.only.os], by rw [hSt.tape, hOw.tape, h.only.tape], by rw [hSt.output, hOw.output, h.only.output], by have := hSt.size; have := hOw.size; omega, fun k hk hn => ?_⟩
    rw [hSt.block k (by have := hOw.size; omega) hn, hOw.block k (by omega) (fun hm => by have := h.new k (by simp only [List.mem_append]; left; exact hm); omega), h.only.block k hk hn]
  · exact (World.cell?_setCell_other _ _ _ _ (by simp)).trans hc0
  · rw [World.frozen?_setCell]; exact hf1

end Go.Proofs.YtbcjhpgkodeoeaaGreatDoor

/- Appending one element to a row of the call's own: what it leaves. Conditions: none. -/
namespace Go.Proofs.YtbcjhpgkodeoeaaGreatDoor
open Go.RowKit Go.Sort

theorem at_block {ad : Option Addr} {n cap gg c2 n2 : Nat} {w0 : World} {o : Obj} (hat : (Value.slice ad n cap).ownBlock = some gg ∨ gg = w0.heap.size + 1) :
    ∀ b, (Value.slice (some ⟨gg, 0, none⟩) n2 c2).ownBlock = some b → (Value.slice ad n cap).ownBlock = some b ∨ (w0.alloc o).heap.size ≤ b := fun b hb => by
  simp [Value.ownBlock] at hb
  subst hb
  rcases hat with hat | hat
  · left; exact hat
  · right; rw [hat]; simp
/-- One number more. -/
theorem ownI_push3 {e : Nat} {w0 w2 : World} {ad : Option Addr} {n cap gg capn : Nat} {f : List Nat} {xs : List Int} {y : Int} (h : OwnI e w0 (.slice ad n cap) xs f) (hn : xs.length = n) (hy : I64 y)
    (hown : w2.ownsRow 0 e 1 (.slice (some ⟨gg, 0, none⟩) (n + 1) capn) (n + 1) (xs.map (Value.int .i64) ++ [.int .i64 y])) (hg : (w0.alloc (.cells #[.int .i64 y] e)).grownBy w2 (Value.slice ad n cap).ownBlock) (hat : (Value.slice ad n cap).ownBlock = some gg ∨ gg = w0.heap.size + 1) :
    ∃ f', OwnI e w2 (.slice (some ⟨gg, 0, none⟩) (n + 1) capn) (xs ++ [y]) f' ∧ (∀ b ∈ f', b ∈ f ∨ w0.heap.size ≤ b) ∧ Only f w0 w2 := by
  subst hn
  have hal : Below w0.heap.size w0 (w0.alloc (.cells #[.int .i64 y] e)) := (Below.refl _ _).alloc (Nat.le_refl _) _
  have hfe : f = (Value.slice ad xs.length cap).ownBlock.toList := h.2.1
  refine ⟨[gg], ⟨by simpa using hown, rfl, fun x hx => ?_⟩, fun b hb => ?_, ?_⟩
  · simp at hx
    rcases hx with hx | rfl
    · exact h.2.2 x hx
    · exact hy
  · simp at hb
    subst hb
    rcases hat with hat | hat
    · left; rw [hfe, hat]; simp
    · right; omega
  · rw [hfe]
    exact (Only.of_below hal).trans ⟨hg.os, hg.tape, hg.output, hg.size, fun k hk hn => hg.block k hk (fun e => hn (by rw [← e]; simp))⟩
/-- The same behind an alloc and draws. -/
theorem ownI_push6 {e : Nat} {w0 w1 w2 : World} {ad : Option Addr} {n cap gg capn : Nat} {f : List Nat} {xs : List Int} {y : Int} (h : OwnI e w0 (.slice ad n cap) xs f) (hn : xs.length = n) (hy : I64 y) (h1 : Below w0.heap.size w0 w1) (hs : w1.heap.size = w0.heap.size + 1)
    (hown : w2.ownsRow 0 e 1 (.slice (some ⟨gg, 0, none⟩) (n + 1) capn) (n + 1) (xs.map (Value.int .i64) ++ [.int .i64 y])) (hg : w1.grownBy w2 (Value.slice ad n cap).ownBlock) (hat : (Value.slice ad n cap).ownBlock = some gg ∨ gg = w0.heap.size + 1) :
    ∃ f', OwnI e w2 (.slice (some ⟨gg, 0, none⟩) (n + 1) capn) (xs ++ [y]) f' ∧ (∀ b ∈ f', b ∈ f ∨ w0.heap.size ≤ b) ∧ Only f w0 w2 := by
  subst hn
  have hfe : f = (Value.slice ad xs.length cap).ownBlock.toList := h.2.1
  refine ⟨[gg], ⟨by simpa using hown, rfl, fun x hx => ?_⟩, fun b hb => ?_, ?_⟩
  · simp at hx
    rcases hx with hx | rfl
    · exact h.2.2 x hx
    · exact hy
  · simp at hb
    subst hb
    rcases hat with hat | hat
    · left; rw [hfe, hat]; simp
    · right; omega
  · rw [hfe]
    exact (Only.of_below h1).trans ⟨hg.os, hg.tape, hg.output, hg.size, fun k hk hn => hg.block k hk (fun e => hn (by rw [← e]; simp))⟩
/-- One row more. -/
theorem ownII_push3 {e1 e : Nat} {w0 : World} {v : Value} {n : Nat} {xs : List (List Int)} {fo : List Nat} (h : OwnII e1 e w0 v xs fo) (hn : xs.length = n) :
    ∃ ad cap us, v = .slice ad n cap ∧ n ≤ cap ∧ cap ≤ 9223372036854775807 ∧ w0.ownsRow 0 e1 1 (.slice ad n cap) n us ∧ ∀ (p : Value) (ys : List Int) (f : List Nat) (w2 : World) (gg capn : Nat), OwnI e w0 p ys f → (∀ b ∈ f, b ∉ fo) →
      w2.ownsRow 0 e1 1 (.slice (some ⟨gg, 0, none⟩) (n + 1) capn) (n + 1) (us ++ [p]) → (w0.alloc (.cells #[p] e1)).grownBy w2 (Value.slice ad n cap).ownBlock → ((Value.slice ad n cap).ownBlock = some gg ∨ gg = w0.heap.size + 1) →
      ∃ f', OwnII e1 e w2 (.slice (some ⟨gg, 0, none⟩) (n + 1) capn) (xs ++ [ys]) f' ∧ (∀ b ∈ f', b ∈ fo ∨ b ∈ f ∨ w0.heap.size ≤ b) ∧ Only fo w0 w2 := by
  subst hn
  have hlt := ownII_lt h
  obtain ⟨us, fs, hown, hone, hels, rfl, hnd⟩ := h
  have hown' := hown
  obtain ⟨ad, cap, rfl, h1, h2, _⟩ := row_open hown'
  refine ⟨ad, cap, us.flatten, rfl, h1, h2, hown, fun p ys f w2 gg capn hp hdis hown2 hg hat => ?_⟩
  have hal : Below w0.heap.size w0 (w0.alloc (.cells #[p] e1)) := (Below.refl _ _).alloc (Nat.le_refl _) _
  obtain ⟨f', a1, a2, a3⟩ := ownS_push2 (El := OElII e) (fun _ _ _ _ _ _ h ho hd => oelII_only h ho hd) hone hels hnd (u := [p]) ⟨p, rfl, hp⟩ rfl hdis (ownI_nodup hp) (ownI_lt hp) (fun b hb => hlt b (by simp [hb])) rfl hal hown2 hg (at_block hat)
  refine ⟨f', a1, fun b hb => ?_, a3.mono (fun b hb => by simp only [List.mem_append]; exact .inl hb)⟩
  rcases a2 b hb with h | h | h
  · exact .inl h
  · exact .inr (.inl h)
  · right; right
    have := hal.size
    omega
/-- The same in a later world. -/
theorem ownII_push4 {e1 e : Nat} {w0 : World} {v : Value} {n : Nat} {xs : List (List Int)} {fo : List Nat} (h : OwnII e1 e w0 v xs fo) (hn : xs.length = n) :
    ∃ ad cap us, v = .slice ad n cap ∧ n ≤ cap ∧ cap ≤ 9223372036854775807 ∧ ∀ (wa : World) (fp' : List Nat), Only fp' w0 wa → (∀ b ∈ fo, b ∉ fp') → wa.ownsRow 0 e1 1 (.slice ad n cap) n us ∧ ∀ (p : Value) (ys : List Int) (f : List Nat) (w2 : World) (gg capn : Nat), OwnI e wa p ys f → (∀ b ∈ f, b ∉ fo) →
      w2.ownsRow 0 e1 1 (.slice (some ⟨gg, 0, none⟩) (n + 1) capn) (n + 1) (us ++ [p]) → (wa.alloc (.cells #[p] e1)).grownBy w2 (Value.slice ad n cap).ownBlock → ((Value.slice ad n cap).ownBlock = some gg ∨ gg = wa.heap.size + 1) →
      ∃ f', OwnII e1 e w2 (.slice (some ⟨gg, 0, none⟩) (n + 1) capn) (xs ++ [ys]) f' ∧ (∀ b ∈ f', b ∈ fo ∨ b ∈ f ∨ wa.heap.size ≤ b) ∧ Only fo wa w2 := by
  subst hn
  have hlt := ownII_lt h
  obtain ⟨us, fs, hown, hone, hels, rfl, hnd⟩ := h
  have hown' := hown
  obtain ⟨ad, cap, rfl, h1, h2, _⟩ := row_open hown'
  refine ⟨ad, cap, us.flatten, rfl, h1, h2, fun wa fp' ho hd => ?_⟩
  have howna := ownsRow_only hown ho (fun g hg => hd g (by simp [hg]))
  have helsa := ownEls_only (w' := wa) (g := fp') (fun u x f h hd => oelII_only h ho hd) hels (fun b hb => hd b (by simp [hb]))
  refine ⟨howna, fun p ys f w2 gg capn hp hdis hown2 hg hat => ?_⟩
  have hal : Below wa.heap.size wa (wa.alloc (.cells #[p] e1)) := (Below.refl _ _).alloc (Nat.le_refl _) _
  have hs := ho.size
  obtain ⟨f', a1, a2, a3⟩ := ownS_push2 (El := OElII e) (fun _ _ _ _ _ _ h ho hd => oelII_only h ho hd) hone helsa hnd (u := [p]) ⟨p, rfl, hp⟩ rfl hdis (ownI_nodup hp) (ownI_lt hp) (fun b hb => by have := hlt b (by simp [hb]); omega) rfl hal hown2 hg (at_block hat)
  refine ⟨f', a1, fun b hb => ?_, a3.mono (fun b hb => by simp only [List.mem_append]; exact .inl hb)⟩
  rcases a2 b hb with h | h | h
  · exact .inl h
  · exact .inr (.inl h)
  · right; right
    have := hal.size
    omega
/-- A copy by an append to an empty slice of the call's own. -/
theorem copy_own {e E n : Nat} {W w1 w2 : World} {xs : List Int} {gg capn : Nat} (hb : Below W.heap.size W w1) (hown : w2.ownsRow 0 e 1 (.slice (some ⟨gg, 0, none⟩) (0 + n) capn) (0 + n) ([] ++ xs.map (Value.int .i64))) (hg : w1.grownBy w2 (some E)) (hE : W.heap.size ≤ E)
    (hat : E = gg ∨ gg = w1.heap.size) (hn : xs.length = n) (hI : ∀ x ∈ xs, I64 x) : OwnI e w2 (.slice (some ⟨gg, 0, none⟩) n capn) xs [gg] ∧ W.heap.size ≤ gg ∧ Below W.heap.size W w2 := by
  rw [Nat.zero_add, List.nil_append] at hown
  have hs := hb.size
  refine ⟨⟨by rw [hn]; exact hown, rfl, hI⟩, ?_, hb.grown hg hs (fun k hk => by simp at hk; omega)⟩
  rcases hat with h | h <;> omega
theorem lit_row {w : World} {e : Nat} : (w.alloc (.cells #[] e)).ownsRow 0 e 1 (.slice (some ⟨w.heap.size, 0, none⟩) 0 0) 0 [] := by
  simpa using World.ownsRow_lit (base := 0) (e := e) (size := 1) w #[] 0 (Nat.zero_le _) (Nat.zero_le _) rfl
theorem Only.newer {fp f : List Nat} {a b c : World} (h : Only fp a b) (k : Only f b c) (hf : ∀ x ∈ f, a.heap.size ≤ x) : Only fp a c :=
  ⟨k.os.trans h.os, k.tape.trans h.tape, k.output.trans h.output, Nat.le_trans h.size k.size, fun x hx hn => (k.block x (Nat.lt_of_lt_of_le hx h.size) (fun hm => by have := hf x hm; omega)).trans (h.block x hx hn)⟩
theorem below_newer {f : List Nat} {a b c : World} (h : Below a.heap.size a b) (k : Only f b c) (hf : ∀ x ∈ f, a.heap.size ≤ x) : Below a.heap.size a c := h.trans (k.below h.size hf)
theorem own_lit {e : Nat} (w : World) : OwnI e (w.alloc (.cells #[] e)) (.slice (some ⟨w.heap.size, 0, none⟩) 0 0) [] [w.heap.size] :=
  ⟨by simpa using World.ownsRow_lit (base := 0) (e := e) (size := 1) w #[] 0 (Nat.zero_le _) (Nat.zero_le _) rfl, rfl, by simp⟩
theorem ownII_lit {e1 e : Nat} (w : World) : OwnII e1 e (w.alloc (.cells #[] e1)) (.slice (some ⟨w.heap.size, 0, none⟩) 0 0) [] [w.heap.size] :=
  ⟨[], [], by simpa using World.ownsRow_lit (base := 0) (e := e1) (size := 1) w #[] 0 (Nat.zero_le _) (Nat.zero_le _) rfl, by simp, rfl, rfl, by simp⟩
theorem below_lit (w : World) (e : Nat) : Below w.heap.size w (w.alloc (.cells #[] e)) := (Below.refl _ _).alloc (Nat.le_refl _) _
/-- A store into a row of rows of the call's own. -/
theorem ownII_set {e1 e : Nat} {w : World} {ad : Option Addr} {len cap : Nat} {xs : List (List Int)} {fp : List Nat} (h : OwnII e1 e w (.slice ad len cap) xs fp) {i : Nat} {x : List Int} (hx : xs[i]? = some x) {k : Nat} {z : Int} (hz : x[k]? = some z) :
    ∃ g b capx, ad = some ⟨g, 0, none⟩ ∧ i < len ∧ w.cell? ⟨g, i, none⟩ = some (.slice (some ⟨b, 0, none⟩) x.length capx) ∧ k < x.length ∧ w.cell? ⟨b, k, none⟩ = some (.int .i64 z) ∧ w.frozen? ⟨b, k, none⟩ = false ∧ b ∈ fp ∧
      ∀ c : Int, I64 c → OwnII e1 e (w.setCell ⟨b, k, none⟩ (.int .i64 c)) (.slice ad len cap) (xs.set i (x.set k c)) fp := by
  obtain ⟨us, fs, hown, hone, hels, hfp, hnd⟩ := h
  have hi := (List.getElem?_eq_some_iff.1 hx).1
  have hk := (List.getElem?_eq_some_iff.1 hz).1
  obtain ⟨A, u, C, f1, f, f3, rfl, hA, rfl, h1, ⟨p, rfl, hp⟩, h3⟩ := ownEls_split hels hx
  obtain ⟨ad', cap', he, _, _, hg⟩ := row_open hown
  injection he with e1' e2' e3'
  subst e1'
  obtain ⟨g, rfl⟩ := hg (by omega)
  obtain ⟨adp, lp, capp, rfl, hlp, _, _, hownp, hgp, hfe⟩ := ownI_open hp
  obtain ⟨b, rfl, rfl⟩ := hgp (by omega)
  subst hlp
  have hfl := flat_get hone (i := i) (u := [Value.slice (some ⟨b, 0, none⟩) x.length capp]) (by rw [← hA]; simp) (j := 0) rfl
  simp only [Nat.mul_one, Nat.add_zero] at hfl
  rw [hfp] at hnd
  rw [List.nodup_append, List.nodup_append] at hnd
  obtain ⟨_, ⟨hn1, hn2, hn3⟩, hn4⟩ := hnd
  rw [List.nodup_append] at hn2
  have hb1 : b ∉ f1 := fun hm => hn3 b hm b (by simp) rfl
  have hb3 : b ∉ f3 := fun hm => hn2.2.2 b (by simp) b hm rfl
  have hbg : g ≠ b := fun e => hn4 g (by simp [Value.ownBlock]) b (by simp) e
  refine ⟨g, b, capp, rfl, by omega, ?_, hk, ?_, hownp.frozenAt k, by rw [hfp]; simp, fun c hc => ?_⟩
  · rw [e2'] at hown
    rw [hown.cellAt i (by omega), hfl]
  · rw [hownp.cellAt k (by omega)]
    simp [hz]
  · have hO : Only [b] w (w.setCell ⟨b, k, none⟩ (.int .i64 c)) := (Only.refl _ _).setCell (by simp) _
    have hs := (hownp.stored k (.int .i64 c)).1
    refine ⟨A ++ [Value.slice (some ⟨b, 0, none⟩) x.length capp] :: C, f1 ++ ([b] ++ f3), ?_, hone, ?_, hfp, by rw [hfp, List.nodup_append, List.nodup_append]; exact ⟨by cases (Value.slice (some ⟨g, 0, none⟩) len cap).ownBlock <;> simp, ⟨hn1, by rw [List.nodup_append]; exact hn2, hn3⟩, hn4⟩⟩
    · rw [List.length_set]
      exact ownsRow_only hown hO (fun g' hg' hm => hbg (by simp [Value.ownBlock] at hg'; rw [hg']; exact List.mem_singleton.1 hm))
    · have hset : xs.set i (x.set k c) = xs.take i ++ x.set k c :: xs.drop (i + 1) := List.set_eq_take_append_cons_drop.trans (if_pos hi)
      rw [hset]
      have h1' : OwnEls (OElII e) (w.setCell ⟨b, k, none⟩ (.int .i64 c)) A (xs.take i) f1 := ownEls_only (fun u x f h hd => oelII_only h hO hd) h1 (fun b' hb' hm => hb1 (List.mem_singleton.1 hm ▸ hb'))
      have h3' : OwnEls (OElII e) (w.setCell ⟨b, k, none⟩ (.int .i64 c)) C (xs.drop (i + 1)) f3 := ownEls_only (fun u x f h hd => oelII_only h hO hd) h3 (fun b' hb' hm => hb3 (List.mem_singleton.1 hm ▸ hb'))
      refine ownEls_append h1' ⟨[b], f3, rfl, ⟨_, rfl, ?_, rfl, fun z' hz' => ?_⟩, h3'⟩
      · rw [List.length_set, List.map_set]; exact hs
      · rcases List.mem_or_eq_of_mem_set hz' with hz' | rfl
        · exact hp.2.2 z' hz'
        · exact hc
end Go.Proofs.YtbcjhpgkodeoeaaGreatDoor

/- Drawn numbers and rows of them. Conditions: a cursor. -/
namespace Go.Proofs.YtbcjhpgkodeoeaaGreatDoor
open Go.RowKit

/-- A number is drawn. -/
def DrawsNum (g : Nat) (w : World) : Ending → World → Prop := fun e w' => ∃ x : Int, e = .returned (.int .i64 x) ∧ 0 ≤ x ∧ x ≤ 1000000270 ∧ Drawn g w w'
set_option maxHeartbeats 1600000 in
theorem num_any (g : Nat) (w : World) (hc : Cur w g) : Calls Tryz.prog 74 #[.pointer (some ⟨g, 0, none⟩)] w (DrawsNum g w) := by
  go_enter Tryz.func74, Tryz.ntmps74
  go_wp2_with fail
  refine (below_any g 8 8 rfl (by omega) (by omega) w hc).mono ?_
  rintro e w1 ⟨x, rfl, hx, hd⟩
  by_cases h0 : x = 0
  · subst h0
    go_wp2
    go_ret
    exact ⟨0, rfl, by omega, by omega, hd⟩
  have h0I : ¬ ((x : Int) = 0) := by omega
  by_cases h1 : x = 1
  · subst h1
    go_wp2
    go_ret
    exact ⟨1, rfl, by omega, by omega, hd⟩
  have h1I : ¬ ((x : Int) = 1) := by omega
  by_cases h2 : x = 2
  · subst h2
    go_wp2_with fail
    refine (sFraction_any 1 2 w1).mono ?_
    rintro e w2 ⟨rfl, rfl⟩
    go_wp2
    go_ret
    exact ⟨_, rfl, (fracZ_bd _ _).1, (fracZ_bd _ _).2, hd⟩
  have h2I : ¬ ((x : Int) = 2) := by omega
  by_cases h3 : x = 3
  · subst h3
    go_wp2_with fail
    refine (below_any g 1000000271 1000000271 rfl (by omega) (by omega) w1 hd.cur).mono ?_
    rintro e w2 ⟨y, rfl, hy, hd2⟩
    go_wp2
    go_ret
    exact ⟨y, rfl, by omega, by omega, hd.trans hd2⟩
  have h3I : ¬ ((x : Int) = 3) := by omega
  go_wp2_with fail
  refine (below_any g 13 13 rfl (by omega) (by omega) w1 hd.cur).mono ?_
  rintro e w2 ⟨y, rfl, hy, hd2⟩
  go_wp2_with fail
  refine (below_any g 6 6 rfl (by omega) (by omega) w2 hd2.cur).mono ?_
  rintro e w3 ⟨z, rfl, hz, hd3⟩
  go_wp2_with fail
  refine (sFraction_any _ _ w3).mono ?_
  rintro e w4 ⟨rfl, rfl⟩
  go_wp2
  go_ret
  exact ⟨_, rfl, (fracZ_bd _ _).1, (fracZ_bd _ _).2, hd.trans (hd2.trans hd3)⟩

/-- Behind an append of one number: what may have changed is the row's own block. -/
theorem ownI_push2 {e : Nat} {w w1 w2 : World} {v v' : Value} {ys : List Int} {f : List Nat} {y : Int} {n : Nat} (h : OwnI e w v ys f) (hn : ys.length = n) (hy : I64 y)
    (h1 : Below w.heap.size w w1) (hown : w2.ownsRow 0 e 1 v' (n + 1) (ys.map (Value.int .i64) ++ [.int .i64 y])) (hg : w1.grownBy w2 v.ownBlock) (hv : ∀ b, v'.ownBlock = some b → v.ownBlock = some b ∨ w1.heap.size ≤ b) :
    ∃ f', OwnI e w2 v' (ys ++ [y]) f' ∧ (∀ b ∈ f', b ∈ f ∨ w1.heap.size ≤ b) ∧ Only f w w2 := by
  subst hn
  have hfe : f = v.ownBlock.toList := h.2.1
  refine ⟨v'.ownBlock.toList, ⟨by simpa using hown, rfl, ?_⟩, fun b hb => ?_, ?_⟩
  · intro x hx
    simp at hx
    rcases hx with hx | rfl
    · exact h.2.2 x hx
    · exact hy
  · rw [Option.mem_toList] at hb
    rcases hv b hb with hb | hb
    · left; rw [hfe, hb]; simp
    · right; exact hb
  · rw [hfe]
    exact (Only.of_below h1).trans ⟨hg.os, hg.tape, hg.output, hg.size, fun k hk hn => hg.block k hk (fun e => hn (by rw [← e]; simp))⟩

/-- A row of n numbers that are drawn. -/
def NumRow (n : Nat) (xs : List Int) : Prop := xs.length = n ∧ ∀ x ∈ xs, 0 ≤ x ∧ x ≤ 1000000270
def DrawsRow (g n : Nat) (w : World) : Ending → World → Prop := fun e w' => ∃ (v : Value) (xs : List Int) (fp : List Nat), e = .returned v ∧ OwnI 3 w' v xs fp ∧ NumRow n xs ∧ (∀ b ∈ fp, w.heap.size ≤ b) ∧ Drawn g w w'
set_option maxRecDepth 100000 in
set_option maxHeartbeats 3200000 in
theorem nums_any (g n : Nat) (nz : Int) (hnz : nz = n) (hn : n ≤ 1000) (w : World) (hc : Cur w g) : Calls Tryz.prog 104 #[.pointer (some ⟨g, 0, none⟩), .int .i64 nz] w (DrawsRow g n w) := by
  obtain ⟨j0, hj, hz0, hz1, hz2⟩ := info_parts Tryz.info_int
  have hgl := hc.lt
  have hal0 : Below w.heap.size w (w.alloc (.cells #[] 3)) := (Below.refl _ _).alloc (Nat.le_refl _) _
  have hi0 := Lib.hid (show OwnI 3 (w.alloc (.cells #[] 3)) (.slice (some ⟨w.heap.size, 0, none⟩) 0 0) [] [w.heap.size] from ⟨by simpa using World.ownsRow_lit (base := 0) (e := 3) (size := 1) w #[] 0 (Nat.zero_le _) (Nat.zero_le _) rfl, rfl, by simp⟩)
  have HD0 := Lib.hid ((Drawn.refl hc).below hal0)
  have HNZ := Lib.hid hnz
  clear hal0 hnz
  go_enter Tryz.func104, Tryz.ntmps104
  go_wp2
  go_loopw [5, 6] (fun p j wq => ∃ (q : Nat) (ys : List Int) (f : List Nat), q ≤ n ∧ j = .int .i64 q ∧ OwnI 3 wq p ys f ∧ NumRow q ys ∧ (∀ b ∈ f, w.heap.size ≤ b) ∧ Drawn g w wq) (fun _ j _ => n - (intOf j).toNat)
  case atStart => exact ⟨0, [], [w.heap.size], Nat.zero_le _, rfl, hi0.out, ⟨rfl, by simp⟩, by simp, HD0.out⟩
  case round =>
    obtain ⟨q, ys, f, hq, rfl, hp, hys, hf, hd⟩ := hrel
    clear hi0
    by_cases hql : q < n
    case neg =>
      obtain rfl : q = n := by omega
      have : ¬ ((q : Int) < nz) := by rw [HNZ.out]; omega
      go_wp2
      go_ret
      exact ⟨_, ys, f, rfl, hp, hys, hf, hd⟩
    have hqI : (q : Int) < nz := by rw [HNZ.out]; omega
    go_wp2_with fail
    refine (num_any g wr hd.cur).mono ?_
    rintro e w1 ⟨x, rfl, hx0, hx1, hd1⟩
    have hgf : ∀ b ∈ f, b ∉ [g] := fun b hb => by have := hf b hb; simp; omega
    have hp1 : OwnI 3 w1 _ ys f := ownI_only hp hd1.only hgf
    obtain ⟨adp, lenp, capp, rfl, hlp, hlpc, hcpm, hownp, _, hfe⟩ := ownI_open hp1
    obtain rfl : lenp = q := by have := hys.1; omega
    have hal : Below w1.heap.size w1 (w1.alloc (.cells #[.int .i64 x] 3)) := (Below.refl _ _).alloc (Nat.le_refl _) _
    have hd01 := hd.trans hd1
    have HP := Lib.hid (fun (w2 : World) (gg capn : Nat) (hown1 : w2.ownsRow 0 3 1 (.slice (some ⟨gg, 0, none⟩) (lenp + 1) capn) (lenp + 1) (ys.map (Value.int .i64) ++ [.int .i64 x]))
        (hgrow : (w1.alloc (.cells #[.int .i64 x] 3)).grownBy w2 (Value.slice adp lenp capp).ownBlock) (hat : (Value.slice adp lenp capp).ownBlock = some gg ∨ gg = w1.heap.size + 1) =>
      show ∃ f', OwnI 3 w2 (.slice (some ⟨gg, 0, none⟩) (lenp + 1) capn) (ys ++ [x]) f' ∧ (∀ b ∈ f', w.heap.size ≤ b) ∧ Drawn g w w2 from by
        obtain ⟨f', h1, h2, h3⟩ := ownI_push2 hp1 hlp ⟨by omega, by omega⟩ hal hown1 hgrow (fun b hb => by
          simp [Value.ownBlock] at hb
          subst hb
          rcases hat with hat | hat
          · left; exact hat
          · right; rw [hat]; simp)
        have hs := hd01.only.size
        have hnew : ∀ b ∈ f', w.heap.size ≤ b := fun b hb => by
          rcases h2 b hb with hb | hb
          · exact hf b hb
          · have := hal.size; omega
        exact ⟨f', h1, hnew, Only.newer hd01.only h3 hf, hd01.cur.only h3 (fun hg => by have := hf _ hg; omega) (fun b hb => by have := hf b hb; omega)⟩)
    have HNP := Lib.hid hownp
    clear hownp hfe hlp hp1 hal
    go_wp2_with (first | (at_builtin; refine wpList_append_lies _ rfl _ _ _ rfl 0 3 j0 _ 1 8 Tryz.underlying35 hj hz0 hz1 hz2 rfl (by omega) (.slice adp lenp capp) lenp _ (by rfl) (HNP.out.alloc _) ⟨w1.heap.size, 0, none⟩ 1 1 [.int .i64 x] (by rfl) (by rfl) (World.news_of_block (cs := #[.int .i64 x]) (t := 3) (fr := (0, 0)) (heap_alloc_new w1 _)) (by simp [Value.oneCell']) (by omega) (by unfold maxLen; omega) (by omega) (by simp) (w1.heap.size + 1) (by simp) ?_; intro gg capn w1 hown1 hgrow hat hlt1; obtain ⟨f', hP1, hP2, hP3⟩ := HP.out w1 gg capn hown1 hgrow hat; have HPP := Lib.hid hP1))
    all_goals (
      go_roundw
      case rel => exact ⟨lenp + 1, ys ++ [x], f', by omega, by go_num, HPP.out, ⟨by simp [hys.1], fun y hy => by
        rcases List.mem_append.1 hy with hy | hy
        · exact hys.2 y hy
        · rw [List.mem_singleton.1 hy]; exact ⟨hx0, hx1⟩⟩, hP2, hP3⟩
      case measure => simp [intOf]; omega)
end Go.Proofs.YtbcjhpgkodeoeaaGreatDoor

/- A slice copied. Conditions: none. -/
namespace Go.Proofs.YtbcjhpgkodeoeaaGreatDoor
open Go.RowKit

theorem rdI_news {w : World} {b off n cap : Nat} {xs : List Int} (h : RdI w (.slice (some ⟨b, off, none⟩) n cap) xs) : ∀ (j : Nat) u, (xs.map (Value.int .i64))[j]? = some u → w.cell? ((⟨b, off, none⟩ : Addr).add j) = some u := by
  intro j u hu
  obtain ⟨ad', len', cap', he, hl, _, _, _⟩ := rdS_open h
  injection he with e1 e2 e3
  subst e2
  rw [List.getElem?_map] at hu
  cases hx : xs[j]? with
  | none => rw [hx] at hu; simp at hu
  | some x =>
    rw [hx] at hu
    simp only [Option.map_some, Option.some.injEq] at hu
    have hj : j < n := by rw [← hl]; exact (List.getElem?_eq_some_iff.1 hx).1
    obtain ⟨b', off', x', hb, hx', hc, _, _⟩ := rdI_get h hj
    simp only [Option.some.injEq, Addr.mk.injEq] at hb
    obtain ⟨rfl, rfl, _⟩ := hb
    rw [hx] at hx'
    obtain rfl := Option.some.inj hx'
    have hadd : (⟨b, off, none⟩ : Addr).add j = ⟨b, off + j, none⟩ := by unfold Addr.add; split <;> simp_all
    rw [hadd, hc, hu]

/-- A copy of a slice by an append to an empty one. -/
theorem clone_own {e n : Nat} {W w2 : World} {y : List Int} {gg capn : Nat} (hown : w2.ownsRow 0 e 1 (.slice (some ⟨gg, 0, none⟩) (0 + n) capn) (0 + n) ([] ++ y.map (Value.int .i64))) (hg : (W.alloc (.cells #[] e)).grownBy w2 (some W.heap.size))
    (hat : some W.heap.size = some gg ∨ gg = W.heap.size + 1) (hn : y.length = n) (hI : ∀ x ∈ y, I64 x) : OwnI e w2 (.slice (some ⟨gg, 0, none⟩) n capn) y [gg] ∧ W.heap.size ≤ gg ∧ Below W.heap.size W w2 := by
  rw [Nat.zero_add, List.nil_append] at hown
  have hb1 : Below W.heap.size W (W.alloc (.cells #[] e)) := (Below.refl _ _).alloc (Nat.le_refl _) _
  refine ⟨⟨by rw [hn]; exact hown, rfl, hI⟩, ?_, hb1.grown hg hb1.size (fun k hk => by simp at hk; omega)⟩
  rcases hat with h | h
  · simp at h; omega
  · omega
end Go.Proofs.YtbcjhpgkodeoeaaGreatDoor

/- Appending a readable row of numbers, perhaps empty, to one of the call's own. Conditions: short rows. -/
namespace Go.Proofs.YtbcjhpgkodeoeaaGreatDoor
open Go.RowKit

/-- A row that can be appended. -/
def SrcI (w : World) (x : Value) (ys : List Int) : Prop := RdI w x ys ∧ (x = .slice none 0 0 ∨ ∃ b off m c, x = .slice (some ⟨b, off, none⟩) m c)
theorem srcI_own {e : Nat} {w : World} {x : Value} {ys : List Int} {f : List Nat} (h : OwnI e w x ys f) : SrcI w x ys := by
  refine ⟨ownI_rd h, ?_⟩
  obtain ⟨_, ⟨rfl, _⟩ | ⟨g, cap, cur, rfl, _⟩⟩ := h.1
  · exact .inl rfl
  · exact .inr ⟨g, 0, _, cap, rfl⟩
theorem srcI_below {w w' : World} {x : Value} {ys : List Int} (h : SrcI w x ys) (hb : Below w.heap.size w w') : SrcI w' x ys := ⟨rdI_mono hb h.1, h.2⟩
theorem append_I {P : Program} {w : World} (t ty e : TypeId) (i : TypeInfo) (ht : P.underlying t = some (.slice e)) (hi : P.info? e = some i) (hz : i.zero = some (.int .i64 0)) (hsize : i.size = 1) (hby : i.bytes = 8)
    {v x : Value} {xs ys : List Int} {f : List Nat} (hv : OwnI e w v xs f) (hx : SrcI w x ys) (hn : xs.length + ys.length ≤ 1000000) :
    ∃ v' w' f', (Builtin.append_ #[t, t] ty #[v, x]).run P w = .ok v' w' ∧ OwnI e w' v' (xs ++ ys) f' ∧ (∀ b ∈ f', b ∈ f ∨ w.heap.size ≤ b) ∧ Only f w w' := by
  have hyI := i64_all hx.1
  have hfe := hv.2.1
  rcases hx.2 with rfl | ⟨b, off, m, c, rfl⟩
  · obtain ⟨_, _, he, _, _, _⟩ := hx.1
    injection he with e1 e2 e3
    obtain rfl := List.eq_nil_of_length_eq_zero e2.symm
    exact ⟨v, w, f, run_append_owned_none (P := P) (w := w) 0 t ty e i 1 ht hi v xs.length _ hv.1, by simpa using hv, fun b hb => .inl hb, Only.refl _ _⟩
  · obtain ⟨_, _, _, he, hl, _, _, _⟩ := rdS_open hx.1
    injection he with e1 e2 e3
    subst e2
    obtain ⟨v', w', hr, h2, h3, _, h5⟩ := run_append_own_at (P := P) w 0 t ty e i (.int .i64 0) 1 8 ht hi hz hsize hby rfl (by omega) v xs.length _ hv.1 ⟨b, off, none⟩ m c (ys.map (Value.int .i64)) (by rw [List.length_map, hl, Nat.mul_one]) (rdI_news hx.1) (by intro u hu; simp only [List.mem_map] at hu; obtain ⟨z, _, rfl⟩ := hu; rfl)
      (by unfold maxLen; omega) (by omega) (Nat.zero_le _)
    refine ⟨v', w', v'.ownBlock.toList, hr, ⟨by simpa [hl] using h2, rfl, fun z hz => ?_⟩, fun b hb => ?_, ?_⟩
    · rcases List.mem_append.1 hz with hz | hz
      · exact hv.2.2 z hz
      · exact hyI z hz
    · rw [Option.mem_toList] at hb
      rcases h5 with h5 | h5
      · left; rw [hfe, ← h5, hb]; simp
      · right; rw [h5] at hb; simp at hb; omega
    · rw [hfe]
      exact ⟨h3.os, h3.tape, h3.output, h3.size, fun k hk hn => h3.block k hk (fun e => hn (by rw [← e]; simp))⟩
/-- One step of a region that draws. -/
theorem step_append_I {P : Program} (w : World) {ops : Array Oper} {o : Oper} {a : Act} {K : Act → World → Prop} {Q : Exit → Act → World → Prop} {E : Prop} (hgd : o.guard = none) (s x : Operand) (t e : TypeId) (ho : o.op = .call { callee := .builtin .append, args := #[s, x], argTypes := #[t, t] })
    (i : TypeInfo) (ht : P.underlying t = some (.slice e)) (hi : P.info? e = some i) (hz : i.zero = some (.int .i64 0)) (hsize : i.size = 1) (hby : i.bytes = 8)
    {v vx : Value} {xs ys : List Int} {f : List Nat} (hs : a.eval s = v) (hxx : a.eval x = vx) (hv : OwnI e w v xs f) (hx : SrcI w vx ys) (hn : xs.length + ys.length ≤ 1000000)
    (h : ∀ v' w' f', OwnI e w' v' (xs ++ ys) f' → (∀ b ∈ f', b ∈ f ∨ w.heap.size ≤ b) → Only f w w' → K (a.put o.dst v') w') :
    if Region.wanted o (yielded ops a.tmps) = true then Oper.wp P o a w K Q else E := by
  have hw : Region.wanted o (yielded ops a.tmps) = true := by simp [Region.wanted, hgd]
  rw [if_pos hw]
  obtain ⟨v', w', f', hr, h2, h3, h4⟩ := append_I (P := P) (w := w) t o.type e i ht hi hz hsize hby hv hx hn
  exact Lib.wp_append_run w s x t t ho _ _ hs hxx _ _ hr (h v' w' f' h2 h3 h4)
theorem wpList_append_I {P : Program} (w : World) {ops : Array Oper} {rest : List Oper} {o : Oper} {a : Act} {Q : Exit → Act → World → Prop} (hgd : o.guard = none) (s x : Operand) (t e : TypeId) (ho : o.op = .call { callee := .builtin .append, args := #[s, x], argTypes := #[t, t] })
    (i : TypeInfo) (ht : P.underlying t = some (.slice e)) (hi : P.info? e = some i) (hz : i.zero = some (.int .i64 0)) (hsize : i.size = 1) (hby : i.bytes = 8)
    {v vx : Value} {xs ys : List Int} {f : List Nat} (hs : a.eval s = v) (hxx : a.eval x = vx) (hv : OwnI e w v xs f) (hx : SrcI w vx ys) (hn : xs.length + ys.length ≤ 1000000)
    (h : ∀ v' w' f', OwnI e w' v' (xs ++ ys) f' → (∀ b ∈ f', b ∈ f ∨ w.heap.size ≤ b) → Only f w w' → wpList P ops Q rest (a.put o.dst v') w') : wpList P ops Q (o :: rest) a w := by
  obtain ⟨v', w', f', hr, h2, h3, h4⟩ := append_I (P := P) (w := w) t o.type e i ht hi hz hsize hby hv hx hn
  exact Lib.wpList_append_run w hgd s x t t ho _ _ hs hxx _ _ hr (h v' w' f' h2 h3 h4)
end Go.Proofs.YtbcjhpgkodeoeaaGreatDoor

/- Tableaus: readings, what is owned, and the laws' copying, comparing, marking. Conditions: none. -/
namespace Go.Proofs.YtbcjhpgkodeoeaaGreatDoor
open Go.RowKit Go.Sort

/-- A tableau. -/
structure TabZ where
  stages : Int
  A : List Int
  B : List Int
deriving Inhabited
def RdTab (w : World) (v : Value) (t : TabZ) : Prop := ∃ vA vB, v = .agg #[.int .i64 t.stages, vA, vB] ∧ I64 t.stages ∧ RdI w vA t.A ∧ RdI w vB t.B
def OwnTab (e : Nat) (w : World) (v : Value) (t : TabZ) (fp : List Nat) : Prop := ∃ vA vB fA fB, v = .agg #[.int .i64 t.stages, vA, vB] ∧ I64 t.stages ∧ OwnI e w vA t.A fA ∧ OwnI e w vB t.B fB ∧ fp = fA ++ fB ∧ fp.Nodup
theorem rdTab_mono {w w' : World} {v : Value} {t : TabZ} (hb : Below w.heap.size w w') (h : RdTab w v t) : RdTab w' v t := by
  obtain ⟨vA, vB, rfl, hI, hA, hB⟩ := h
  exact ⟨vA, vB, rfl, hI, rdI_mono hb hA, rdI_mono hb hB⟩
theorem ownTab_rd {e : Nat} {w : World} {v : Value} {t : TabZ} {fp : List Nat} (h : OwnTab e w v t fp) : RdTab w v t := by
  obtain ⟨vA, vB, fA, fB, rfl, hI, hA, hB, _, _⟩ := h
  exact ⟨vA, vB, rfl, hI, ownI_rd hA, ownI_rd hB⟩
theorem ownTab_lt {e : Nat} {w : World} {v : Value} {t : TabZ} {fp : List Nat} (h : OwnTab e w v t fp) : ∀ b ∈ fp, b < w.heap.size := by
  obtain ⟨vA, vB, fA, fB, rfl, hI, hA, hB, rfl, _⟩ := h
  intro b hb
  simp at hb
  exact hb.elim (ownI_lt hA b) (ownI_lt hB b)
theorem ownTab_only {e : Nat} {w w' : World} {v : Value} {t : TabZ} {fp fp' : List Nat} (h : OwnTab e w v t fp) (ho : Only fp' w w') (hd : ∀ b ∈ fp, b ∉ fp') : OwnTab e w' v t fp := by
  obtain ⟨vA, vB, fA, fB, rfl, hI, hA, hB, rfl, hn⟩ := h
  exact ⟨vA, vB, fA, fB, rfl, hI, ownI_only hA ho (fun b hb => hd b (by simp [hb])), ownI_only hB ho (fun b hb => hd b (by simp [hb])), rfl, hn⟩
theorem rdI_slice {w : World} {v : Value} {xs : List Int} (h : RdI w v xs) : ∃ ad len cap, v = .slice ad len cap := by
  obtain ⟨ad, len, cap, rfl, _⟩ := rdS_open h
  exact ⟨_, _, _, rfl⟩

def Fit_Tab (t : TabZ) : Prop := t.A.length ≤ 1048576 ∧ t.B.length ≤ 1048576
def mk_Tab (k : Int) (t : TabZ) : TabZ := ⟨t.stages, marks k t.A.length, marks (k + t.A.length) t.B.length⟩
def cnt_Tab (t : TabZ) : Nat := t.A.length + t.B.length

end Go.Proofs.YtbcjhpgkodeoeaaGreatDoor
