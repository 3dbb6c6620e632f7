/- The texts Frac, Mem, Mon, Fld, FldInv, Push in one: each says at its head what it proves. Conditions: as said there. -/
import Derived.Test.YtbcjhpgkodeoeaaGreatDoorRows
import Derived.Deep.AppendLies
import Derived.Test.YtbcjhpgkodeoeaaGreatDoorK02
import Derived.Test.YtbcjhpgkodeoeaaGreatDoorK01
set_option linter.unusedSimpArgs false
set_option linter.unusedVariables false
/- Fractions of numbers: both programs. Conditions: none. -/
namespace Go.Proofs.YtbcjhpgkodeoeaaGreatDoor
open Go.RowKit

def fracZ (a b : Int) : Int := timesZ a (powZ b 1000000269)
theorem fracZ_bd (a b : Int) : 0 ≤ fracZ a b ∧ fracZ a b ≤ 1000000270 := timesZ_bd _ _
theorem inverse_any (a : Int) (w : World) : Calls Tryz.prog 127 #[.int .i64 a] w fun e w' => e = .returned (.int .i64 (powZ a 1000000269)) ∧ w = w' := by
  go_enter Tryz.func127, Tryz.ntmps127
  go_wp2_with (go_at_call 97; ((with_reducible refine (power_any _ _ _ (by omega)).mono ?_); rintro e w' ⟨rfl, rfl⟩))
  go_ret
  exact ⟨rfl, rfl⟩
theorem fraction_any (a b : Int) (w : World) : Calls Tryz.prog 65 #[.int .i64 a, .int .i64 b] w fun e w' => e = .returned (.int .i64 (fracZ a b)) ∧ w = w' := by
  go_enter Tryz.func65, Tryz.ntmps65
  go_wp2_with (first | (go_at_call 127; ((with_reducible refine (inverse_any _ _).mono ?_); rintro e w' ⟨rfl, rfl⟩)) | (go_at_call 66; ((with_reducible refine (times_any _ _ _).mono ?_); rintro e w' ⟨rfl, rfl⟩)))
  go_ret
  exact ⟨rfl, rfl⟩
theorem sInverse_any (a : Int) (w : World) : Calls Tryz.prog 129 #[.int .i64 a] w fun e w' => e = .returned (.int .i64 (powZ a 1000000269)) ∧ w = w' := by
  go_enter Tryz.func129, Tryz.ntmps129
  go_wp2_with (go_at_call 34; ((with_reducible refine (sPower_any _ _ _ (by omega)).mono ?_); rintro e w' ⟨rfl, rfl⟩))
  go_ret
  exact ⟨rfl, rfl⟩
theorem sFraction_any (a b : Int) (w : World) : Calls Tryz.prog 75 #[.int .i64 a, .int .i64 b] w fun e w' => e = .returned (.int .i64 (fracZ a b)) ∧ w = w' := by
  go_enter Tryz.func75, Tryz.ntmps75
  go_wp2_with (first | (go_at_call 129; ((with_reducible refine (sInverse_any _ _).mono ?_); rintro e w' ⟨rfl, rfl⟩)) | (go_at_call 23; ((with_reducible refine (sTimes_any _ _ _).mono ?_); rintro e w' ⟨rfl, rfl⟩)))
  go_ret
  exact ⟨rfl, rfl⟩
end Go.Proofs.YtbcjhpgkodeoeaaGreatDoor

/- The copying, comparing, marking of slices of ints: what each call returns and does to memory. Conditions: none. -/
namespace Go.Proofs.YtbcjhpgkodeoeaaGreatDoor
open Go.RowKit

theorem Tryz.info_int : (Tryz.prog.info? 3).map (fun i => (i.zero, i.size, i.bytes)) = some (some (.int .i64 0), 1, 8) := by kernel_rfl
theorem Tryz.info_ints : (Tryz.prog.info? 35).map (fun i => (i.zero, i.size, i.bytes)) = some (some (.slice none 0 0), 1, 24) := by kernel_rfl

theorem ownI_nodup {e : Nat} {w : World} {v : Value} {xs : List Int} {fp : List Nat} (h : OwnI e w v xs fp) : fp.Nodup := by
  rw [h.2.1]
  cases v.ownBlock <;> simp

/-- The value of an owned slice: its shape, and its block where it is not empty. -/
theorem row_open {w : World} {B e size n : Nat} {v : Value} {cs : List Value} (h : w.ownsRow B e size v n cs) :
    ∃ ad cap, v = .slice ad n cap ∧ n ≤ cap ∧ cap ≤ 9223372036854775807 ∧ (0 < n → ∃ g, ad = some ⟨g, 0, none⟩) := by
  obtain ⟨_, ⟨rfl, h2⟩ | ⟨g, cap, cur, rfl, _, _, h4, h5, _⟩⟩ := h
  · exact ⟨none, 0, by rw [h2], by omega, by omega, fun hp => by omega⟩
  · exact ⟨_, cap, rfl, h4, h5, fun _ => ⟨g, rfl⟩⟩

end Go.Proofs.YtbcjhpgkodeoeaaGreatDoor

/- Monomials and slices of them: readings, what is owned, and the laws' copying, comparing, marking. Conditions: none. -/
namespace Go.Proofs.YtbcjhpgkodeoeaaGreatDoor
open Go.RowKit Go.Sort

/-- A monomial: its number and its powers. -/
structure MonZ where
  coef : Int
  pows : List Int
deriving Inhabited

def ElMon (w : World) (us : List Value) (m : MonZ) : Prop := ∃ vP, us = [.int .i64 m.coef, vP] ∧ I64 m.coef ∧ RdI w vP m.pows
def OElMon (e : Nat) (w : World) (us : List Value) (m : MonZ) (fp : List Nat) : Prop := ∃ vP, us = [.int .i64 m.coef, vP] ∧ I64 m.coef ∧ OwnI e w vP m.pows fp
/-- []Monomial -/
abbrev RdMs := RdS 2 ElMon
def OwnMs (e2 e : Nat) : World → Value → List MonZ → List Nat → Prop := OwnS e2 2 (OElMon e)

theorem elMon_mono {w w' : World} {us : List Value} {m : MonZ} (hb : Below w.heap.size w w') (h : ElMon w us m) : ElMon w' us m := by
  obtain ⟨vP, rfl, hI, h⟩ := h
  exact ⟨vP, rfl, hI, rdI_mono hb h⟩
theorem rdMs_mono {w w' : World} {v : Value} {xs : List MonZ} (hb : Below w.heap.size w w') (h : RdMs w v xs) : RdMs w' v xs := rdS_mono (fun _ _ h => elMon_mono hb h) hb h
theorem oelMon_only {e : Nat} {w w' : World} {us : List Value} {x : MonZ} {fp fp' : List Nat} (h : OElMon e w us x fp) (ho : Only fp' w w') (hd : ∀ g ∈ fp, g ∉ fp') : OElMon e w' us x fp := by
  obtain ⟨u, rfl, hI, h⟩ := h
  exact ⟨u, rfl, hI, ownI_only h ho hd⟩
theorem oelMon_lt {e : Nat} {w : World} {us : List Value} {x : MonZ} {fp : List Nat} (h : OElMon e w us x fp) : ∀ g ∈ fp, g < w.heap.size := by
  obtain ⟨u, rfl, hI, h⟩ := h
  exact ownI_lt h
theorem oelMon_rd {e : Nat} {w : World} {us : List Value} {x : MonZ} {fp : List Nat} (h : OElMon e w us x fp) : ElMon w us x := by
  obtain ⟨u, rfl, hI, h⟩ := h
  exact ⟨u, rfl, hI, ownI_rd h⟩
theorem ownMs_rd {e2 e : Nat} {w : World} {v : Value} {xs : List MonZ} {fp : List Nat} (h : OwnMs e2 e w v xs fp) : RdMs w v xs := ownS_rd (fun _ _ _ h => oelMon_rd h) h
theorem ownMs_lt {e2 e : Nat} {w : World} {v : Value} {xs : List MonZ} {fp : List Nat} (h : OwnMs e2 e w v xs fp) : ∀ b ∈ fp, b < w.heap.size := ownS_lt (fun _ _ _ h => oelMon_lt h) h
theorem ownMs_only {e2 e : Nat} {w w' : World} {v : Value} {xs : List MonZ} {fp fp' : List Nat} (h : OwnMs e2 e w v xs fp) (ho : Only fp' w w') (hd : ∀ b ∈ fp, b ∉ fp') : OwnMs e2 e w' v xs fp :=
  ownS_only (fun _ _ _ h hd => oelMon_only h ho hd) h ho hd

theorem rdMs_get {w : World} {ad : Option Addr} {len cap : Nat} {xs : List MonZ} (h : RdMs w (.slice ad len cap) xs)
    {k : Nat} (hk : k < len) : ∃ b off ad' len' cap' x, ad = some ⟨b, off, none⟩ ∧ xs[k]? = some x ∧ w.cell? ⟨b, off + k * 2, none⟩ = some (.int .i64 x.coef) ∧ w.cell? ⟨b, off + k * 2 + 1, none⟩ = some (.slice ad' len' cap') ∧
      I64 x.coef ∧ x.pows.length = len' ∧ len' ≤ cap' ∧ cap' ≤ 9223372036854775807 ∧ RdI w (.slice ad' len' cap') x.pows ∧ b < w.heap.size := by
  obtain ⟨b, off, us, x, h1, h2, h3, h4, u, rfl, hI, h5⟩ := rdS_get h hk
  have c0 := h4 0 _ rfl
  have c1 := h4 1 _ rfl
  simp only [Nat.add_zero] at c0
  obtain ⟨ad', len', cap', rfl, h6, h7, h8, h9⟩ := rdS_open h5
  exact ⟨b, off, ad', len', cap', x, h1, h2, c0, c1, hI, h6, h7, h8, h9, World.block_lt_of_cell? _ _ c0⟩

theorem Tryz.info_mon : (Tryz.prog.info? 56).map (fun i => (i.zero, i.size, i.bytes)) = some (some (.agg #[.int .i64 0, .slice none 0 0]), 2, 32) := by kernel_rfl

def Fit_Mon (m : MonZ) : Prop := m.pows.length ≤ 1048576
end Go.Proofs.YtbcjhpgkodeoeaaGreatDoor

/- Fields: readings, what is owned, and the laws' copying, comparing, marking. Conditions: none. -/
namespace Go.Proofs.YtbcjhpgkodeoeaaGreatDoor
open Go.RowKit Go.Sort

def ElMss (w : World) (us : List Value) (x : List MonZ) : Prop := ∃ u, us = [u] ∧ RdMs w u x
def OElMss (e2 e : Nat) (w : World) (us : List Value) (x : List MonZ) (fp : List Nat) : Prop := ∃ u, us = [u] ∧ OwnMs e2 e w u x fp
/-- [][]Monomial -/
abbrev RdMss := RdS 1 ElMss
def OwnMss (e1 e2 e : Nat) : World → Value → List (List MonZ) → List Nat → Prop := OwnS e1 1 (OElMss e2 e)

theorem elMss_mono {w w' : World} {us : List Value} {x : List MonZ} (hb : Below w.heap.size w w') (h : ElMss w us x) : ElMss w' us x := by
  obtain ⟨u, rfl, h⟩ := h
  exact ⟨u, rfl, rdMs_mono hb h⟩
theorem rdMss_mono {w w' : World} {v : Value} {xs : List (List MonZ)} (hb : Below w.heap.size w w') (h : RdMss w v xs) : RdMss w' v xs := rdS_mono (fun _ _ h => elMss_mono hb h) hb h
theorem oelMss_only {e2 e : Nat} {w w' : World} {us : List Value} {x : List MonZ} {fp fp' : List Nat} (h : OElMss e2 e w us x fp) (ho : Only fp' w w') (hd : ∀ g ∈ fp, g ∉ fp') : OElMss e2 e w' us x fp := by
  obtain ⟨u, rfl, h⟩ := h
  exact ⟨u, rfl, ownMs_only h ho hd⟩
theorem oelMss_lt {e2 e : Nat} {w : World} {us : List Value} {x : List MonZ} {fp : List Nat} (h : OElMss e2 e w us x fp) : ∀ g ∈ fp, g < w.heap.size := by
  obtain ⟨u, rfl, h⟩ := h
  exact ownMs_lt h
theorem ownMss_rd {e1 e2 e : Nat} {w : World} {v : Value} {xs : List (List MonZ)} {fp : List Nat} (h : OwnMss e1 e2 e w v xs fp) : RdMss w v xs := ownS_rd (fun _ _ _ ⟨u, hu, h⟩ => ⟨u, hu, ownMs_rd h⟩) h
theorem ownMss_lt {e1 e2 e : Nat} {w : World} {v : Value} {xs : List (List MonZ)} {fp : List Nat} (h : OwnMss e1 e2 e w v xs fp) : ∀ b ∈ fp, b < w.heap.size := ownS_lt (fun _ _ _ h => oelMss_lt h) h
theorem ownMss_only {e1 e2 e : Nat} {w w' : World} {v : Value} {xs : List (List MonZ)} {fp fp' : List Nat} (h : OwnMss e1 e2 e w v xs fp) (ho : Only fp' w w') (hd : ∀ b ∈ fp, b ∉ fp') : OwnMss e1 e2 e w' v xs fp :=
  ownS_only (fun _ _ _ h hd => oelMss_only h ho hd) h ho hd
theorem ownMs_nodup {e2 e : Nat} {w : World} {v : Value} {xs : List MonZ} {fp : List Nat} (h : OwnMs e2 e w v xs fp) : fp.Nodup := by
  obtain ⟨_, _, _, _, _, _, h⟩ := h
  exact h
theorem ownMs_open {e2 e : Nat} {w : World} {v : Value} {xs : List MonZ} {fp : List Nat} (h : OwnMs e2 e w v xs fp) : ∃ ad len cap, v = .slice ad len cap := by
  obtain ⟨_, _, h, _⟩ := h
  obtain ⟨ad, cap, rfl, _⟩ := row_open h
  exact ⟨_, _, _, rfl⟩

theorem rdMss_get {w : World} {ad : Option Addr} {len cap : Nat} {xs : List (List MonZ)} (h : RdMss w (.slice ad len cap) xs)
    {k : Nat} (hk : k < len) : ∃ b off ad' len' cap' x, ad = some ⟨b, off, none⟩ ∧ xs[k]? = some x ∧ w.cell? ⟨b, off + k, none⟩ = some (.slice ad' len' cap') ∧
      x.length = len' ∧ len' ≤ cap' ∧ cap' ≤ 9223372036854775807 ∧ RdMs w (.slice ad' len' cap') x ∧ b < w.heap.size := by
  obtain ⟨b, off, us, x, h1, h2, h3, h4, u, rfl, h5⟩ := rdS_get h hk
  have := h4 0 _ rfl
  simp only [Nat.mul_one, Nat.add_zero] at this
  obtain ⟨ad', len', cap', rfl, h6, h7, h8, h9⟩ := rdS_open h5
  exact ⟨b, off, ad', len', cap', x, h1, h2, this, h6, h7, h8, h9, World.block_lt_of_cell? _ _ this⟩

theorem Tryz.info_mons : (Tryz.prog.info? 24).map (fun i => (i.zero, i.size, i.bytes)) = some (some (.slice none 0 0), 1, 24) := by kernel_rfl

/-- A field: its dimension and its polynomials. -/
structure FldZ where
  dim : Int
  parts : List (List MonZ)
deriving Inhabited
def RdFld (w : World) (v : Value) (f : FldZ) : Prop := ∃ vP, v = .agg #[.int .i64 f.dim, vP] ∧ I64 f.dim ∧ RdMss w vP f.parts
def OwnFld (e1 e2 e : Nat) (w : World) (v : Value) (f : FldZ) (fp : List Nat) : Prop := ∃ vP, v = .agg #[.int .i64 f.dim, vP] ∧ I64 f.dim ∧ OwnMss e1 e2 e w vP f.parts fp
theorem rdFld_mono {w w' : World} {v : Value} {f : FldZ} (hb : Below w.heap.size w w') (h : RdFld w v f) : RdFld w' v f := by
  obtain ⟨vP, rfl, hI, h⟩ := h
  exact ⟨vP, rfl, hI, rdMss_mono hb h⟩
theorem rdMss_slice {w : World} {v : Value} {xs : List (List MonZ)} (h : RdMss w v xs) : ∃ ad len cap, v = .slice ad len cap := by
  obtain ⟨ad, len, cap, rfl, _⟩ := rdS_open h
  exact ⟨_, _, _, rfl⟩
theorem ownMss_slice {e1 e2 e : Nat} {w : World} {v : Value} {xs : List (List MonZ)} {fp : List Nat} (h : OwnMss e1 e2 e w v xs fp) : ∃ ad len cap, v = .slice ad len cap := rdMss_slice (ownMss_rd h)

end Go.Proofs.YtbcjhpgkodeoeaaGreatDoor

/- A field that is being made: its box, and its parts so far. Conditions: none. -/
namespace Go.Proofs.YtbcjhpgkodeoeaaGreatDoor
open Go.RowKit Go.Sort

theorem ownS_push2 {α : Type} {e size : Nat} {El : World → List Value → α → List Nat → Prop} (hE : ∀ w w' u x f g, El w u x f → Only g w w' → (∀ b ∈ f, b ∉ g) → El w' u x f)
    {w w1 w2 : World} {v v' : Value} {xs : List α} {x : α} {us : List (List Value)} {u : List Value} {fs f : List Nat} {n : Nat}
    (hone : ∀ u ∈ us, u.length = size) (hels : OwnEls El w us xs fs) (hnd : (v.ownBlock.toList ++ fs).Nodup) (hx : El w u x f) (hul : u.length = size) (hdis : ∀ b ∈ f, b ∉ v.ownBlock.toList ++ fs) (hfn : f.Nodup)
    (hfl : ∀ b ∈ f, b < w.heap.size) (hsl : ∀ b ∈ fs, b < w.heap.size) (hn : xs.length = n)
    (h1 : Below w.heap.size w w1) (hown : w2.ownsRow 0 e size v' (n + 1) (us.flatten ++ u)) (hg : w1.grownBy w2 v.ownBlock) (hv : ∀ b, v'.ownBlock = some b → v.ownBlock = some b ∨ w1.heap.size ≤ b) :
    ∃ fp', OwnS e size El w2 v' (xs ++ [x]) fp' ∧ (∀ b ∈ fp', b ∈ v.ownBlock.toList ++ fs ∨ b ∈ f ∨ w1.heap.size ≤ b) ∧ Only v.ownBlock.toList w w2 := by
  subst hn
  have hO : Only v.ownBlock.toList w w2 := (Only.of_below h1).trans ⟨hg.os, hg.tape, hg.output, hg.size, fun k hk hn => hg.block k hk (fun e => hn (by rw [← e]; simp))⟩
  rw [List.nodup_append] at hnd
  have hv' : ∀ b, v'.ownBlock = some b → (b ∈ v.ownBlock.toList ∨ w1.heap.size ≤ b) := fun b hb => (hv b hb).imp (fun h => by rw [h]; simp) id
  refine ⟨v'.ownBlock.toList ++ (fs ++ f), ⟨us ++ [u], fs ++ f, by simpa using hown, ?_, ?_, rfl, ?_⟩, ?_, hO⟩
  · intro u' hu'
    simp at hu'
    rcases hu' with hu' | rfl
    · exact hone u' hu'
    · exact hul
  · refine ownEls_snoc (ownEls_only (fun u x f h hd => hE _ _ _ _ _ _ h hO hd) hels (fun b hb hm => hnd.2.2 b hm b hb rfl)) (hE _ _ _ _ _ _ hx hO (fun b hb hm => hdis b hb (by simp at hm; simp [hm])))
  · rw [List.nodup_append, List.nodup_append]
    refine ⟨by cases v'.ownBlock <;> simp, ⟨hnd.2.1, hfn, fun a ha b hb e => hdis b hb (by simp [← e, ha])⟩, fun a ha b hb e => ?_⟩
    subst e
    rw [Option.mem_toList] at ha
    have h1s := h1.size
    rcases hv' a ha with h | h
    · simp at hb
      rcases hb with hb | hb
      · exact hnd.2.2 a h a hb rfl
      · exact hdis a hb (by simp at h; simp [h])
    · simp at hb
      rcases hb with hb | hb
      · have := hsl a hb; omega
      · have := hfl a hb; omega
  · intro b hb
    simp only [List.mem_append, Option.mem_toList] at hb
    rcases hb with hb | hb | hb
    · rcases hv b hb with h | h
      · left; simp [h]
      · right; right; exact h
    · left; simp [hb]
    · right; left; exact hb

/-- A field that is being made: its box, and its parts so far. -/
structure FldInv (e1 e2 e : Nat) (W w : World) (Bf : Nat) (dim : Int) (v : Value) (xs : List (List MonZ)) (fs : List Nat) : Prop where
  own : OwnMss e1 e2 e w v xs fs
  new : ∀ b ∈ fs, W.heap.size ≤ b
  only : Only [Bf] W w
  c0 : w.cell? ⟨Bf, 0, none⟩ = some (.int .i64 dim)
  c1 : w.cell? ⟨Bf, 1, none⟩ = some v
  f1 : w.frozen? ⟨Bf, 1, none⟩ = false
  lt : Bf < W.heap.size
theorem fldInv_start {e1 e2 e t : Nat} {w : World} {dim : Int} {W : World} (hW : W = w.alloc (.cells #[.int .i64 dim, .slice none 0 0] t)) : FldInv e1 e2 e W W w.heap.size dim (.slice none 0 0) [] [] := by
  subst hW
  exact ⟨⟨[], [], World.ownsRow_nil _ _ _ _, by simp, rfl, rfl, by simp⟩, by simp, Only.refl _ _, by simp, by simp, by simp, by simp⟩
theorem FldInv.below {e1 e2 e : Nat} {w0 W w : World} {Bf : Nat} {dim : Int} {v : Value} {xs : List (List MonZ)} {fs : List Nat} (h : FldInv e1 e2 e W w Bf dim v xs fs) (hb : Below w0.heap.size w0 W) (hB : w0.heap.size ≤ Bf) : Below w0.heap.size w0 w :=
  hb.trans (h.only.below hb.size (by simpa using hB))
/-- Behind a call, an append to the parts, and the store of the new slice of parts. -/
theorem FldInv.push {e1 e2 e : Nat} {W w wa w1 w2 : World} {Bf : Nat} {dim : Int} {v v' p : Value} {xs : List (List MonZ)} {x : List MonZ} {us : List (List Value)} {fs f : List Nat} {n : Nat}
    (h : FldInv e1 e2 e W w Bf dim v xs (v.ownBlock.toList ++ fs)) (hone : ∀ u ∈ us, u.length = 1) (hels : OwnEls (OElMss e2 e) w us xs fs) (hnd : (v.ownBlock.toList ++ fs).Nodup) (hown0 : w.ownsRow 0 e1 1 v xs.length us.flatten) (hn : xs.length = n)
    (hp : OwnMs e2 e wa p x f) (hf : ∀ b ∈ f, w.heap.size ≤ b) (hq : Below w.heap.size w wa) (h1 : Below wa.heap.size wa w1) (hown : w2.ownsRow 0 e1 1 v' (n + 1) (us.flatten ++ [p])) (hg : w1.grownBy w2 v.ownBlock)
    (hv : ∀ b, v'.ownBlock = some b → v.ownBlock = some b ∨ w1.heap.size ≤ b) :
    w2.cell? ⟨Bf, 1, none⟩ = some v ∧ w2.frozen? ⟨Bf, 1, none⟩ = false ∧ ∃ fp', FldInv e1 e2 e W (w2.setCell ⟨Bf, 1, none⟩ v') Bf dim v' (xs ++ [x]) fp' := by
  have hlt : ∀ b ∈ v.ownBlock.toList ++ fs, b < w.heap.size := fun b hb => by
    simp only [List.mem_append, Option.mem_toList] at hb
    rcases hb with hb | hb
    · exact (hown0.lt b hb).2
    · exact ownEls_lt (fun _ _ _ h => oelMss_lt h) hels b hb
  have hWw := h.only.size
  have hq1 := hq.size
  have h11 := h1.size
  have hBlt := h.lt
  obtain ⟨fp', hP, hfp, hO⟩ := ownS_push2 (El := OElMss e2 e) (w := wa) (w1 := w1) (f := f) (fs := fs) (fun w w' u x f g h ho hd => oelMss_only h ho hd) hone (ownEls_only (fun u x f' h hd => oelMss_only h (Only.of_below (fp := []) hq) hd) hels (by simp)) hnd ⟨p, rfl, hp⟩ rfl
    (fun b hb hm => by have := hf b hb; have := hlt b hm; omega) (ownMs_nodup hp) (ownMs_lt hp) (fun b hb => by have := hlt b (by simp [hb]); omega) hn h1 hown hg hv
  have hBn : Bf ∉ v.ownBlock.toList := fun hm => by have := h.new Bf (by simp only [List.mem_append]; left; exact hm); omega
  have hfn : ∀ b ∈ fp', W.heap.size ≤ b := fun b hb => by
    rcases hfp b hb with h2 | h2 | h2
    · exact h.new b h2
    · have := hf b h2; omega
    · omega
  have hOw : Only v.ownBlock.toList w w2 := (Only.of_below hq).trans hO
  have hSt : Only [Bf] w2 (w2.setCell ⟨Bf, 1, none⟩ v') := (Only.refl _ _).setCell (by simp) _
  have hc1 := cell_only hOw hBn h.c1
  have hc0 := cell_only hOw hBn h.c0
  have hf1 : w2.frozen? ⟨Bf, 1, none⟩ = false := (World.frozen?_of_block (hOw.block Bf (by omega) hBn)).trans h.f1
  refine ⟨hc1, hf1, fp', ⟨ownMss_only hP hSt (fun b hb hm => by have := hfn b hb; simp at hm; omega), hfn, ?_, ?_, World.cell?_setCell_same _ _ _ hc1, ?_, hBlt⟩⟩
  · refine ⟨by rw [hSt.os, hOw.os, h.only.os], by rw [hSt.tape, hOw.tape, h.only.tape], by rw [hSt.output, hOw.output, h.only.output], by have := hSt.size; have := hOw.size; omega, fun k hk hn => ?_⟩
    rw [hSt.block k (by have := hOw.size; omega) hn, hOw.block k (by omega) (fun hm => by have := h.new k (by simp only [List.mem_append]; left; exact hm); omega), h.only.block k hk hn]
  · exact (World.cell?_setCell_other _ _ _ _ (by simp)).trans hc0
  · rw [World.frozen?_setCell]; exact hf1

end Go.Proofs.YtbcjhpgkodeoeaaGreatDoor

/- Appending one element to a row of the call's own: what it leaves. Conditions: none. -/
namespace Go.Proofs.YtbcjhpgkodeoeaaGreatDoor
open Go.RowKit Go.Sort

theorem at_block {ad : Option Addr} {n cap gg c2 n2 : Nat} {w0 : World} {o : Obj} (hat : (Value.slice ad n cap).ownBlock = some gg ∨ gg = w0.heap.size + 1) :
    ∀ b, (Value.slice (some ⟨gg, 0, none⟩) n2 c2).ownBlock = some b → (Value.slice ad n cap).ownBlock = some b ∨ (w0.alloc o).heap.size ≤ b := fun b hb => by
  simp [Value.ownBlock] at hb
  subst hb
  rcases hat with hat | hat
  · left; exact hat
  · right; rw [hat]; simp
/-- One number more. -/
theorem ownI_push3 {e : Nat} {w0 w2 : World} {ad : Option Addr} {n cap gg capn : Nat} {f : List Nat} {xs : List Int} {y : Int} (h : OwnI e w0 (.slice ad n cap) xs f) (hn : xs.length = n) (hy : I64 y)
    (hown : w2.ownsRow 0 e 1 (.slice (some ⟨gg, 0, none⟩) (n + 1) capn) (n + 1) (xs.map (Value.int .i64) ++ [.int .i64 y])) (hg : (w0.alloc (.cells #[.int .i64 y] e)).grownBy w2 (Value.slice ad n cap).ownBlock) (hat : (Value.slice ad n cap).ownBlock = some gg ∨ gg = w0.heap.size + 1) :
    ∃ f', OwnI e w2 (.slice (some ⟨gg, 0, none⟩) (n + 1) capn) (xs ++ [y]) f' ∧ (∀ b ∈ f', b ∈ f ∨ w0.heap.size ≤ b) ∧ Only f w0 w2 := by
  subst hn
  have hal : Below w0.heap.size w0 (w0.alloc (.cells #[.int .i64 y] e)) := (Below.refl _ _).alloc (Nat.le_refl _) _
  have hfe : f = (Value.slice ad xs.length cap).ownBlock.toList := h.2.1
  refine ⟨[gg], ⟨by simpa using hown, rfl, fun x hx => ?_⟩, fun b hb => ?_, ?_⟩
  · simp at hx
    rcases hx with hx | rfl
    · exact h.2.2 x hx
    · exact hy
  · simp at hb
    subst hb
    rcases hat with hat | hat
    · left; rw [hfe, hat]; simp
    · right; omega
  · rw [hfe]
    exact (Only.of_below hal).trans ⟨hg.os, hg.tape, hg.output, hg.size, fun k hk hn => hg.block k hk (fun e => hn (by rw [← e]; simp))⟩
/-- The same in a later world. -/
theorem ownII_push4 {e1 e : Nat} {w0 : World} {v : Value} {n : Nat} {xs : List (List Int)} {fo : List Nat} (h : OwnII e1 e w0 v xs fo) (hn : xs.length = n) :
    ∃ ad cap us, v = .slice ad n cap ∧ n ≤ cap ∧ cap ≤ 9223372036854775807 ∧ ∀ (wa : World) (fp' : List Nat), Only fp' w0 wa → (∀ b ∈ fo, b ∉ fp') → wa.ownsRow 0 e1 1 (.slice ad n cap) n us ∧ ∀ (p : Value) (ys : List Int) (f : List Nat) (w2 : World) (gg capn : Nat), OwnI e wa p ys f → (∀ b ∈ f, b ∉ fo) →
      w2.ownsRow 0 e1 1 (.slice (some ⟨gg, 0, none⟩) (n + 1) capn) (n + 1) (us ++ [p]) → (wa.alloc (.cells #[p] e1)).grownBy w2 (Value.slice ad n cap).ownBlock → ((Value.slice ad n cap).ownBlock = some gg ∨ gg = wa.heap.size + 1) →
      ∃ f', OwnII e1 e w2 (.slice (some ⟨gg, 0, none⟩) (n + 1) capn) (xs ++ [ys]) f' ∧ (∀ b ∈ f', b ∈ fo ∨ b ∈ f ∨ wa.heap.size ≤ b) ∧ Only fo wa w2 := by
  subst hn
  have hlt := ownII_lt h
  obtain ⟨us, fs, hown, hone, hels, rfl, hnd⟩ := h
  have hown' := hown
  obtain ⟨ad, cap, rfl, h1, h2, _⟩ := row_open hown'
  refine ⟨ad, cap, us.flatten, rfl, h1, h2, fun wa fp' ho hd => ?_⟩
  have howna := ownsRow_only hown ho (fun g hg => hd g (by simp [hg]))
  have helsa := ownEls_only (w' := wa) (g := fp') (fun u x f h hd => oelII_only h ho hd) hels (fun b hb => hd b (by simp [hb]))
  refine ⟨howna, fun p ys f w2 gg capn hp hdis hown2 hg hat => ?_⟩
  have hal : Below wa.heap.size wa (wa.alloc (.cells #[p] e1)) := (Below.refl _ _).alloc (Nat.le_refl _) _
  have hs := ho.size
  obtain ⟨f', a1, a2, a3⟩ := ownS_push2 (El := OElII e) (fun _ _ _ _ _ _ h ho hd => oelII_only h ho hd) hone helsa hnd (u := [p]) ⟨p, rfl, hp⟩ rfl hdis (ownI_nodup hp) (ownI_lt hp) (fun b hb => by have := hlt b (by simp [hb]); omega) rfl hal hown2 hg (at_block hat)
  refine ⟨f', a1, fun b hb => ?_, a3.mono (fun b hb => by simp only [List.mem_append]; exact .inl hb)⟩
  rcases a2 b hb with h | h | h
  · exact .inl h
  · exact .inr (.inl h)
  · right; right
    have := hal.size
    omega
/-- A copy by an append to an empty slice of the call's own. -/
theorem copy_own {e E n : Nat} {W w1 w2 : World} {xs : List Int} {gg capn : Nat} (hb : Below W.heap.size W w1) (hown : w2.ownsRow 0 e 1 (.slice (some ⟨gg, 0, none⟩) (0 + n) capn) (0 + n) ([] ++ xs.map (Value.int .i64))) (hg : w1.grownBy w2 (some E)) (hE : W.heap.size ≤ E)
    (hat : E = gg ∨ gg = w1.heap.size) (hn : xs.length = n) (hI : ∀ x ∈ xs, I64 x) : OwnI e w2 (.slice (some ⟨gg, 0, none⟩) n capn) xs [gg] ∧ W.heap.size ≤ gg ∧ Below W.heap.size W w2 := by
  rw [Nat.zero_add, List.nil_append] at hown
  have hs := hb.size
  refine ⟨⟨by rw [hn]; exact hown, rfl, hI⟩, ?_, hb.grown hg hs (fun k hk => by simp at hk; omega)⟩
  rcases hat with h | h <;> omega
theorem lit_row {w : World} {e : Nat} : (w.alloc (.cells #[] e)).ownsRow 0 e 1 (.slice (some ⟨w.heap.size, 0, none⟩) 0 0) 0 [] := by
  simpa using World.ownsRow_lit (base := 0) (e := e) (size := 1) w #[] 0 (Nat.zero_le _) (Nat.zero_le _) rfl
theorem Only.newer {fp f : List Nat} {a b c : World} (h : Only fp a b) (k : Only f b c) (hf : ∀ x ∈ f, a.heap.size ≤ x) : Only fp a c :=
  ⟨k.os.trans h.os, k.tape.trans h.tape, k.output.trans h.output, Nat.le_trans h.size k.size, fun x hx hn => (k.block x (Nat.lt_of_lt_of_le hx h.size) (fun hm => by have := hf x hm; omega)).trans (h.block x hx hn)⟩
theorem below_newer {f : List Nat} {a b c : World} (h : Below a.heap.size a b) (k : Only f b c) (hf : ∀ x ∈ f, a.heap.size ≤ x) : Below a.heap.size a c := h.trans (k.below h.size hf)
theorem own_lit {e : Nat} (w : World) : OwnI e (w.alloc (.cells #[] e)) (.slice (some ⟨w.heap.size, 0, none⟩) 0 0) [] [w.heap.size] :=
  ⟨by simpa using World.ownsRow_lit (base := 0) (e := e) (size := 1) w #[] 0 (Nat.zero_le _) (Nat.zero_le _) rfl, rfl, by simp⟩
theorem ownII_lit {e1 e : Nat} (w : World) : OwnII e1 e (w.alloc (.cells #[] e1)) (.slice (some ⟨w.heap.size, 0, none⟩) 0 0) [] [w.heap.size] :=
  ⟨[], [], by simpa using World.ownsRow_lit (base := 0) (e := e1) (size := 1) w #[] 0 (Nat.zero_le _) (Nat.zero_le _) rfl, by simp, rfl, rfl, by simp⟩
theorem below_lit (w : World) (e : Nat) : Below w.heap.size w (w.alloc (.cells #[] e)) := (Below.refl _ _).alloc (Nat.le_refl _) _
/-- A store into a row of rows of the call's own. -/
theorem ownII_set {e1 e : Nat} {w : World} {ad : Option Addr} {len cap : Nat} {xs : List (List Int)} {fp : List Nat} (h : OwnII e1 e w (.slice ad len cap) xs fp) {i : Nat} {x : List Int} (hx : xs[i]? = some x) {k : Nat} {z : Int} (hz : x[k]? = some z) :
    ∃ g b capx, ad = some ⟨g, 0, none⟩ ∧ i < len ∧ w.cell? ⟨g, i, none⟩ = some (.slice (some ⟨b, 0, none⟩) x.length capx) ∧ k < x.length ∧ w.cell? ⟨b, k, none⟩ = some (.int .i64 z) ∧ w.frozen? ⟨b, k, none⟩ = false ∧ b ∈ fp ∧
      ∀ c : Int, I64 c → OwnII e1 e (w.setCell ⟨b, k, none⟩ (.int .i64 c)) (.slice ad len cap) (xs.set i (x.set k c)) fp := by
  obtain ⟨us, fs, hown, hone, hels, hfp, hnd⟩ := h
  have hi := (List.getElem?_eq_some_iff.1 hx).1
  have hk := (List.getElem?_eq_some_iff.1 hz).1
  obtain ⟨A, u, C, f1, f, f3, rfl, hA, rfl, h1, ⟨p, rfl, hp⟩, h3⟩ := ownEls_split hels hx
  obtain ⟨ad', cap', he, _, _, hg⟩ := row_open hown
  injection he with e1' e2' e3'
  subst e1'
  obtain ⟨g, rfl⟩ := hg (by omega)
  obtain ⟨adp, lp, capp, rfl, hlp, _, _, hownp, hgp, hfe⟩ := ownI_open hp
  obtain ⟨b, rfl, rfl⟩ := hgp (by omega)
  subst hlp
  have hfl := flat_get hone (i := i) (u := [Value.slice (some ⟨b, 0, none⟩) x.length capp]) (by rw [← hA]; simp) (j := 0) rfl
  simp only [Nat.mul_one, Nat.add_zero] at hfl
  rw [hfp] at hnd
  rw [List.nodup_append, List.nodup_append] at hnd
  obtain ⟨_, ⟨hn1, hn2, hn3⟩, hn4⟩ := hnd
  rw [List.nodup_append] at hn2
  have hb1 : b ∉ f1 := fun hm => hn3 b hm b (by simp) rfl
  have hb3 : b ∉ f3 := fun hm => hn2.2.2 b (by simp) b hm rfl
  have hbg : g ≠ b := fun e => hn4 g (by simp [Value.ownBlock]) b (by simp) e
  refine ⟨g, b, capp, rfl, by omega, ?_, hk, ?_, hownp.frozenAt k, by rw [hfp]; simp, fun c hc => ?_⟩
  · rw [e2'] at hown
    rw [hown.cellAt i (by omega), hfl]
  · rw [hownp.cellAt k (by omega)]
    simp [hz]
  · have hO : Only [b] w (w.setCell ⟨b, k, none⟩ (.int .i64 c)) := (Only.refl _ _).setCell (by simp) _
    have hs := (hownp.stored k (.int .i64 c)).1
    refine ⟨A ++ [Value.slice (some ⟨b, 0, none⟩) x.length capp] :: C, f1 ++ ([b] ++ f3), ?_, hone, ?_, hfp, by rw [hfp, List.nodup_append, List.nodup_append]; exact ⟨by cases (Value.slice (some ⟨g, 0, none⟩) len cap).ownBlock <;> simp, ⟨hn1, by rw [List.nodup_append]; exact hn2, hn3⟩, hn4⟩⟩
    · rw [List.length_set]
      exact ownsRow_only hown hO (fun g' hg' hm => hbg (by simp [Value.ownBlock] at hg'; rw [hg']; exact List.mem_singleton.1 hm))
    · have hset : xs.set i (x.set k c) = xs.take i ++ x.set k c :: xs.drop (i + 1) := List.set_eq_take_append_cons_drop.trans (if_pos hi)
      rw [hset]
      have h1' : OwnEls (OElII e) (w.setCell ⟨b, k, none⟩ (.int .i64 c)) A (xs.take i) f1 := ownEls_only (fun u x f h hd => oelII_only h hO hd) h1 (fun b' hb' hm => hb1 (List.mem_singleton.1 hm ▸ hb'))
      have h3' : OwnEls (OElII e) (w.setCell ⟨b, k, none⟩ (.int .i64 c)) C (xs.drop (i + 1)) f3 := ownEls_only (fun u x f h hd => oelII_only h hO hd) h3 (fun b' hb' hm => hb3 (List.mem_singleton.1 hm ▸ hb'))
      refine ownEls_append h1' ⟨[b], f3, rfl, ⟨_, rfl, ?_, rfl, fun z' hz' => ?_⟩, h3'⟩
      · rw [List.length_set, List.map_set]; exact hs
      · rcases List.mem_or_eq_of_mem_set hz' with hz' | rfl
        · exact hp.2.2 z' hz'
        · exact hc
end Go.Proofs.YtbcjhpgkodeoeaaGreatDoor
