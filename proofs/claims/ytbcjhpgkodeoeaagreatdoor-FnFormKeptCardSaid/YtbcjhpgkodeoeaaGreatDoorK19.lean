/- The texts Fermat, SerR, SerP in one: each says at its head what it proves. Conditions: as said there. -/
import Derived.Test.YtbcjhpgkodeoeaaGreatDoorK02
import Derived.Test.YtbcjhpgkodeoeaaGreatDoorK18
import Derived.Test.YtbcjhpgkodeoeaaGreatDoorK16
import Derived.Test.YtbcjhpgkodeoeaaGreatDoorK07
set_option linter.unusedSimpArgs false
set_option linter.unusedVariables false
/- The number 1000000271 is prime, and what is not zero has an inverse: Fermat's law. Plain: no program's step stands here. -/
namespace Go.Proofs.YtbcjhpgkodeoeaaGreatDoor

/-- Pascal's numbers. -/
def ch : Nat → Nat → Nat
  | _, 0 => 1
  | 0, _ + 1 => 0
  | n + 1, k + 1 => ch n k + ch n (k + 1)
theorem ch_zero (n : Nat) : ch n 0 = 1 := by cases n <;> rfl
theorem ch_succ (n k : Nat) : ch (n + 1) (k + 1) = ch n k + ch n (k + 1) := rfl
theorem ch_abs : ∀ n k, (k + 1) * ch (n + 1) (k + 1) = (n + 1) * ch n k
  | 0, 0 => rfl
  | 0, k + 1 => by simp [ch]
  | n + 1, 0 => by
    have h := ch_abs n 0
    rw [ch_succ, ch_zero]
    rw [ch_zero] at h
    omega
  | n + 1, j + 1 => by
    have h1 := ch_abs n j
    have h2 := ch_abs n (j + 1)
    rw [ch_succ (n + 1) (j + 1), Nat.mul_add, h2]
    have h3 : (j + 1 + 1) * ch (n + 1) (j + 1) = (n + 1) * ch n j + ch (n + 1) (j + 1) := by rw [← h1]; grind
    rw [h3, ch_succ n j]
    grind
theorem ch_out : ∀ n k, n < k → ch n k = 0
  | 0, k + 1, _ => rfl
  | n + 1, k + 1, h => by rw [ch_succ, ch_out n k (by omega), ch_out n (k + 1) (by omega)]
def chS (n x : Nat) : Nat → Nat
  | 0 => 0
  | m + 1 => chS n x m + ch n m * x ^ m
theorem chS_succ (n x : Nat) : ∀ m, chS (n + 1) x (m + 1) = chS n x (m + 1) + x * chS n x m
  | 0 => by simp [chS, ch_zero]
  | m + 1 => by
    rw [chS, chS_succ n x m, chS, chS, chS, ch_succ]
    grind
theorem chS_pow (x : Nat) : ∀ n, (x + 1) ^ n = chS n x (n + 1)
  | 0 => by simp [chS, ch]
  | n + 1 => by
    rw [chS_succ, Nat.pow_succ, chS_pow x n]
    have : chS n x (n + 1 + 1) = chS n x (n + 1) := by rw [chS, ch_out n (n + 1) (by omega)]; simp
    rw [this]
    grind
/-- Nothing divides it but 1 and itself. -/
def Prim (p : Nat) : Prop := 1 < p ∧ ∀ d, d ∣ p → d = 1 ∨ d = p
theorem prim_coprime {p k : Nat} (hp : Prim p) (hk : ¬ p ∣ k) : Nat.Coprime p k := by
  rcases hp.2 _ (Nat.gcd_dvd_left p k) with h | h
  · exact h
  · exact absurd (h ▸ Nat.gcd_dvd_right p k) hk
theorem prim_ch {p k : Nat} (hp : Prim p) (h0 : 0 < k) (hk : k < p) : p ∣ ch p k := by
  obtain ⟨n, rfl⟩ : ∃ n, p = n + 1 := ⟨p - 1, by omega⟩
  obtain ⟨j, rfl⟩ : ∃ j, k = j + 1 := ⟨k - 1, by omega⟩
  have h : (n + 1) ∣ (j + 1) * ch (n + 1) (j + 1) := ⟨ch n j, ch_abs n j⟩
  exact (prim_coprime hp (fun hd => by have := Nat.le_of_dvd (by omega) hd; omega)).dvd_of_dvd_mul_left h
theorem chS_mod {p x : Nat} (hp : Prim p) : ∀ m, m < p → chS p x (m + 1) % p = 1
  | 0, _ => by rw [chS, chS, ch_zero]; simp; exact Nat.mod_eq_of_lt hp.1
  | m + 1, h => by
    obtain ⟨c, hc⟩ := prim_ch hp (by omega : 0 < m + 1) h
    rw [chS, hc, Nat.mul_assoc, Nat.add_mul_mod_self_left]
    exact chS_mod hp m (by omega)
theorem ch_self : ∀ n, ch n n = 1
  | 0 => rfl
  | n + 1 => by rw [ch_succ, ch_self n, ch_out n (n + 1) (by omega)]
theorem fermat {p : Nat} (hp : Prim p) : ∀ a, a ^ p % p = a % p
  | 0 => by rw [Nat.zero_pow (by have := hp.1; omega)]
  | a + 1 => by
    have h2 := hp.1
    have h1 : chS p a (p + 1) = chS p a p + ch p p * a ^ p := rfl
    rw [chS_pow, h1, ch_self, Nat.one_mul]
    have h3 : chS p a p % p = 1 := by
      have := chS_mod (x := a) hp (p - 1) (by omega)
      rwa [show p - 1 + 1 = p by omega] at this
    rw [Nat.add_mod, h3, fermat hp a, ← Nat.add_mod_mod, Nat.mod_mod, Nat.add_comm a 1, Nat.add_mod_mod]
theorem fermat_one {p a : Nat} (hp : Prim p) (ha : ¬ p ∣ a) : a ^ (p - 1) % p = 1 := by
  have h2 := hp.1
  have h0 : 0 < a := Nat.pos_of_ne_zero fun h => ha (h ▸ Nat.dvd_zero p)
  have h1 := fermat hp a
  have hx : 1 ≤ a ^ (p - 1) := Nat.one_le_iff_ne_zero.2 (Nat.pos_iff_ne_zero.1 (Nat.pow_pos h0))
  have h3 : a ^ p = a * a ^ (p - 1) := by
    conv => lhs; rw [show p = p - 1 + 1 by omega]
    rw [Nat.pow_succ, Nat.mul_comm]
  have h4 : p ∣ a * (a ^ (p - 1) - 1) := by
    rw [Nat.mul_sub, Nat.mul_one, ← h3]
    exact Nat.dvd_of_mod_eq_zero (Nat.sub_mod_eq_zero_of_mod_eq h1)
  obtain ⟨c, hc⟩ := (prim_coprime hp ha).dvd_of_dvd_mul_left h4
  rw [show a ^ (p - 1) = 1 + p * c by omega, Nat.add_mul_mod_self_left]
  exact Nat.mod_eq_of_lt h2

theorem no_div : ((List.range 31624).all fun d => d < 2 || 1000000271 % d != 0) = true := by decide +kernel
theorem prime_p : Prim 1000000271 := by
  refine ⟨by omega, fun d hd => ?_⟩
  obtain ⟨e, he⟩ := hd
  have key : ∀ x y : Nat, 1000000271 = x * y → x ≤ y → x = 1 := fun x y h hxy => by
    have hx : x < 31624 := by
      apply Nat.lt_of_not_le
      intro hge
      have : 31624 * 31624 ≤ x * y := Nat.mul_le_mul hge (by omega)
      omega
    have := List.all_eq_true.1 no_div x (List.mem_range.2 hx)
    have hm : 1000000271 % x = 0 := Nat.mod_eq_zero_of_dvd ⟨y, h⟩
    simp [hm] at this
    rcases (by omega : x = 0 ∨ x = 1) with rfl | rfl
    · simp at h
    · rfl
  rcases Nat.le_total d e with h | h
  · exact .inl (key d e he h)
  · have := key e d (by rw [he, Nat.mul_comm]) h
    subst this
    omega
/-- What is not zero has an inverse. -/
theorem inv_one {a : Int} (h : a % 1000000271 ≠ 0) : timesZ a (powZ a 1000000269) = 1 := by
  obtain ⟨r, hr⟩ : ∃ r : Nat, a % 1000000271 = r := ⟨(a % 1000000271).toNat, by omega⟩
  have hf := fermat_one (a := r) prime_p (fun hd => by have := Nat.le_of_dvd (by omega) hd; omega)
  have hp : powZ a 1000000269 = a ^ (1000000269 : Nat) % 1000000271 := by unfold powZ; rw [if_neg (by omega)]; rfl
  have h1 : ∀ k : Nat, a ^ k % 1000000271 = (r : Int) ^ k % 1000000271 := fun k => by
    induction k with
    | zero => simp
    | succ k ih => rw [Int.pow_succ, Int.pow_succ, Int.mul_emod, ih, hr, Int.mul_emod (↑r ^ k), Int.emod_eq_of_lt (a := (r : Int)) (by omega) (by omega)]
  unfold timesZ
  rw [hp, Int.mul_emod, Int.emod_emod, ← Int.mul_emod, Int.mul_comm, ← Int.pow_succ, h1]
  have := congrArg (Nat.cast (R := Int)) hf
  simpa using this
#print axioms inv_one
end Go.Proofs.YtbcjhpgkodeoeaaGreatDoor

/- A form of two stepped vectors is that of the two before: steps of several stages with a symplectic tableau, and solutions of differential equations. Plain: no program's step stands here. -/
namespace Go.Proofs.YtbcjhpgkodeoeaaGreatDoor

/-- a vector moved by some stages: z + h (c 0 F 0 + c 1 F 1 + ..) -/
def stg (z : Vec) (c : Nat → Int) (F : Nat → Vec) : Nat → Vec
  | 0 => z
  | n + 1 => vad (stg z c F n) (vsc (c n) (vsh (F n)))
theorem stg_bil (L : Frm) (z y : Vec) (c : Nat → Int) (F : Nat → Vec) (k : Nat) : ∀ n, bil L (stg z c F n) y k = bil L z y k + sm (fun j => c j * sh (bil L (F j) y) k) n
  | 0 => by simp [stg, sm]
  | n + 1 => by
    rw [stg, ad_bil, sc_bil, vsh_bil, sm]
    show bil L (stg z c F n) y k + c n * sh (bil L (F n) y) k = _
    rw [stg_bil L z y c F k n]
    omega
theorem bil_stg (L : Frm) (z y : Vec) (c : Nat → Int) (F : Nat → Vec) (k : Nat) : ∀ n, bil L y (stg z c F n) k = bil L y z k + sm (fun j => c j * sh (bil L y (F j)) k) n
  | 0 => by simp [stg, sm]
  | n + 1 => by
    rw [stg, bil_ad, bil_sc, bil_sh, sm]
    show bil L y (stg z c F n) k + c n * sh (bil L y (F n)) k = _
    rw [bil_stg L z y c F k n]
    omega
theorem sm_sub (f g : Nat → Int) (n : Nat) : sm (fun i => f i - g i) n = sm f n - sm g n := by
  have h := sm_add f (fun i => (-1) * g i) n
  rw [sm_mul] at h
  have : sm (fun i => f i - g i) n = sm (fun i => f i + -1 * g i) n := sm_congr fun i _ => by omega
  rw [this, h]
  omega
theorem rk_core (b : Nat → Int) (a X : Nat → Nat → Int) (P Q : Nat → Int) (n : Nat) :
    sm (fun j => b j * (P j - sm (fun i => a j i * X i j) n)) n + sm (fun i => b i * ((Q i - sm (fun j => a i j * X i j) n) + sm (fun j => b j * X i j) n)) n
    = sm (fun i => b i * (P i + Q i)) n + sm (fun i => sm (fun j => (b i * b j - (b i * a i j + b j * a j i)) * X i j) n) n := by
  have h1 : sm (fun j => b j * (P j - sm (fun i => a j i * X i j) n)) n = sm (fun j => b j * P j) n - sm (fun j => sm (fun i => b j * a j i * X i j) n) n := by
    rw [← sm_sub]
    refine sm_congr fun j _ => ?_
    rw [Int.mul_sub, ← sm_mul]
    congr 1
    exact sm_congr fun i _ => by rw [Int.mul_assoc]
  have h2 : sm (fun i => b i * ((Q i - sm (fun j => a i j * X i j) n) + sm (fun j => b j * X i j) n)) n = sm (fun i => b i * Q i) n - sm (fun i => sm (fun j => b i * a i j * X i j) n) n + sm (fun i => sm (fun j => b i * b j * X i j) n) n := by
    rw [← sm_sub, ← sm_add]
    refine sm_congr fun i _ => ?_
    rw [Int.mul_add, Int.mul_sub, ← sm_mul, ← sm_mul]
    congr 1
    · congr 1
      exact sm_congr fun j _ => by rw [Int.mul_assoc]
    · exact sm_congr fun j _ => by rw [Int.mul_assoc]
  have h3 : sm (fun i => b i * (P i + Q i)) n = sm (fun i => b i * P i) n + sm (fun i => b i * Q i) n := by
    rw [← sm_add]
    exact sm_congr fun i _ => by rw [Int.mul_add]
  have h4 : sm (fun i => sm (fun j => (b i * b j - (b i * a i j + b j * a j i)) * X i j) n) n = sm (fun i => sm (fun j => b i * b j * X i j) n) n - sm (fun i => sm (fun j => b i * a i j * X i j) n) n - sm (fun i => sm (fun j => b j * a j i * X i j) n) n := by
    rw [← sm_sub, ← sm_sub]
    refine sm_congr fun i _ => ?_
    rw [← sm_sub, ← sm_sub]
    exact sm_congr fun j _ => by grind
  rw [h1, h2, h3, h4, sm_swap (fun i j => b j * a j i * X i j)]
  omega

theorem res_sub {a b c d : Int} (h : resZ a = resZ b) (g : resZ c = resZ d) : resZ (a - c) = resZ (b - d) := by
  unfold resZ at h g ⊢
  omega
theorem res_sm_zero {f : Nat → Int} {n : Nat} (h : ∀ i, i < n → resZ (f i) = 0) : resZ (sm f n) = 0 := by
  have := res_sm (f := f) (g := fun _ => 0) (n := n) (fun i hi => by rw [h i hi]; rfl)
  rw [this, sm_zero]
  rfl
/-- Steps with b i a i j + b j a j i = b i b j. -/
theorem rk_form {N st : Nat} {L : Frm} {z w : Vec} {a : Nat → Nat → Int} {b : Nat → Int} {F G Z W : Nat → Vec}
    (hZ : ∀ i, i < st → VSm N (Z i) (stg z (a i) F st)) (hW : ∀ i, i < st → VSm N (W i) (stg w (a i) G st))
    (hB : ∀ i, i < st → Sm N (ad (bil L (F i) (W i)) (bil L (Z i) (G i))) ze)
    (hs : ∀ i j, i < st → j < st → resZ (b i * a i j + b j * a j i) = resZ (b i * b j)) :
    Sm (N + 1) (bil L (stg z b F st) (stg w b G st)) (bil L z w) := by
  intro k hk
  rw [stg_bil, bil_stg]
  cases k with
  | zero =>
    have h1 : sm (fun j => b j * sh (bil L z (G j)) 0) st = 0 := by
      rw [← sm_zero st]
      exact sm_congr fun j _ => by simp [sh]
    have h2 : sm (fun j => b j * sh (bil L (F j) (stg w b G st)) 0) st = 0 := by
      rw [← sm_zero st]
      exact sm_congr fun j _ => by simp [sh]
    rw [h1, h2]
    simp
  | succ m =>
    have hm : m < N := by omega
    have e1 : sm (fun j => b j * sh (bil L z (G j)) (m + 1)) st = sm (fun j => b j * bil L z (G j) m) st := sm_congr fun j _ => by simp [sh]
    have e2 : sm (fun i => b i * sh (bil L (F i) (stg w b G st)) (m + 1)) st = sm (fun i => b i * (bil L (F i) w m + sm (fun j => b j * sh (bil L (F i) (G j)) m) st)) st := sm_congr fun i _ => by
      have : sh (bil L (F i) (stg w b G st)) (m + 1) = bil L (F i) (stg w b G st) m := by simp [sh]
      rw [this, bil_stg]
    rw [e1, e2]
    have hP : ∀ j, j < st → resZ (bil L z (G j) m) = resZ (bil L (Z j) (G j) m - sm (fun i => a j i * sh (bil L (F i) (G j)) m) st) := fun j hj => by
      have h := VSm.bil L (hZ j hj) (z := G j) (w := G j) (fun i => Sm.refl _) m hm
      rw [stg_bil] at h
      unfold resZ at h ⊢
      omega
    have hQ : ∀ i, i < st → resZ (bil L (F i) w m) = resZ (bil L (F i) (W i) m - sm (fun j => a i j * sh (bil L (F i) (G j)) m) st) := fun i hi => by
      have h := VSm.bil L (x := F i) (y := F i) (fun i => Sm.refl _) (hW i hi) m hm
      rw [bil_stg] at h
      unfold resZ at h ⊢
      omega
    have hT : resZ (bil L z w (m + 1) + sm (fun j => b j * bil L z (G j) m) st + sm (fun i => b i * (bil L (F i) w m + sm (fun j => b j * sh (bil L (F i) (G j)) m) st)) st)
        = resZ (bil L z w (m + 1) + sm (fun j => b j * (bil L (Z j) (G j) m - sm (fun i => a j i * sh (bil L (F i) (G j)) m) st)) st + sm (fun i => b i * (bil L (F i) (W i) m - sm (fun j => a i j * sh (bil L (F i) (G j)) m) st + sm (fun j => b j * sh (bil L (F i) (G j)) m) st)) st) :=
      res_add (res_add rfl (res_sm fun j hj => res_mul (hP j hj))) (res_sm fun i hi => res_mul (res_add (hQ i hi) rfl))
    rw [hT, Int.add_assoc, rk_core b a (fun i j => sh (bil L (F i) (G j)) m) (fun j => bil L (Z j) (G j) m) (fun i => bil L (F i) (W i) m) st]
    have z1 : resZ (sm (fun i => b i * (bil L (Z i) (G i) m + bil L (F i) (W i) m)) st) = 0 := res_sm_zero fun i hi => by
      have h := hB i hi m hm
      have : resZ (bil L (Z i) (G i) m + bil L (F i) (W i) m) = resZ 0 := by
        rw [Int.add_comm]
        exact h
      rw [res_mul this]
      simp [resZ]
    have z2 : resZ (sm (fun i => sm (fun j => (b i * b j - (b i * a i j + b j * a j i)) * sh (bil L (F i) (G j)) m) st) st) = 0 := res_sm_zero fun i hi => res_sm_zero fun j hj => by
      have h : resZ (b i * b j - (b i * a i j + b j * a j i)) = resZ 0 := by
        have := hs i j hi hj
        unfold resZ at this ⊢
        omega
      rw [res_mul2 h rfl]
      simp [resZ]
    unfold resZ at z1 z2 ⊢
    omega

theorem bil_dt (L : Frm) (x y : Vec) : dt (bil L x y) = ad (bil L (fun i => dt (x i)) y) (bil L x (fun i => dt (y i))) := by
  funext k
  show ((k : Int) + 1) * sumZ _ L = sumZ _ L + sumZ _ L
  rw [← sumZ_mul, ← sumZ_add]
  refine sumZ_congr fun q _ => ?_
  have h := congrFun (dt_cv (x q.2.1) (y q.2.2)) k
  have e : ((k : Int) + 1) * (q.1 * cv (x q.2.1) (y q.2.2) (k + 1)) = q.1 * dt (cv (x q.2.1) (y q.2.2)) k := by
    show _ = q.1 * (((k : Int) + 1) * _)
    grind
  rw [e, h]
  exact Int.mul_add _ _ _
theorem res_unit {k : Nat} {v : Int} (h1 : 1 ≤ k) (h2 : k ≤ 1000000270) (h : resZ ((k : Int) * v) = 0) : resZ v = 0 := by
  have hu := inv_one (a := (k : Int)) (by omega)
  have e : resZ ((k : Int) * powZ (k : Int) 1000000269) = 1 := hu
  have h3 : resZ (((k : Int) * powZ (k : Int) 1000000269) * v) = resZ (1 * v) := res_mul2 (by rw [e]; rfl) rfl
  rw [Int.one_mul] at h3
  rw [← h3]
  have h4 : ((k : Int) * powZ (k : Int) 1000000269) * v = powZ (k : Int) 1000000269 * ((k : Int) * v) := by grind
  rw [h4, res_mul (b := 0) (by rw [h]; rfl)]
  simp [resZ]
/-- Solutions: the form of two of them does not change. -/
theorem flow_form {N : Nat} {L : Frm} {x y F G : Vec} (hx : ∀ i, Sm N (dt (x i)) (F i)) (hy : ∀ i, Sm N (dt (y i)) (G i)) (hB : Sm N (ad (bil L F y) (bil L x G)) ze) (hN : N ≤ 1000000270) :
    ∀ k, 1 ≤ k → k ≤ N → resZ (bil L x y k) = 0 := by
  intro k h1 h2
  obtain ⟨m, rfl⟩ : ∃ m, k = m + 1 := ⟨k - 1, by omega⟩
  refine res_unit (k := m + 1) h1 (by omega) ?_
  have e : (((m + 1 : Nat) : Int)) * bil L x y (m + 1) = dt (bil L x y) m := by
    show _ = ((m : Int) + 1) * _
    congr 1
  rw [e, bil_dt]
  have h3 := ((VSm.bil L (x := fun i => dt (x i)) (y := F) (z := y) (w := y) hx (fun i => Sm.refl _)).ad (VSm.bil L (x := x) (y := x) (z := fun i => dt (y i)) (w := G) (fun i => Sm.refl _) hy)) m (by omega)
  rw [h3]
  exact hB m (by omega)
end Go.Proofs.YtbcjhpgkodeoeaaGreatDoor

/- Jets as series: products, powers, polynomials; a polynomial's value at a vector of series. Plain: no program's step stands here. -/
namespace Go.Proofs.YtbcjhpgkodeoeaaGreatDoor

theorem sm_sumZ (f : Nat → Int) : ∀ n, sumZ f (List.range n) = sm f n
  | 0 => rfl
  | n + 1 => by rw [List.range_succ, sumZ_append, sumZ_cons, sumZ_nil, Int.add_zero, sm_sumZ f n, sm]
/-- a jet as a series -/
def se (x : List Int) : Ser := atZ x
theorem se_mul (a b : List Int) : Sm a.length (se (mulZ a b)) (cv (se a) (se b)) := fun k hk => by
  show resZ (atZ (mulZ a b) k) = _
  rw [mulZ_at hk, res_res, sm_sumZ]
  rfl
theorem se_add (a b : List Int) (c : Int) : Sm a.length (se (addJ a b c)) (ad (se a) (sc c (se b))) := fun k hk => by
  show resZ (atZ (addJ a b c) k) = resZ (atZ a k + c * atZ b k)
  rw [addJ_at hk]
  simp only [plusZ, timesZ, resZ]
  rw [Int.mul_comm c]
  omega
theorem sc_one (a : Ser) : sc 1 a = a := by funext k; simp [sc]
theorem on_cv (a : Ser) : cv (on 1) a = a := by rw [cv_on, sc_one]
theorem cv_on1 (a : Ser) : cv a (on 1) = a := by rw [cv_comm, on_cv]
/-- powers -/
def pwN (y : Ser) : Nat → Ser
  | 0 => on 1
  | n + 1 => cv (pwN y n) y
def pwV (Y : Vec) (ps : List Int) : Nat → Ser
  | 0 => on 1
  | v + 1 => cv (pwV Y ps v) (pwN (Y v) (atZ ps v).toNat)
theorem se_powN (y a : List Int) : ∀ n, Sm a.length (se (powN y a n)) (cv (se a) (pwN (se y) n))
  | 0 => Sm.of_eq (by rw [pwN, cv_on1]; rfl)
  | n + 1 => by
    have h := se_mul (powN y a n) y
    rw [powN_len] at h
    refine h.trans (((se_powN y a n).cv (Sm.refl _)).trans (Sm.of_eq ?_))
    rw [pwN, cv_assoc]
theorem se_powV (y : List (List Int)) (ps a : List Int) : ∀ v, Sm a.length (se (powV y ps a v)) (cv (se a) (pwV (fun i => se (atL y i)) ps v))
  | 0 => Sm.of_eq (by rw [pwV, cv_on1]; rfl)
  | v + 1 => by
    have h := se_powN (atL y v) (powV y ps a v) (atZ ps v).toNat
    rw [powV_len] at h
    refine h.trans (((se_powV y ps a v).cv (Sm.refl _)).trans (Sm.of_eq ?_))
    rw [pwV, cv_assoc]
theorem se_oneAt (c : Int) {n : Nat} (hn : 0 < n) : Sm n (se (oneAt c n)) (on c) := fun k hk => by
  show resZ (atZ (oneAt c n) k) = _
  unfold oneAt on
  rw [atZ_set (by simp; omega), atZ_rep]
/-- a monomial's value, a polynomial's -/
def mv (Y : Vec) (m : MonZ) : Ser := sc m.coef (pwV Y m.pows m.pows.length)
def pv (Y : Vec) (p : List MonZ) : Ser := fun k => sumZ (fun m => mv Y m k) p
theorem pv_nil (Y : Vec) : pv Y [] = ze := by funext k; rfl
theorem pv_cons (Y : Vec) (m : MonZ) (p : List MonZ) : pv Y (m :: p) = ad (mv Y m) (pv Y p) := by funext k; exact sumZ_cons _ _ _
theorem pv_append (Y : Vec) (p q : List MonZ) : pv Y (p ++ q) = ad (pv Y p) (pv Y q) := by funext k; exact sumZ_append _ _ _
theorem dervP_pv {p : List MonZ} {y : List (List Int)} (h0 : 0 < hdL y) : ∀ k, k ≤ p.length → Sm (hdL y) (se (dervP p y [] k)) (pv (fun i => se (atL y i)) (p.take k))
  | 0, _ => fun j hj => by
    show resZ (atZ (List.replicate (hdL y) 0) j) = _
    rw [atZ_rep]
    rfl
  | k + 1, hk => by
    have hx : p[k]? = some p[k] := List.getElem?_eq_getElem (by omega)
    have h := se_add (dervP p y [] k) (oneL y [] p[k].pows) p[k].coef
    have e : dervP p y [] (k + 1) = addJ (dervP p y [] k) (oneL y [] p[k].pows) p[k].coef := by rw [dervP, hx]; rfl
    rw [dervP_len] at h
    rw [e, take_snoc hx, pv_append, pv_cons, pv_nil]
    refine h.trans ((dervP_pv h0 k (by omega)).ad ?_)
    have h2 := se_powV y p[k].pows (oneAt 1 (hdL y)) p[k].pows.length
    rw [oneAt_len] at h2
    have h3 : Sm (hdL y) (se (oneL y [] p[k].pows)) (pwV (fun i => se (atL y i)) p[k].pows p[k].pows.length) := by
      rw [oneL]
      refine h2.trans (((se_oneAt 1 h0).cv (Sm.refl _)).trans (Sm.of_eq (on_cv _)))
    refine (Sm.sc _ h3).trans (Sm.of_eq ?_)
    funext j
    simp [ad, ze, mv]
/-- A polynomial's value along jets is its value at the series. -/
theorem dervL_pv {p : List MonZ} {y : List (List Int)} (h0 : 0 < hdL y) : Sm (hdL y) (se (dervL p y [])) (pv (fun i => se (atL y i)) p) := by
  have h := dervP_pv (p := p) h0 p.length (Nat.le_refl _)
  rwa [List.take_length] at h
theorem Sm.pwN {N : Nat} {a b : Ser} (h : Sm N a b) : ∀ n, Sm N (Go.Proofs.YtbcjhpgkodeoeaaGreatDoor.pwN a n) (Go.Proofs.YtbcjhpgkodeoeaaGreatDoor.pwN b n)
  | 0 => Sm.refl _
  | n + 1 => (Sm.pwN h n).cv h
theorem VSm.pwV {N : Nat} {Y Z : Vec} (h : VSm N Y Z) (ps : List Int) : ∀ v, Sm N (Go.Proofs.YtbcjhpgkodeoeaaGreatDoor.pwV Y ps v) (Go.Proofs.YtbcjhpgkodeoeaaGreatDoor.pwV Z ps v)
  | 0 => Sm.refl _
  | v + 1 => (VSm.pwV h ps v).cv ((h v).pwN _)
theorem VSm.pv {N : Nat} {Y Z : Vec} (h : VSm N Y Z) (p : List MonZ) : Sm N (Go.Proofs.YtbcjhpgkodeoeaaGreatDoor.pv Y p) (Go.Proofs.YtbcjhpgkodeoeaaGreatDoor.pv Z p) := fun k hk =>
  res_sum fun m _ => (Sm.sc _ (h.pwV m.pows m.pows.length)) k hk

/-- What a polynomial is worth depends on its numbers alone. -/
theorem pv_part (Y : Vec) (ps : List Int) : ∀ p : List MonZ, pv Y p = ad (sc (coefAt ps p) (pwV Y ps ps.length)) (pv Y (p.filter fun m => decide (m.pows ≠ ps)))
  | [] => by funext k; simp [pv, coefAt, sc, ad, sumZ]
  | m :: p => by
    rw [pv_cons, pv_part Y ps p]
    by_cases h : m.pows = ps
    · rw [List.filter_cons_of_neg (by simp [h])]
      funext k
      simp only [ad, mv, sc, coefAt, if_pos h, h]
      grind
    · rw [List.filter_cons_of_pos (by simp [h]), pv_cons]
      funext k
      simp only [ad, mv, sc, coefAt, if_neg h]
      grind
theorem coefAt_filter (ps qs : List Int) : ∀ p : List MonZ, coefAt ps (p.filter fun m => decide (m.pows ≠ qs)) = if ps = qs then 0 else coefAt ps p
  | [] => by simp [coefAt]
  | m :: p => by
    have ih := coefAt_filter ps qs p
    by_cases h : m.pows = qs
    · rw [List.filter_cons_of_neg (by simp [h]), ih]
      by_cases hp : ps = qs
      · rw [if_pos hp, if_pos hp]
      · rw [if_neg hp, if_neg hp, coefAt, if_neg (by rw [h]; exact fun e => hp e.symm), Int.zero_add]
    · rw [List.filter_cons_of_pos (by simp [h]), coefAt, ih]
      by_cases hp : ps = qs
      · rw [if_pos hp, if_pos hp, if_neg (by rw [hp]; exact h)]; rfl
      · rw [if_neg hp, if_neg hp, coefAt]
theorem pv_coef (Y : Vec) : ∀ (n : Nat) (p q : List MonZ), p.length + q.length ≤ n → (∀ ps, resZ (coefAt ps p) = resZ (coefAt ps q)) → ∀ N, Sm N (pv Y p) (pv Y q)
  | 0, p, q, hn, _, N => by
    have hp : p = [] := List.length_eq_zero_iff.1 (by omega)
    have hq : q = [] := List.length_eq_zero_iff.1 (by omega)
    rw [hp, hq]
    exact Sm.refl _
  | n + 1, p, q, hn, h, N => by
    have key : ∀ ps, (p.filter fun m => decide (m.pows ≠ ps)).length + (q.filter fun m => decide (m.pows ≠ ps)).length ≤ n → Sm N (pv Y p) (pv Y q) := fun ps hl => by
      rw [pv_part Y ps p, pv_part Y ps q]
      refine Sm.ad (fun k _ => ?_) (pv_coef Y n _ _ hl (fun qs => ?_) N)
      · show resZ (coefAt ps p * _) = resZ (coefAt ps q * _)
        exact res_mul2 (h ps) rfl
      · rw [coefAt_filter, coefAt_filter]
        split
        · rfl
        · exact h qs
    cases p with
    | cons m p =>
      refine key m.pows ?_
      rw [List.filter_cons_of_neg (by simp)]
      have h1 := List.length_filter_le (fun x : MonZ => decide (x.pows ≠ m.pows)) p
      have h2 := List.length_filter_le (fun x : MonZ => decide (x.pows ≠ m.pows)) q
      simp at hn
      omega
    | nil =>
      cases q with
      | nil => exact Sm.refl _
      | cons m q =>
        refine key m.pows ?_
        rw [List.filter_cons_of_neg (by simp)]
        have h2 := List.length_filter_le (fun x : MonZ => decide (x.pows ≠ m.pows)) q
        simp at hn ⊢
        simp at h2
        omega
theorem pv_putAll (Y : Vec) {q : List MonZ} (hq : NumsM q) (N : Nat) : Sm N (pv Y (putAll [] q)) (pv Y q) :=
  pv_coef Y _ _ _ (Nat.le_refl _) (fun ps => by
    have h := (putAll_canon (p := []) canon_nil hq).2 ps
    unfold resZ
    rw [h]
    simp [coefAt]) N
end Go.Proofs.YtbcjhpgkodeoeaaGreatDoor
