/- HealthWhole in plain numbers: the residuals of the points that are alike are together 0, and the squares of the sums are those of the residuals and of the pattern. -/
import Derived.Test.YtcmjpcmdgnbbpaaPHx11
import Derived.Test.YtcmjpcmdgnbbpaaHGears
namespace Go.Proofs.Ytcmjpcmdgnbbpaa.Pure
open Go.RowKit Go.Proofs.Ytcmjpcmdgnbbpaa.PH Go.Proofs.YtcmjpcmdgnbbpaaW.PrintWords Go.Proofs.YtcmjpcmdgnbbpaaW.PrintLast
set_option linter.unusedVariables false
set_option linter.unusedSectionVars false
/-- the sum of a function's first values -/
def sumTo (f : Nat → Int) : Nat → Int
  | 0 => 0
  | k + 1 => sumTo f k + f k
theorem sumTo_congr {f g : Nat → Int} {n : Nat} (h : ∀ i, i < n → f i = g i) : sumTo f n = sumTo g n := by
  induction n with
  | zero => rfl
  | succ n ih => simp only [sumTo]; rw [ih (fun i hi => h i (by omega)), h n (by omega)]
theorem sumTo_add (f g : Nat → Int) (n : Nat) : sumTo (fun i => f i + g i) n = sumTo f n + sumTo g n := by
  induction n with
  | zero => rfl
  | succ n ih => simp only [sumTo]; rw [ih]; omega
theorem sumTo_mul (c : Int) (f : Nat → Int) (n : Nat) : sumTo (fun i => c * f i) n = c * sumTo f n := by
  induction n with
  | zero => simp [sumTo]
  | succ n ih => simp only [sumTo]; rw [ih, Int.mul_add]
theorem sumTo_zero {f : Nat → Int} {n : Nat} (h : ∀ i, i < n → f i = 0) : sumTo f n = 0 := by
  induction n with
  | zero => rfl
  | succ n ih => simp only [sumTo]; rw [ih (fun i hi => h i (by omega)), h n (by omega)]; rfl
theorem sumTo_const (c : Int) (n : Nat) : sumTo (fun _ => c) n = c * n := by
  induction n with
  | zero => simp [sumTo]
  | succ n ih => simp only [sumTo]; rw [ih]; simp [Int.mul_add]
theorem sumTo_split (f : Nat → Int) (a b : Nat) : sumTo f (a + b) = sumTo f a + sumTo (fun j => f (a + j)) b := by
  induction b with
  | zero => simp [sumTo]
  | succ b ih => rw [← Nat.add_assoc]; simp only [sumTo]; rw [ih]; omega
theorem sumTo_blocks (f : Nat → Int) (m q : Nat) : sumTo f (q * m) = sumTo (fun j => sumTo (fun i => f (j + i * m)) q) m := by
  induction q with
  | zero => simp only [Nat.zero_mul, sumTo]; exact (sumTo_zero fun _ _ => rfl).symm
  | succ q ih =>
    rw [Nat.add_mul, Nat.one_mul, sumTo_split, ih, ← sumTo_add]
    exact sumTo_congr fun j _ => by simp only [sumTo]; rw [Nat.add_comm (q * m) j]
theorem sumTo_bd {f : Nat → Int} {B : Int} (h : ∀ i, -B ≤ f i ∧ f i ≤ B) (n : Nat) : -(n * B) ≤ sumTo f n ∧ sumTo f n ≤ n * B := by
  induction n with
  | zero => simp [sumTo]
  | succ n ih =>
    have := h n
    have e : ((n + 1 : Nat) : Int) * B = n * B + B := by rw [Int.natCast_add]; simp [Int.add_mul]
    simp only [sumTo]; rw [e]
    generalize (n : Int) * B = q at *
    omega
theorem sqnn (z : Int) : 0 ≤ z * z := by
  rw [← abs_sq z]; exact Int.mul_nonneg (by omega) (by omega)
def xi (xs : List Int) (i : Nat) : Int := xs.getD i 0
def pj (xs : List Int) (m j : Nat) : Int := (patL xs m).getD j 0
def ri (xs : List Int) (s m i : Nat) : Int := xi xs i * s - pj xs m (i % m)
theorem ri_def (xs : List Int) (s m i : Nat) : xs.getD i 0 * s - (patL xs m).getD (i % m) 0 = ri xs s m i := rfl
section
variable {xs : List Int} {s m : Nat} (hm : 1 ≤ m) (hs : 1 ≤ s) (hl : xs.length = s * m) (h24 : xs.length ≤ 24) (ha : allB xs (-1000000) 1000000 = true)
include hm
theorem patTo_get (q i : Nat) (hi : i ≤ m) (j : Nat) (hj : j < m) : (patTo xs m (q * m + i)).getD j 0 = sumTo (fun a => xi xs (j + a * m)) q + if j < i then xi xs (j + q * m) else 0 := by
  induction q generalizing i j with
  | zero =>
    induction i with
    | zero => simp [patTo, sumTo, List.getD_eq_getElem?_getD, hj]
    | succ i ih =>
      have e : (0 * m + i) % m = i := by rw [Nat.zero_mul, Nat.zero_add]; exact Nat.mod_eq_of_lt (by omega)
      have ih' := ih (by omega)
      show (patTo xs m ((0 * m + i) + 1)).getD j 0 = _
      simp only [patTo, e]
      rw [List.getD_eq_getElem?_getD, List.getElem?_set]
      by_cases hij : i = j
      · subst hij
        rw [if_pos rfl, if_pos (by rw [patTo_len]; omega)]
        simp only [Option.getD_some]
        rw [ih', if_neg (by omega), if_pos (by omega)]
        simp [xi]
      · rw [if_neg hij, ← List.getD_eq_getElem?_getD, ih']
        by_cases h1 : j < i
        · rw [if_pos h1, if_pos (by omega)]
        · rw [if_neg h1, if_neg (by omega)]
  | succ q ihq =>
    induction i with
    | zero =>
      have := ihq m (Nat.le_refl _) j hj
      rw [if_pos hj] at this
      rw [Nat.add_zero, Nat.add_mul, Nat.one_mul, this]
      simp [sumTo]
    | succ i ih =>
      have e : ((q + 1) * m + i) % m = i := by rw [Nat.mul_comm, Nat.mul_add_mod]; exact Nat.mod_eq_of_lt (by omega)
      have ih' := ih (by omega)
      show (patTo xs m (((q + 1) * m + i) + 1)).getD j 0 = _
      simp only [patTo, e]
      rw [List.getD_eq_getElem?_getD, List.getElem?_set]
      by_cases hij : i = j
      · subst hij
        rw [if_pos rfl, if_pos (by rw [patTo_len]; omega)]
        simp only [Option.getD_some]
        rw [ih', if_neg (by omega), if_pos (by omega), Int.add_zero, Nat.add_comm i]; rfl
      · rw [if_neg hij, ← List.getD_eq_getElem?_getD, ih']
        by_cases h1 : j < i
        · rw [if_pos h1, if_pos (by omega)]
        · rw [if_neg h1, if_neg (by omega)]
include hl
theorem pj_eq (j : Nat) (hj : j < m) : pj xs m j = sumTo (fun a => xi xs (j + a * m)) s := by
  have := patTo_get (xs := xs) hm s 0 (by omega) j hj
  rw [if_neg (by omega), Int.add_zero, Nat.add_zero] at this
  unfold pj patL; rw [hl]; exact this
theorem mod_at (j a : Nat) (hj : j < m) : (j + a * m) % m = j := by rw [Nat.add_mul_mod_self_right]; exact Nat.mod_eq_of_lt hj
theorem cls_zero (j : Nat) (hj : j < m) : sumTo (fun a => ri xs s m (j + a * m)) s = 0 := by
  have e : sumTo (fun a => ri xs s m (j + a * m)) s = sumTo (fun a => (s : Int) * xi xs (j + a * m) + -(pj xs m j)) s :=
    sumTo_congr fun a _ => by unfold ri; rw [mod_at hm hl j a hj, Int.mul_comm]; rfl
  rw [e, sumTo_add, sumTo_mul, ← pj_eq hm hl j hj, sumTo_const]
  rw [Int.neg_mul, Int.mul_comm]; omega
theorem cross_zero : sumTo (fun i => pj xs m (i % m) * ri xs s m i) xs.length = 0 := by
  rw [hl, sumTo_blocks]
  refine sumTo_zero fun j hj => ?_
  rw [sumTo_congr (g := fun a => pj xs m j * ri xs s m (j + a * m)) (fun a _ => by rw [mod_at hm hl j a hj]), sumTo_mul, cls_zero hm hl j hj, Int.mul_zero]
theorem squares_eq (n : Nat) : sumTo (fun i => xi xs i * s * xi xs i * s) n = sumTo (fun i => ri xs s m i * ri xs s m i) n + sumTo (fun i => pj xs m (i % m) * pj xs m (i % m)) n + 2 * sumTo (fun i => pj xs m (i % m) * ri xs s m i) n := by
  rw [← sumTo_mul, ← sumTo_add, ← sumTo_add]
  refine sumTo_congr fun i _ => ?_
  have e : xi xs i * s = ri xs s m i + pj xs m (i % m) := by unfold ri; omega
  rw [show xi xs i * s * xi xs i * s = (xi xs i * s) * (xi xs i * s) by simp only [Int.mul_assoc], e]
  generalize ri xs s m i = r
  generalize pj xs m (i % m) = p
  rw [Int.add_mul, Int.mul_add, Int.mul_add, Int.mul_comm r p]
  generalize r * r = a; generalize p * r = b; generalize p * p = c
  omega
end
theorem mE_sum (zs : List Int) (k : Nat) : mE zs k = sumTo (fun i => zs.getD i 0 * zs.getD i 0) k := by
  induction k with
  | zero => rfl
  | succ k ih => simp only [mE, sumTo, ih]
theorem sum_sq_zero {f : Nat → Int} {n : Nat} (h : sumTo (fun i => f i * f i) n = 0) : ∀ i, i < n → f i = 0 := by
  have nn : ∀ n, 0 ≤ sumTo (fun i => f i * f i) n := fun n => by
    induction n with
    | zero => simp [sumTo]
    | succ n ih => have := sqnn (f n); simp only [sumTo]; omega
  induction n with
  | zero => intro i hi; omega
  | succ n ih =>
    intro i hi
    have h1 := nn n
    have h2 : 0 ≤ f n * f n := sqnn (f n)
    simp only [sumTo] at h
    by_cases e : i = n
    · subst e
      have h3 : f i * f i = 0 := by omega
      rcases Int.mul_eq_zero.1 h3 with h | h <;> exact h
    · exact ih (by omega) i (by omega)
/-- are all of the first k like the first of their kind? -/
def alk (xs : List Int) (m : Nat) : Nat → Bool
  | 0 => true
  | k + 1 => if alk xs m k = true then (xi xs k == xi xs (k % m)) else false
theorem alk_iff (xs : List Int) (m k : Nat) : alk xs m k = true ↔ ∀ i, i < k → xi xs i = xi xs (i % m) := by
  induction k with
  | zero => simp [alk]
  | succ k ih =>
    by_cases h : alk xs m k = true
    · simp only [alk, h, if_true, beq_iff_eq]
      constructor
      · intro hk i hi
        by_cases e : i = k
        · rw [e]; exact hk
        · exact ih.1 h i (by omega)
      · intro hn; exact hn k (by omega)
    · simp only [alk]
      rw [if_neg h]
      constructor
      · intro hk; cases hk
      · intro hn; exact absurd (ih.2 (fun i hi => hn i (by omega))) h
section
variable {xs : List Int} {s m : Nat} (hm : 1 ≤ m) (hs : 1 ≤ s) (hl : xs.length = s * m) (h24 : xs.length ≤ 24) (ha : allB xs (-1000000) 1000000 = true)
include hm hs hl
theorem energy_sum : mE (resL xs s m) xs.length = sumTo (fun i => ri xs s m i * ri xs s m i) xs.length := by
  rw [mE_sum]
  exact sumTo_congr fun i hi => by rw [resL_get hi]; rfl
theorem energy_alike : (mE (resL xs s m) xs.length == 0) = alk xs m xs.length := by
  rw [Bool.eq_iff_iff, alk_iff, beq_iff_eq, energy_sum hm hs hl]
  constructor
  · intro h i hi
    have hz := sum_sq_zero h
    have hk : i % m < xs.length := Nat.lt_of_le_of_lt (Nat.mod_le _ _) hi
    have h1 := hz i hi
    have h2 := hz (i % m) hk
    unfold ri at h1 h2
    rw [Nat.mod_mod] at h2
    have h3 : xi xs i * s = xi xs (i % m) * s := by omega
    exact Int.eq_of_mul_eq_mul_right (by omega) h3
  · intro h
    refine sumTo_zero fun i hi => ?_
    have hj : i % m < m := Nat.mod_lt _ hm
    have e : pj xs m (i % m) = xi xs (i % m) * s := by
      rw [pj_eq hm hl _ hj, sumTo_congr (g := fun _ => xi xs (i % m)) (fun a hq => ?_), sumTo_const]
      have hlt : i % m + a * m < xs.length := by
        rw [hl]
        have : (a + 1) * m ≤ s * m := Nat.mul_le_mul_right _ hq
        rw [Nat.add_mul, Nat.one_mul] at this
        omega
      have := h _ hlt
      rw [mod_at hm hl _ a hj] at this
      exact this
    have : ri xs s m i = 0 := by unfold ri; rw [e, ← h i hi]; omega
    rw [this]; rfl
include h24 ha
theorem xi_bd (i : Nat) : -1000000 ≤ xi xs i ∧ xi xs i ≤ 1000000 := allB_get ha (by omega) (by omega) i
theorem sq_p (j : Nat) : 0 ≤ pj xs m j * pj xs m j ∧ pj xs m j * pj xs m j ≤ 2304000000000000 := by
  have := patL_bd ha h24 m j
  exact sq_bd (z := pj xs m j) (by unfold pj; omega)
theorem sq_x (i : Nat) (hs24 : s ≤ 24) : (-24000000 ≤ xi xs i * s ∧ xi xs i * s ≤ 24000000) ∧ (-2304000000000000 ≤ xi xs i * s * xi xs i ∧ xi xs i * s * xi xs i ≤ 2304000000000000) ∧ 0 ≤ xi xs i * s * xi xs i * s ∧ xi xs i * s * xi xs i * s ≤ 2304000000000000 := by
  have h0 := xi_bd hm hs hl h24 ha i
  have h1 := mul_bd h0 hs24
  have e : xi xs i * s * xi xs i * s = (xi xs i * s) * (xi xs i * s) := by simp only [Int.mul_assoc]
  have e2 : xi xs i * s * xi xs i = (xi xs i * xi xs i) * s := by rw [Int.mul_assoc, Int.mul_comm (s : Int), ← Int.mul_assoc]
  have h2 := sq_bd (z := xi xs i * s) (by omega)
  have h4 : 0 ≤ xi xs i * xi xs i ∧ xi xs i * xi xs i ≤ 1000000000000 := by
    refine ⟨sqnn _, ?_⟩
    have e3 := (abs_sq (xi xs i)).symm
    have h5 : (xi xs i).natAbs ≤ 1000000 := by omega
    have h6 := Nat.mul_le_mul h5 h5
    rw [e3]; omega
  have h7 := Int.mul_le_mul_of_nonneg_right h4.2 (show (0 : Int) ≤ s by omega)
  have h8 := Int.mul_nonneg h4.1 (show (0 : Int) ≤ s by omega)
  refine ⟨h1, ?_, by rw [e]; exact h2⟩
  rw [e2]
  omega
theorem whole_l2 (hs24 : s ≤ 24) (x12 x13 x14 : Int) (x15 : Bool) (E P S D : Int) (j : Nat) (hj : j < m) (hnext : Ev (fun k => swashplatelaw08_HealthWhole.l1 k (resL xs s m) (m : Int) x12 x13 x14 x15 ((j + 1 : Nat) : Int) E P S D) true) (d : Nat) :
    ∀ q, q + d = s → Ev (fun k => swashplatelaw08_HealthWhole.l2 k (resL xs s m) (m : Int) x12 x13 x14 x15 (j : Int) (sumTo (fun a => ri xs s m (j + a * m)) q) ((j + q * m : Nat) : Int) E P S D) true := by
  have hms : m ≤ s * m := Nat.le_mul_of_pos_left _ hs
  induction d with
  | zero =>
    intro q hq
    obtain rfl : q = s := by omega
    refine PH.Ev.succ (Ev.congr (fun k => ?_) hnext)
    simp only [swashplatelaw08_HealthWhole.l2]
    rw [resL_len, if_neg (by omega), cls_zero hm hl j hj, if_pos rfl, w64s j m hj (by omega)]
  | succ d ih =>
    intro q hq
    have hq1 : (q + 1) * m ≤ s * m := Nat.mul_le_mul_right _ (by omega)
    rw [Nat.add_mul, Nat.one_mul] at hq1
    have hlt : j + q * m < xs.length := by omega
    refine PH.Ev.succ (Ev.congr (fun k => ?_) (ih (q + 1) (by omega)))
    have hb : ∀ a, -48000000 ≤ ri xs s m (j + a * m) ∧ ri xs s m (j + a * m) ≤ 48000000 := fun a => res_bd ha h24 hs24 m _
    have hq24 : q ≤ 24 := by omega
    have h1 := sumTo_bd hb q
    have h2 := hb q
    have c1 : ((j + q * m : Nat) : Int) < (xs.length : Int) := by omega
    have c2 : (0 : Int) ≤ ((j + q * m : Nat) : Int) := Int.natCast_nonneg _
    have e3 : wrap64 (((j + q * m : Nat) : Int) + (m : Int)) = ((j + (q + 1) * m : Nat) : Int) := by
      rw [w64 _ (by omega) (by omega), Nat.add_mul, Nat.one_mul]; simp [Int.add_assoc]
    have e4 : wrap64 (sumTo (fun a => ri xs s m (j + a * m)) q + (resL xs s m).getD (j + q * m) 0) = sumTo (fun a => ri xs s m (j + a * m)) (q + 1) := by
      rw [resL_get hlt, ri_def]
      simp only [sumTo]
      refine w64 _ ?_ ?_
      · clear e3 ih hnext; omega
      · clear e3 ih hnext; omega
    simp only [swashplatelaw08_HealthWhole.l2, resL_len, rd_nat]
    rw [if_pos c1, if_pos c2, e3, e4]
theorem whole_l1 (hs24 : s ≤ 24) (x12 x13 x14 : Int) (x15 : Bool) (P S D : Int) (h1 : x12 = wrap64 (x14 + x13)) (h2 : ((x14 == 0) == x15) = true) (d : Nat) :
    ∀ j, j + d = m → Ev (fun k => swashplatelaw08_HealthWhole.l1 k (resL xs s m) (m : Int) x12 x13 x14 x15 (j : Int) x14 P S D) true := by
  induction d with
  | zero =>
    intro j hj
    refine PH.Ev.succ (PH.Ev.some fun k => ?_)
    simp only [swashplatelaw08_HealthWhole.l1]
    rw [if_neg (by omega), if_pos h1, if_pos trivial, if_pos h2]; rfl
  | succ d ih =>
    intro j hj
    have := whole_l2 hm hs hl h24 ha hs24 x12 x13 x14 x15 x14 P S D j (by omega) (ih (j + 1) (by omega)) s 0 (by omega)
    refine PH.Ev.succ (Ev.congr (fun k => ?_) this)
    simp only [swashplatelaw08_HealthWhole.l1]
    rw [if_pos (by omega)]; simp [sumTo]
theorem whole_l0 (hs24 : s ≤ 24) (P S D : Int) (d : Nat) : ∀ i, i + d = xs.length →
    Ev (fun k => swashplatelaw08_HealthWhole.l0 k xs (s : Int) (resL xs s m) (patL xs m) (m : Int) (sumTo (fun i => xi xs i * s * xi xs i * s) i) (sumTo (fun i => pj xs m (i % m) * pj xs m (i % m)) i) (mE (resL xs s m) i) (alk xs m i) (i : Int) (mE (resL xs s m) xs.length) P S D) true := by
  have hmild : Mild (resL xs s m) := ⟨by rw [resL_len]; exact h24, fun i => resL_bd ha h24 hs24 _ i⟩
  have bX : ∀ i, -2304000000000000 ≤ xi xs i * s * xi xs i * s ∧ xi xs i * s * xi xs i * s ≤ 2304000000000000 := fun i => by
    have := (sq_x hm hs hl h24 ha i hs24).2.2
    omega
  have bP : ∀ i, -2304000000000000 ≤ pj xs m (i % m) * pj xs m (i % m) ∧ pj xs m (i % m) * pj xs m (i % m) ≤ 2304000000000000 := fun i => by
    have := sq_p hm hs hl h24 ha (i % m)
    omega
  induction d with
  | zero =>
    intro i hi
    obtain rfl : i = xs.length := by omega
    have h3 := mE_bd hmild xs.length
    have h4 := sumTo_bd bP xs.length
    have h5 := sumTo_bd bX xs.length
    have e := squares_eq (xs := xs) hm hl xs.length
    rw [cross_zero hm hl, ← energy_sum hm hs hl] at e
    have := whole_l1 hm hs hl h24 ha hs24 (sumTo (fun i => xi xs i * s * xi xs i * s) xs.length) (sumTo (fun i => pj xs m (i % m) * pj xs m (i % m)) xs.length) (mE (resL xs s m) xs.length) (alk xs m xs.length) P S D
      (by rw [e, w64 _ (by omega) (by omega)]; omega) (by rw [energy_alike hm hs hl]; simp) m 0 (by omega)
    refine PH.Ev.succ (Ev.congr (fun k => ?_) this)
    simp only [swashplatelaw08_HealthWhole.l0]
    rw [if_neg (by omega)]; rfl
  | succ d ih =>
    intro i hi
    have hmod := Nat.mod_lt i (show 0 < m by omega)
    have hmx : i % m < xs.length := Nat.lt_of_le_of_lt (Nat.mod_le _ _) (by omega)
    refine PH.Ev.succ (Ev.congr (fun k => ?_) (ih (i + 1) (by omega)))
    have g1 := sumTo_bd bX i
    have g2 := sumTo_bd bP i
    have g3 := mE_bd hmild i
    have g4 := bX i
    have g5 := bP i
    have g6 := sq_bd (hmild.2 i)
    have g7 := sq_x hm hs hl h24 ha i hs24
    have e1 : wrap64 (wrap64 (wrap64 (xs.getD i 0 * (s : Int)) * xs.getD i 0) * (s : Int)) = xi xs i * s * xi xs i * s := by
      show wrap64 (wrap64 (wrap64 (xi xs i * (s : Int)) * xi xs i) * (s : Int)) = _
      rw [w64 (xi xs i * (s : Int)) (by omega) (by omega), w64 (xi xs i * (s : Int) * xi xs i) (by omega) (by omega), w64 _ (by omega) (by omega)]
    have e2 : wrap64 ((patL xs m).getD (i % m) 0 * (patL xs m).getD (i % m) 0) = pj xs m (i % m) * pj xs m (i % m) := w64 (pj xs m (i % m) * pj xs m (i % m)) (by omega) (by omega)
    have e3 : wrap64 ((resL xs s m).getD i 0 * (resL xs s m).getD i 0) = (resL xs s m).getD i 0 * (resL xs s m).getD i 0 := w64 _ (by omega) (by omega)
    simp only [swashplatelaw08_HealthWhole.l0, tmod_nat, rd_nat, resL_len, patL_len, e1, e2, e3]
    rw [if_pos (by omega), if_pos (by omega), if_neg (by omega), if_pos (by omega), if_pos (by omega), if_pos (by omega), if_pos (show ((i % m : Nat) : Int) < xs.length by omega),
      w64s i xs.length (by omega) (by omega), w64 (sumTo (fun i => xi xs i * s * xi xs i * s) i + _) (by omega) (by omega), w64 (sumTo (fun i => pj xs m (i % m) * pj xs m (i % m)) i + _) (by omega) (by omega), w64 (mE (resL xs s m) i + _) (by omega) (by omega)]
    have ea : alk xs m (i + 1) = if alk xs m i = true then (xs.getD i 0 == xs.getD (i % m) 0) else false := rfl
    rw [ea]
    by_cases h : alk xs m i = true
    · rw [if_pos h, if_pos h]; rfl
    · rw [if_neg h, if_neg h]; rfl
end
theorem HealthWhole : swashplatelaw08_HealthWhole.Pure := by
  intro xs t _ _ _ _
  refine Ev.rounds ?_
  unfold swashplatelaw08_HealthWhole.f
  refine Ev.bind (Residual_ev xs t) ?_
  refine Ev.bind (Pattern_ev xs t) ?_
  refine Ev.bind (Measure_ev xs 1 t) ?_
  by_cases h : gearB xs t = true
  · have hw : withinB 1 1 1000000 = true := by decide
    simp only [meas, h, hw, if_true, true_and]
    obtain ⟨s, rfl, hs, hs24, hm, hl, h24, ha⟩ := gear_parts h
    rw [Int.toNat_natCast]
    generalize per xs s = m at *
    refine PH.Ev.succ ?_
    simp only [swashplatelaw08_HealthWhole.j0, resL_len, patL_len]
    have hms : wrap64 ((m : Int) * (s : Int)) = (xs.length : Int) := by
      have : ((m : Int) * (s : Int)) = (xs.length : Int) := by rw [hl, Nat.mul_comm]; simp
      rw [this]; exact w64 _ (by omega) (by omega)
    have h0 := whole_l0 hm hs hl h24 ha hs24 (mP (resL xs s m) xs.length) (mS (resL xs s m) xs.length) (wrap64 (1 * (s : Int))) xs.length 0 (by omega)
    rw [hms]
    refine Ev.congr (fun k => ?_) (PH.Ev.succ (g := fun k => swashplatelaw08_HealthWhole.j1 k xs (s : Int) (resL xs s m) (patL xs m) ((m : Int) == 0) (mE (resL xs s m) xs.length) (mP (resL xs s m) xs.length) (mS (resL xs s m) xs.length) (wrap64 (1 * (s : Int)))) ?_)
    · rw [if_neg (by simp), if_pos trivial, if_neg (by omega), if_pos rfl]
    · refine Ev.congr (fun k => ?_) h0
      simp only [swashplatelaw08_HealthWhole.j1, patL_len]
      rw [if_neg (by simp; omega)]; rfl
  · simp only [meas, h]
    refine PH.Ev.succ (PH.Ev.some fun k => ?_)
    simp [swashplatelaw08_HealthWhole.j0, swashplatelaw08_works.f]
end Go.Proofs.Ytcmjpcmdgnbbpaa.Pure
