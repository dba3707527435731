/- Averages that are looked at by the teeth of a gear: the sums of the points that are alike, what is left, and its level, in plain numbers. -/
import Derived.Test.YtcmjpcmdgnbbpaaPHx9
namespace Go.Proofs.Ytcmjpcmdgnbbpaa.PH
open Go.RowKit Go.Proofs.YtcmjpcmdgnbbpaaW.PrintWords Go.Proofs.YtcmjpcmdgnbbpaaW.PrintLast Go.Proofs.YtcmjpcmdgnbbpaaW.PrintMore
set_option linter.unusedVariables false
set_option linter.unusedSectionVars false
theorem Ev.succ {α : Type} {g : Nat → Option α} {r : α} (h : Ev (fun k => g (k + 1)) r) : Ev g r := Ev.step (fun _ => rfl) h
theorem Ev.some {α : Type} {g : Nat → Option α} {r : α} (h : ∀ k, g k = Option.some r) : Ev g r := ⟨0, fun k _ => h k⟩
theorem rd_nat (xs : List Int) (i : Nat) : rd xs (i : Int) = xs.getD i 0 := by simp [rd]
theorem w64s (i n : Nat) (h : i < n) (hn : n ≤ 1000000) : wrap64 ((i : Int) + 1) = ((i + 1 : Nat) : Int) := by unfold wrap64; omega
theorem tmod_nat (a b : Nat) : Int.tmod (a : Int) (b : Int) = ((a % b : Nat) : Int) := by
  rw [Int.tmod_eq_emod_of_nonneg (by omega)]; simp

/-- are these the sums of an average, and is this a number of teeth? -/
def gearB (xs : List Int) (t : Int) : Bool := withinB xs.length 1 24 && allB xs (-1000000) 1000000 && withinB t 1 xs.length && ((Int.tmod (xs.length : Int) t) == 0)
theorem gearB_iff (xs : List Int) (t : Int) : gearB xs t = true ↔ ∃ m s : Nat, 1 ≤ m ∧ 1 ≤ s ∧ t = s ∧ xs.length = s * m ∧ xs.length ≤ 24 ∧ allB xs (-1000000) 1000000 = true := by
  unfold gearB
  simp only [Bool.and_eq_true, withinB_iff, beq_iff_eq]
  constructor
  · rintro ⟨⟨⟨h1, h2⟩, h3⟩, h4⟩
    obtain ⟨s, rfl⟩ := Int.eq_ofNat_of_zero_le (show 0 ≤ t by omega)
    have h5 : xs.length % s = 0 := by
      have := tmod_nat xs.length s
      rw [this] at h4; omega
    obtain ⟨m, hm⟩ := Nat.dvd_of_mod_eq_zero h5
    refine ⟨m, s, ?_, by omega, rfl, hm, by omega, h2⟩
    rcases Nat.eq_zero_or_pos m with h | h
    · subst h; omega
    · exact h
  · rintro ⟨m, s, hm, hs, rfl, hl, h24, ha⟩
    have : s ≤ s * m := Nat.le_mul_of_pos_right _ hm
    refine ⟨⟨⟨by omega, ha⟩, by omega⟩, ?_⟩
    rw [tmod_nat, hl, Nat.mul_mod_right]; rfl
theorem allB_get {xs : List Int} {l h : Int} (ha : allB xs l h = true) (hl : l ≤ 0) (hh : 0 ≤ h) (i : Nat) : l ≤ xs.getD i 0 ∧ xs.getD i 0 ≤ h := by
  unfold allB at ha
  rw [List.all_eq_true] at ha
  rw [List.getD_eq_getElem?_getD]
  cases hx : xs[i]? with
  | none => simp; omega
  | some x => exact (withinB_iff _ _ _).1 (ha x (List.mem_of_getElem? hx))

/-- the sums of the first k points, by what they are alike in -/
def patTo (xs : List Int) (m : Nat) : Nat → List Int
  | 0 => List.replicate m 0
  | k + 1 => (patTo xs m k).set (k % m) ((patTo xs m k).getD (k % m) 0 + xs.getD k 0)
theorem patTo_len (xs : List Int) (m k : Nat) : (patTo xs m k).length = m := by
  induction k with
  | zero => simp [patTo]
  | succ k ih => simp [patTo, ih]
theorem patTo_bd {xs : List Int} (ha : allB xs (-1000000) 1000000 = true) (m k : Nat) (j : Nat) : -(k : Int) * 1000000 ≤ (patTo xs m k).getD j 0 ∧ (patTo xs m k).getD j 0 ≤ (k : Int) * 1000000 := by
  induction k generalizing j with
  | zero => simp [patTo, List.getD_eq_getElem?_getD, List.getElem?_replicate]; split <;> simp
  | succ k ih =>
    have h1 := allB_get ha (by omega) (by omega) k
    have h2 := ih (k % m)
    have h3 := ih j
    simp only [patTo]
    rw [List.getD_eq_getElem?_getD, List.getElem?_set]
    split
    · split
      · simp only [Option.getD_some]; omega
      · simp; omega
    · rw [← List.getD_eq_getElem?_getD]; omega
def patL (xs : List Int) (m : Nat) : List Int := patTo xs m xs.length
theorem patL_len (xs : List Int) (m : Nat) : (patL xs m).length = m := patTo_len _ _ _
theorem patL_bd {xs : List Int} (ha : allB xs (-1000000) 1000000 = true) (hn : xs.length ≤ 24) (m j : Nat) : -24000000 ≤ (patL xs m).getD j 0 ∧ (patL xs m).getD j 0 ≤ 24000000 := by
  have := patTo_bd ha m xs.length j
  unfold patL; omega
/-- what is left at the first k points -/
def resTo (xs : List Int) (s m k : Nat) : List Int := (List.range k).map fun i => xs.getD i 0 * s - (patL xs m).getD (i % m) 0
def resL (xs : List Int) (s m : Nat) : List Int := resTo xs s m xs.length
theorem resTo_len (xs : List Int) (s m k : Nat) : (resTo xs s m k).length = k := by simp [resTo]
theorem resTo_succ (xs : List Int) (s m k : Nat) : resTo xs s m (k + 1) = resTo xs s m k ++ [xs.getD k 0 * s - (patL xs m).getD (k % m) 0] := by
  simp [resTo, List.range_succ]
theorem mul_bd {x : Int} {s : Nat} (h : -1000000 ≤ x ∧ x ≤ 1000000) (hs : s ≤ 24) : -24000000 ≤ x * s ∧ x * s ≤ 24000000 := by
  obtain ⟨h1, h2⟩ := h
  have e1 := Int.mul_le_mul_of_nonneg_right h2 (show (0 : Int) ≤ s by omega)
  have e2 := Int.mul_le_mul_of_nonneg_right h1 (show (0 : Int) ≤ s by omega)
  omega
theorem res_bd {xs : List Int} (ha : allB xs (-1000000) 1000000 = true) (hn : xs.length ≤ 24) {s : Nat} (hs : s ≤ 24) (m i : Nat) :
    -48000000 ≤ xs.getD i 0 * s - (patL xs m).getD (i % m) 0 ∧ xs.getD i 0 * s - (patL xs m).getD (i % m) 0 ≤ 48000000 := by
  have h1 := mul_bd (allB_get ha (by omega) (by omega) i) hs
  have h2 := patL_bd ha hn m (i % m)
  omega
theorem resL_get {xs : List Int} {s m i : Nat} (h : i < xs.length) : (resL xs s m).getD i 0 = xs.getD i 0 * s - (patL xs m).getD (i % m) 0 := by
  simp [resL, resTo, List.getD_eq_getElem?_getD, h]
theorem resL_bd {xs : List Int} (ha : allB xs (-1000000) 1000000 = true) (hn : xs.length ≤ 24) {s : Nat} (hs : s ≤ 24) (m i : Nat) : -48000000 ≤ (resL xs s m).getD i 0 ∧ (resL xs s m).getD i 0 ≤ 48000000 := by
  by_cases h : i < xs.length
  · rw [resL_get h]; exact res_bd ha hn hs m i
  · rw [List.getD_eq_getElem?_getD, List.getElem?_eq_none (by simp [resL, resTo_len]; omega)]; simp
theorem resL_len (xs : List Int) (s m : Nat) : (resL xs s m).length = xs.length := resTo_len _ _ _ _

/-! ### the program's and the reference's loops -/
section
variable {xs : List Int} {m s : Nat} (hm : 1 ≤ m) (hs : 1 ≤ s) (hl : xs.length = s * m) (h24 : xs.length ≤ 24) (ha : allB xs (-1000000) 1000000 = true)
include hm ha h24
theorem pat_wrap (k : Nat) (hk : k ≤ xs.length) : wrap64 ((patTo xs m k).getD (k % m) 0 + xs.getD k 0) = (patTo xs m k).getD (k % m) 0 + xs.getD k 0 := by
  have h1 := patTo_bd ha m k (k % m)
  have h2 := allB_get ha (by omega) (by omega) k
  exact w64 _ (by omega) (by omega)
theorem pattern_l0 (d : Nat) : ∀ i, i + d = xs.length → Ev (fun k => health_gear_pattern.l0 k (patTo xs m i) xs (xs.length : Int) (i : Int)) (patL xs m) := by
  have hmp := fun i => Nat.mod_lt i (show 0 < m by omega)
  induction d with
  | zero =>
    intro i hi
    refine Ev.succ (Ev.some fun k => ?_)
    simp only [health_gear_pattern.l0]
    rw [if_neg (by omega)]
    unfold patL; rw [show i = xs.length by omega]
  | succ d ih =>
    intro i hi
    refine Ev.succ (Ev.congr (fun k => ?_) (ih (i + 1) (by omega)))
    have := hmp i
    simp only [health_gear_pattern.l0, patTo_len, tmod_nat, rd_nat, Int.toNat_natCast]
    rw [if_pos (by omega), if_pos (by omega), if_pos (by omega), if_neg (by omega), if_pos (by omega), if_pos (by omega), w64s i xs.length (by omega) (by omega), pat_wrap hm h24 ha i (by omega)]
    rfl
theorem ref_pattern_l0 (d : Nat) : ∀ i, i + d = xs.length → Ev (fun k => swashplateref08_Pattern.l0 k xs (patTo xs m i) (i : Int)) (patL xs m, 0) := by
  have hmp := fun i => Nat.mod_lt i (show 0 < m by omega)
  induction d with
  | zero =>
    intro i hi
    refine Ev.succ (Ev.some fun k => ?_)
    simp only [swashplateref08_Pattern.l0]
    rw [if_neg (by omega)]
    unfold patL; rw [show i = xs.length by omega]
  | succ d ih =>
    intro i hi
    refine Ev.succ (Ev.congr (fun k => ?_) (ih (i + 1) (by omega)))
    have := hmp i
    simp only [swashplateref08_Pattern.l0, patTo_len, tmod_nat, rd_nat, Int.toNat_natCast]
    rw [if_pos (by omega), if_neg (by omega), if_pos (by omega), if_pos (by omega), if_pos (by omega), w64s i xs.length (by omega) (by omega), pat_wrap hm h24 ha i (by omega)]
    rfl
include hs
theorem res_wrap (i : Nat) (h24s : s ≤ 24) : wrap64 (wrap64 (xs.getD i 0 * (s : Int)) - (patL xs m).getD (i % m) 0) = xs.getD i 0 * s - (patL xs m).getD (i % m) 0 := by
  have h1 := mul_bd (allB_get ha (by omega) (by omega) i) h24s
  have h2 := patL_bd ha h24 m (i % m)
  rw [w64 (xs.getD i 0 * (s : Int)) (by omega) (by omega)]
  exact w64 _ (by omega) (by omega)
theorem residual_l0 (h24s : s ≤ 24) (d : Nat) : ∀ i, i + d = xs.length → Ev (fun k => health_gear_residual.l0 k (resTo xs s m i) (patL xs m) xs (xs.length : Int) (i : Int) xs (s : Int)) (resL xs s m) := by
  have hmp := fun i => Nat.mod_lt i (show 0 < m by omega)
  induction d with
  | zero =>
    intro i hi
    refine Ev.succ (Ev.some fun k => ?_)
    simp only [health_gear_residual.l0]
    rw [if_neg (by omega)]
    unfold resL; rw [show i = xs.length by omega]
  | succ d ih =>
    intro i hi
    refine Ev.succ (Ev.congr (fun k => ?_) (ih (i + 1) (by omega)))
    have := hmp i
    simp only [health_gear_residual.l0, patL_len, resTo_len, tmod_nat, rd_nat]
    rw [if_pos (by omega), if_pos (by omega), if_pos (by omega), if_neg (by omega), if_pos (by omega), if_pos (by omega), if_pos (by omega), w64s i xs.length (by omega) (by omega), res_wrap hm hs h24 ha i h24s, resTo_succ]
theorem ref_residual_l0 (h24s : s ≤ 24) (d : Nat) : ∀ i, i + d = xs.length → Ev (fun k => swashplateref08_Residual.l0 k xs (s : Int) (patL xs m) (resTo xs s m i) (i : Int)) (resL xs s m, 0) := by
  have hmp := fun i => Nat.mod_lt i (show 0 < m by omega)
  induction d with
  | zero =>
    intro i hi
    refine Ev.succ (Ev.some fun k => ?_)
    simp only [swashplateref08_Residual.l0]
    rw [if_neg (by omega)]
    unfold resL; rw [show i = xs.length by omega]
  | succ d ih =>
    intro i hi
    refine Ev.succ (Ev.congr (fun k => ?_) (ih (i + 1) (by omega)))
    have := hmp i
    simp only [swashplateref08_Residual.l0, patL_len, resTo_len, tmod_nat, rd_nat]
    rw [if_pos (by omega), if_pos (by omega), if_neg (by omega), if_pos (by omega), if_pos (by omega), if_pos (by omega), w64s i xs.length (by omega) (by omega), res_wrap hm hs h24 ha i h24s, resTo_succ]
end

theorem within_f (a b c : Int) : health_within.f a b c = some (withinB a b c) := by
  unfold health_within.f withinB
  by_cases h : b ≤ a
  · rw [if_pos h]; simp [h]
  · rw [if_neg h]; simp [h]
theorem within_rf (a b c : Int) : swashplateref08_within.f a b c = some (withinB a b c) := by
  unfold swashplateref08_within.f withinB
  by_cases h : b ≤ a
  · rw [if_pos h]; simp [h]
  · rw [if_neg h]; simp [h]
theorem newGear_f (xs : List Int) (t : Int) : health_newGear.f xs t = some (xs, t, gearB xs t) := by
  unfold health_newGear.f gearB health_all.f
  simp only [within_f, Option.bind_some]
  cases h1 : withinB xs.length 1 24
  · simp
  · cases h2 : allB xs (-1000000) 1000000
    · simp
    · cases h3 : withinB t 1 xs.length
      · simp
      · have := (withinB_iff _ _ _).1 h3
        simp only [if_true, Bool.true_and]
        rw [if_neg (by omega)]
theorem sameInts_l0 (xs : List Int) (hn : xs.length ≤ 1000000) (d : Nat) : ∀ i : Nat, i + d = xs.length → Ev (fun k => swashplatelaw08_sameInts.l0 k xs xs (i : Int)) true := by
  induction d with
  | zero =>
    intro i hi
    refine Ev.succ (Ev.some fun k => ?_)
    simp only [swashplatelaw08_sameInts.l0]
    rw [if_neg (by omega)]
  | succ d ih =>
    intro i hi
    refine Ev.succ (Ev.congr (fun k => ?_) (ih (i + 1) (by omega)))
    simp only [swashplatelaw08_sameInts.l0]
    rw [if_pos (by omega), if_pos (by omega), if_pos (by omega), if_pos trivial, w64s i xs.length (by omega) hn]
theorem sameInts_ev (xs : List Int) (hn : xs.length ≤ 1000000) : Ev (fun k => swashplatelaw08_sameInts.f k xs xs) true := by
  unfold swashplatelaw08_sameInts.f
  simp only [if_true]
  exact sameInts_l0 xs hn xs.length 0 (by omega)
/-- the number of points that a pattern has -/
def per (xs : List Int) (t : Int) : Nat := xs.length / t.toNat
theorem gear_parts {xs : List Int} {t : Int} (h : gearB xs t = true) : ∃ s : Nat, t = s ∧ 1 ≤ s ∧ s ≤ 24 ∧ 1 ≤ per xs t ∧ xs.length = s * per xs t ∧ xs.length ≤ 24 ∧ allB xs (-1000000) 1000000 = true := by
  obtain ⟨m, s, hm, hs, rfl, hl, h24, ha⟩ := (gearB_iff _ _).1 h
  have e : per xs s = m := by unfold per; rw [Int.toNat_natCast, hl]; exact Nat.mul_div_cancel_left m hs
  have : s ≤ s * m := Nat.le_mul_of_pos_right _ hm
  exact ⟨s, rfl, hs, by omega, by rw [e]; exact hm, by rw [e]; exact hl, h24, ha⟩
theorem div_per {xs : List Int} {s : Nat} (hs : 1 ≤ s) (h24 : xs.length ≤ 24) : wrap64 ((xs.length : Int) / (s : Int)) = (per xs s : Nat) := by
  unfold per
  have h1 : (xs.length : Int) / (s : Int) = ((xs.length / s : Nat) : Int) := by simp
  have h2 : xs.length / s ≤ xs.length := Nat.div_le_self _ _
  rw [h1, Int.toNat_natCast]
  clear h1
  generalize xs.length / s = q at *
  exact w64 _ (by omega) (by omega)
theorem pattern_ev {xs : List Int} {t : Int} (h : gearB xs t = true) : Ev (fun k => health_gear_pattern.f k xs t) (patL xs (per xs t)) := by
  obtain ⟨s, rfl, hs, hs24, hm, hl, h24, ha⟩ := gear_parts h
  unfold health_gear_pattern.f
  have hp : per xs s ≤ 24 := by unfold per; exact Nat.le_trans (Nat.div_le_self _ _) h24
  have h0 := pattern_l0 hm h24 ha xs.length 0 (by omega)
  refine Ev.congr (fun k => ?_) h0
  rw [if_neg (by omega), div_per hs h24, if_pos (by omega), if_pos (by omega), Int.toNat_natCast]
  rfl
theorem Pattern_ev (xs : List Int) (t : Int) : Ev (fun k => health_Pattern.f k xs t) (if gearB xs t = true then (patL xs (per xs t), 0) else ([], 1)) := by
  unfold health_Pattern.f
  simp only [newGear_f, Option.bind_some]
  by_cases h : gearB xs t = true
  · simp only [h, if_true]
    exact Ev.bind (pattern_ev h) (Ev.some fun _ => rfl)
  · simp only [h]
    exact Ev.some fun _ => rfl
theorem averaged_l0 (xs : List Int) (hn : xs.length ≤ 24) (d : Nat) : ∀ i : Nat, i + d = xs.length → Ev (fun k => swashplateref08_averaged.l0 k xs (xs.length : Int) (i : Int)) (allB (xs.drop i) (-1000000) 1000000) := by
  induction d with
  | zero =>
    intro i hi
    refine Ev.succ (Ev.some fun k => ?_)
    simp only [swashplateref08_averaged.l0]
    rw [if_neg (by omega), List.drop_eq_nil_of_le (by omega)]; rfl
  | succ d ih =>
    intro i hi
    have hx : xs[i]? = some (xs.getD i 0) := by rw [List.getD_eq_getElem?_getD, List.getElem?_eq_getElem (by omega)]; rfl
    rw [allB_drop hx]
    cases hq : withinB (xs.getD i 0) (-1000000) 1000000 with
    | true =>
      refine Ev.succ (Ev.congr (fun k => ?_) (ih (i + 1) (by omega)))
      simp only [swashplateref08_averaged.l0, within_rf, rd_nat, hq, Option.bind_some, if_true]
      rw [if_pos (by omega), if_pos (by omega), if_pos (by omega), w64s i xs.length (by omega) (by omega)]
    | false =>
      refine Ev.succ (Ev.some fun k => ?_)
      simp only [swashplateref08_averaged.l0, within_rf, rd_nat, hq, Option.bind_some]
      rw [if_pos (by omega), if_pos (by omega), if_pos (by omega)]; rfl
theorem averaged_ev (xs : List Int) (t : Int) : Ev (fun k => swashplateref08_averaged.f k xs t) (gearB xs t) := by
  unfold swashplateref08_averaged.f gearB
  simp only [within_rf, Option.bind_some]
  cases h1 : withinB xs.length 1 24
  · simp only [Bool.false_and]
    exact Ev.succ (Ev.some fun k => rfl)
  · have g1 := (withinB_iff _ _ _).1 h1
    cases h3 : withinB t 1 xs.length
    · simp only [Bool.and_false, Bool.false_and]
      exact Ev.succ (Ev.some fun k => rfl)
    · have g3 := (withinB_iff _ _ _).1 h3
      simp only [if_true, Bool.true_and, Bool.and_true]
      have e : ((xs.length : Int) % t != 0) = !((Int.tmod (xs.length : Int) t) == 0) := by
        rw [Int.tmod_eq_emod_of_nonneg (by omega)]; rfl
      rw [e]
      cases h4 : (Int.tmod (xs.length : Int) t) == 0
      · rw [Bool.and_false]
        refine Ev.succ (Ev.some fun k => ?_)
        rw [if_neg (by omega)]; rfl
      · rw [Bool.and_true]
        have := averaged_l0 xs (by omega) xs.length 0 (by omega)
        refine Ev.succ (Ev.congr (fun k => ?_) this)
        rw [if_neg (by omega)]; rfl
theorem RPattern_ev (xs : List Int) (t : Int) : Ev (fun k => swashplateref08_Pattern.f k xs t) (if gearB xs t = true then (patL xs (per xs t), 0) else ([], 1)) := by
  unfold swashplateref08_Pattern.f
  refine Ev.bind (averaged_ev xs t) ?_
  by_cases h : gearB xs t = true
  · simp only [h, if_true]
    obtain ⟨s, rfl, hs, hs24, hm, hl, h24, ha⟩ := gear_parts h
    have hp : per xs s ≤ 24 := by unfold per; exact Nat.le_trans (Nat.div_le_self _ _) h24
    have h0 := ref_pattern_l0 hm h24 ha xs.length 0 (by omega)
    refine Ev.congr (fun k => ?_) h0
    rw [if_neg (by omega), div_per hs h24, if_pos (by omega), if_pos (by omega), Int.toNat_natCast]
    rfl
  · simp only [h]
    exact Ev.some fun _ => rfl
theorem residual_ev {xs : List Int} {t : Int} (h : gearB xs t = true) : Ev (fun k => health_gear_residual.f k xs t) (resL xs t.toNat (per xs t)) := by
  unfold health_gear_residual.f
  refine Ev.bind (pattern_ev h) ?_
  obtain ⟨s, rfl, hs, hs24, hm, hl, h24, ha⟩ := gear_parts h
  exact residual_l0 hm hs h24 ha hs24 xs.length 0 (by omega)
theorem Residual_ev (xs : List Int) (t : Int) : Ev (fun k => health_Residual.f k xs t) (if gearB xs t = true then (resL xs t.toNat (per xs t), 0) else ([], 1)) := by
  unfold health_Residual.f
  simp only [newGear_f, Option.bind_some]
  by_cases h : gearB xs t = true
  · simp only [h, if_true]
    exact Ev.bind (residual_ev h) (Ev.some fun _ => rfl)
  · simp only [h]
    exact Ev.some fun _ => rfl
theorem RResidual_ev (xs : List Int) (t : Int) : Ev (fun k => swashplateref08_Residual.f k xs t) (if gearB xs t = true then (resL xs t.toNat (per xs t), 0) else ([], 1)) := by
  unfold swashplateref08_Residual.f
  refine Ev.bind (RPattern_ev xs t) ?_
  by_cases h : gearB xs t = true
  · simp only [h, if_true]
    obtain ⟨s, rfl, hs, hs24, hm, hl, h24, ha⟩ := gear_parts h
    exact ref_residual_l0 hm hs h24 ha hs24 xs.length 0 (by omega)
  · simp only [h]
    exact Ev.some fun _ => rfl
/-- the energy, the peak and the sum of the first k numbers -/
def mE (zs : List Int) : Nat → Int
  | 0 => 0
  | k + 1 => mE zs k + zs.getD k 0 * zs.getD k 0
def mP (zs : List Int) : Nat → Int
  | 0 => 0
  | k + 1 => mx (mP zs k) (zs.getD k 0).natAbs
def mS (zs : List Int) : Nat → Int
  | 0 => 0
  | k + 1 => mS zs k + (zs.getD k 0).natAbs
def Mild (zs : List Int) : Prop := zs.length ≤ 24 ∧ ∀ i : Nat, -48000000 ≤ zs.getD i 0 ∧ zs.getD i 0 ≤ 48000000
theorem sq_bd {z : Int} (h : -48000000 ≤ z ∧ z ≤ 48000000) : 0 ≤ z * z ∧ z * z ≤ 2304000000000000 := by
  have e : z * z = (z.natAbs : Int) * z.natAbs := by rw [← Int.natAbs_mul_self]; simp
  have h1 : z.natAbs ≤ 48000000 := by omega
  have h2 := Nat.mul_le_mul h1 h1
  rw [e]
  omega
theorem mE_bd {zs : List Int} (h : Mild zs) (k : Nat) : 0 ≤ mE zs k ∧ mE zs k ≤ k * 2304000000000000 := by
  induction k with
  | zero => simp [mE]
  | succ k ih => have := sq_bd (h.2 k); simp only [mE]; omega
theorem mS_bd {zs : List Int} (h : Mild zs) (k : Nat) : 0 ≤ mS zs k ∧ mS zs k ≤ k * 48000000 := by
  induction k with
  | zero => simp [mS]
  | succ k ih => have := h.2 k; simp only [mS]; omega
theorem amount_eq {z : Int} (h : -48000000 ≤ z ∧ z ≤ 48000000) : mx z (wrap64 (-z)) = z.natAbs := by
  rw [w64 (-z) (by omega) (by omega)]; unfold mx; split <;> omega
theorem abs_sq (z : Int) : (z.natAbs : Int) * z.natAbs = z * z := by rw [← Int.natAbs_mul_self]; simp
theorem measure_l0 {zs : List Int} (h : Mild zs) (D : Int) (d : Nat) : ∀ i : Nat, i + d = zs.length → Ev (fun k => health_Measure.l0 k zs (zs.length : Int) (i : Int) (mE zs i) (mP zs i) (mS zs i) D) (mE zs zs.length, mP zs zs.length, mS zs zs.length, D, 0) := by
  have hn := h.1
  induction d with
  | zero =>
    intro i hi
    refine Ev.succ (Ev.some fun k => ?_)
    simp only [health_Measure.l0]
    rw [if_neg (by omega), show i = zs.length by omega]
  | succ d ih =>
    intro i hi
    refine Ev.succ (Ev.congr (fun k => ?_) (ih (i + 1) (by omega)))
    have h1 := h.2 i
    have h2 := sq_bd h1
    have h3 := mE_bd h i
    have h4 := mS_bd h i
    simp only [health_Measure.l0, rd_nat, amount_eq h1]
    rw [if_pos (by omega), if_pos (by omega), if_pos (by omega), w64s i zs.length (by omega) (by omega), w64 (zs.getD i 0 * zs.getD i 0) (by omega) (by omega), w64 (mE zs i + _) (by omega) (by omega), w64 (mS zs i + _) (by omega) (by omega)]
    rfl
theorem ref_measure_l0 {zs : List Int} (h : Mild zs) (D : Int) (d : Nat) : ∀ i : Nat, i + d = zs.length → Ev (fun k => swashplateref08_Measure.l0 k zs (i : Int) (mE zs i) (mP zs i) (mS zs i) D) (mE zs zs.length, mP zs zs.length, mS zs zs.length, D, 0) := by
  have hn := h.1
  induction d with
  | zero =>
    intro i hi
    refine Ev.succ (Ev.some fun k => ?_)
    simp only [swashplateref08_Measure.l0]
    rw [if_neg (by omega), show i = zs.length by omega]
  | succ d ih =>
    intro i hi
    refine Ev.succ (Ev.congr (fun k => ?_) (ih (i + 1) (by omega)))
    have h1 := h.2 i
    have h2 := sq_bd h1
    have h3 := mE_bd h i
    have h4 := mS_bd h i
    simp only [swashplateref08_Measure.l0, rd_nat, amount_eq h1, abs_sq]
    rw [if_pos (by omega), if_pos (by omega), w64s i zs.length (by omega) (by omega), w64 (zs.getD i 0 * zs.getD i 0) (by omega) (by omega), w64 (mE zs i + _) (by omega) (by omega), w64 (mS zs i + _) (by omega) (by omega)]
    rfl
theorem mild_res {xs : List Int} {t : Int} (h : gearB xs t = true) : Mild (resL xs t.toNat (per xs t)) := by
  obtain ⟨s, rfl, hs, hs24, hm, hl, h24, ha⟩ := gear_parts h
  exact ⟨by rw [resL_len]; exact h24, fun i => resL_bd ha h24 hs24 _ i⟩
/-- the level, and the error -/
def meas (xs : List Int) (den t : Int) : Int × Int × Int × Int × Int :=
  if gearB xs t = true ∧ withinB den 1 1000000 = true then
    (mE (resL xs t.toNat (per xs t)) xs.length, mP (resL xs t.toNat (per xs t)) xs.length, mS (resL xs t.toNat (per xs t)) xs.length, wrap64 (den * t), 0)
  else (0, 0, 0, 0, 1)
theorem Measure_ev (xs : List Int) (den t : Int) : Ev (fun k => health_Measure.f k xs den t) (meas xs den t) := by
  unfold health_Measure.f meas
  simp only [newGear_f, Option.bind_some, within_f]
  by_cases h : gearB xs t = true
  · simp only [h, if_true, true_and]
    cases h2 : withinB den 1 1000000
    · simp only [Bool.not_false]
      exact Ev.succ (Ev.some fun _ => rfl)
    · simp only [Bool.not_true, if_true]
      refine Ev.succ ?_
      simp only [health_Measure.j0]
      refine Ev.bind (residual_ev h) ?_
      have := measure_l0 (mild_res h) (wrap64 (den * t)) (resL xs t.toNat (per xs t)).length 0 (by omega)
      rw [show xs.length = (resL xs t.toNat (per xs t)).length by rw [resL_len]]
      exact this
  · simp only [h]
    exact Ev.succ (Ev.some fun _ => rfl)
theorem RMeasure_ev (xs : List Int) (den t : Int) : Ev (fun k => swashplateref08_Measure.f k xs den t) (meas xs den t) := by
  unfold swashplateref08_Measure.f meas
  refine Ev.bind (RResidual_ev xs t) ?_
  simp only [within_rf, Option.bind_some]
  by_cases h : gearB xs t = true
  · simp only [h, if_true, true_and]
    cases h2 : withinB den 1 1000000
    · simp only [Bool.not_false]
      exact Ev.succ (Ev.some fun _ => rfl)
    · simp only [Bool.not_true, if_true]
      refine Ev.succ ?_
      simp only [swashplateref08_Measure.j0]
      have := ref_measure_l0 (mild_res h) (wrap64 (den * t)) (resL xs t.toNat (per xs t)).length 0 (by omega)
      rw [show xs.length = (resL xs t.toNat (per xs t)).length by rw [resL_len]]
      exact this
  · simp only [h]
    exact Ev.succ (Ev.some fun _ => rfl)
end Go.Proofs.Ytcmjpcmdgnbbpaa.PH
