/- Two ascending orders of the same fractions have equal fractions in the middle; equal fractions have the same lowest terms. -/
namespace Go.Proofs.Ytcmjpcmdgnbbpaa
/-- a fraction with a denominator above 0 -/
structure Frac where
  num : Int
  den : Int
  nb : -2000000 ≤ num ∧ num ≤ 2000000
  db : 1 ≤ den ∧ den ≤ 1000000
def Frac.lt (x y : Frac) : Bool := decide (x.num * y.den < y.num * x.den)
/-- a common denominator -/
def cden : List Frac → Int
  | [] => 1
  | x :: l => x.den * cden l
theorem cden_pos : ∀ l, 0 < cden l
  | [] => by decide
  | x :: l => Int.mul_pos (by have := x.db; omega) (cden_pos l)
theorem den_dvd {x : Frac} : ∀ {l : List Frac}, x ∈ l → x.den ∣ cden l
  | y :: l, h => by
    rcases List.mem_cons.1 h with rfl | h
    · exact ⟨cden l, rfl⟩
    · obtain ⟨k, hk⟩ := den_dvd h
      exact ⟨y.den * k, by simp only [cden]; rw [hk, ← Int.mul_assoc, Int.mul_comm y.den, Int.mul_assoc]⟩
def Frac.key (D : Int) (x : Frac) : Int := x.num * (D / x.den)
theorem key_mul {D : Int} {x : Frac} (h : x.den ∣ D) : x.key D * x.den = x.num * D := by
  unfold Frac.key
  rw [Int.mul_assoc, Int.ediv_mul_cancel h]
theorem lt_key {D : Int} (hD : 0 < D) {x y : Frac} (hx : x.den ∣ D) (hy : y.den ∣ D) : x.num * y.den < y.num * x.den ↔ x.key D < y.key D := by
  have h1 := key_mul hx
  have h2 := key_mul hy
  have p1 : 0 < x.den := by have := x.db; omega
  have p2 : 0 < y.den := by have := y.db; omega
  have e1 : x.num * y.den * D = x.key D * (x.den * y.den) := by
    rw [Int.mul_right_comm, ← h1, Int.mul_assoc]
  have e2 : y.num * x.den * D = y.key D * (x.den * y.den) := by
    rw [Int.mul_right_comm, ← h2, Int.mul_assoc, Int.mul_comm y.den]
  have p3 : 0 < x.den * y.den := Int.mul_pos p1 p2
  constructor
  · intro h
    have := Int.mul_lt_mul_of_pos_right h hD
    rw [e1, e2] at this
    exact Int.lt_of_mul_lt_mul_right this (Int.le_of_lt p3)
  · intro h
    have := Int.mul_lt_mul_of_pos_right h p3
    rw [← e1, ← e2] at this
    exact Int.lt_of_mul_lt_mul_right this (Int.le_of_lt hD)
/-- ascending: no later one is less than an earlier one -/
def AscF (l : List Frac) : Prop := l.Pairwise fun x y => Frac.lt y x = false
theorem asc_keys {D : Int} (hD : 0 < D) {l : List Frac} (hd : ∀ x ∈ l, x.den ∣ D) (h : AscF l) : (l.map (Frac.key D)).Pairwise (· ≤ ·) := by
  rw [List.pairwise_map]
  refine List.Pairwise.imp_of_mem ?_ h
  intro x y hx hy hxy
  have := (lt_key hD (hd y hy) (hd x hx)).2
  simp only [Frac.lt, decide_eq_false_iff_not] at hxy
  omega
/-- two fractions are equal -/
def Frac.same (x y : Frac) : Prop := x.num * y.den = y.num * x.den
theorem mid_same {l1 l2 : List Frac} (h1 : AscF l1) (h2 : AscF l2) (hp : l1.Perm l2) {i : Nat} {x y : Frac} (hx : l1[i]? = some x) (hy : l2[i]? = some y) : x.same y := by
  have hD := cden_pos l1
  have d1 : ∀ z ∈ l1, z.den ∣ cden l1 := fun z hz => den_dvd hz
  have d2 : ∀ z ∈ l2, z.den ∣ cden l1 := fun z hz => den_dvd (hp.mem_iff.2 hz)
  generalize cden l1 = D at *
  have e : l1.map (Frac.key D) = l2.map (Frac.key D) :=
    List.Perm.eq_of_pairwise (fun a b _ _ h h' => Int.le_antisymm h h') (asc_keys hD d1 h1) (asc_keys hD d2 h2) (hp.map _)
  have k1 : (l1.map (Frac.key D))[i]? = some (x.key D) := by rw [List.getElem?_map, hx]; rfl
  have k2 : (l2.map (Frac.key D))[i]? = some (y.key D) := by rw [List.getElem?_map, hy]; rfl
  rw [e, k2] at k1
  have ek : y.key D = x.key D := Option.some.inj k1
  have dx := d1 x (List.mem_of_getElem? hx)
  have dy := d2 y (List.mem_of_getElem? hy)
  have a1 := lt_key hD dx dy
  have a2 := lt_key hD dy dx
  unfold Frac.same
  omega
theorem tdiv_same {a b c d : Int} (hb : 0 < b) (hd : 0 < d) (h : a * d = c * b) : a.tdiv (Int.gcd a b) = c.tdiv (Int.gcd c d) ∧ b.tdiv (Int.gcd a b) = d.tdiv (Int.gcd c d) := by
  have g1 : (0 : Int) < Int.gcd a b := by
    have := Int.gcd_pos_of_ne_zero_right (a := a) (b := b) (by omega); omega
  have g2 : (0 : Int) < Int.gcd c d := by
    have := Int.gcd_pos_of_ne_zero_right (a := c) (b := d) (by omega); omega
  -- gcd (a * d) (b * d) = gcd a b * d, and gcd (c * b) (d * b) = gcd c d * b
  have e1 : (Int.gcd (a * d) (b * d) : Int) = Int.gcd a b * d := by
    rw [Int.gcd_mul_right]; push_cast; rw [Int.natAbs_of_nonneg (Int.le_of_lt hd)]
  have e2 : (Int.gcd (c * b) (d * b) : Int) = Int.gcd c d * b := by
    rw [Int.gcd_mul_right]; push_cast; rw [Int.natAbs_of_nonneg (Int.le_of_lt hb)]
  have e : (Int.gcd a b : Int) * d = Int.gcd c d * b := by rw [← e1, ← e2, h, Int.mul_comm b d]
  obtain ⟨p, hp⟩ : (Int.gcd a b : Int) ∣ a := Int.gcd_dvd_left ..
  obtain ⟨q, hq⟩ : (Int.gcd a b : Int) ∣ b := Int.gcd_dvd_right ..
  obtain ⟨r, hr⟩ : (Int.gcd c d : Int) ∣ c := Int.gcd_dvd_left ..
  obtain ⟨s, hs⟩ : (Int.gcd c d : Int) ∣ d := Int.gcd_dvd_right ..
  generalize (Int.gcd a b : Int) = g at *
  generalize (Int.gcd c d : Int) = k at *
  have t1 : a.tdiv g = p := by rw [hp, Int.mul_tdiv_cancel_left _ (by omega)]
  have t2 : b.tdiv g = q := by rw [hq, Int.mul_tdiv_cancel_left _ (by omega)]
  have t3 : c.tdiv k = r := by rw [hr, Int.mul_tdiv_cancel_left _ (by omega)]
  have t4 : d.tdiv k = s := by rw [hs, Int.mul_tdiv_cancel_left _ (by omega)]
  rw [t1, t2, t3, t4]
  have hqs : q = s := by
    -- g * d = k * b, d = k * s, b = g * q
    rw [hs, hq] at e
    have : (g * k) * s = (g * k) * q := by
      calc (g * k) * s = g * (k * s) := by rw [Int.mul_assoc]
        _ = k * (g * q) := e
        _ = (g * k) * q := by rw [← Int.mul_assoc, Int.mul_comm k g]
    exact (Int.eq_of_mul_eq_mul_left (by have := Int.mul_pos g1 g2; omega) this).symm
  refine ⟨?_, hqs⟩
  rw [hp, hr, hs, hq, hqs] at h
  -- g p k s = k r g s
  have hs0 : s ≠ 0 := by
    intro h0; rw [h0, Int.mul_zero] at hs; omega
  have : (g * k * s) * p = (g * k * s) * r := by
    calc (g * k * s) * p = g * p * (k * s) := by simp [Int.mul_comm, Int.mul_left_comm]
      _ = k * r * (g * s) := h
      _ = (g * k * s) * r := by simp [Int.mul_comm, Int.mul_left_comm]
  exact Int.eq_of_mul_eq_mul_left (by
    have := Int.mul_pos g1 g2
    intro h0
    rcases Int.mul_eq_zero.1 h0 with h0 | h0
    · omega
    · exact hs0 h0) this
end Go.Proofs.Ytcmjpcmdgnbbpaa
