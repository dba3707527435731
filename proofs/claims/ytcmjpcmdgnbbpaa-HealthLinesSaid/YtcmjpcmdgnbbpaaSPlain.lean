/- Slopes in plain numbers: which hours and values may be, the slopes of all pairs, the one in the middle, and the number in the middle of an ascending order, by counting. -/
import Derived.Test.YtcmjpcmdgnbbpaaSMed
namespace Go.Proofs.Ytcmjpcmdgnbbpaa
open Go.RowKit Go.Shelf Go.Sort
set_option linter.unusedVariables false
/-! hours that may be -/
def asc1S (ms : List Int) (i : Nat) : Bool := decide (i = 0) || decide (ms.getD (i - 1) 0 < ms.getD i 0)
def ascTo (ms : List Int) (k : Nat) : Bool := (List.range k).all (asc1S ms)
def ascS (ms : List Int) : Bool := ascTo ms ms.length
theorem ascTo_succ (ms : List Int) (k : Nat) : ascTo ms (k + 1) = (ascTo ms k && asc1S ms k) := by
  unfold ascTo; rw [List.range_succ, List.all_append]; simp
theorem ascTo_get {ms : List Int} {n : Nat} (h : ascTo ms n = true) {i : Nat} (hi : i < n) : asc1S ms i = true := by
  unfold ascTo at h
  rw [List.all_eq_true] at h
  exact h i (List.mem_range.2 hi)
theorem ascTo_false {ms : List Int} {n i : Nat} (hi : i < n) (h : asc1S ms i = false) : ascTo ms n = false := by
  cases hh : ascTo ms n with
  | false => rfl
  | true => rw [ascTo_get hh hi] at h; cases h
theorem asc_lt {ms : List Int} (h : ascS ms = true) {i k : Nat} (hik : i < k) (hk : k < ms.length) : ms.getD i 0 < ms.getD k 0 := by
  induction k with
  | zero => omega
  | succ k ih =>
    have h1 := ascTo_get h hk
    simp only [asc1S, Nat.add_sub_cancel, Bool.or_eq_true, decide_eq_true_eq] at h1
    rcases Nat.lt_or_ge i k with h2 | h2
    · have := ih h2 (by omega); omega
    · obtain rfl : i = k := by omega
      omega
def okS (hs vs : List Int) : Bool := valuedB vs && decide (hs.length = vs.length) && allB hs 0 1000000 && ascS hs
theorem allB_getS {xs : List Int} {l h : Int} (ha : allB xs l h = true) {i : Nat} (hi : i < xs.length) : l ≤ xs.getD i 0 ∧ xs.getD i 0 ≤ h := by
  unfold allB at ha
  rw [List.all_eq_true] at ha
  have := ha _ (List.getElem_mem hi)
  rw [List.getD_eq_getElem?_getD, List.getElem?_eq_getElem hi]
  simpa [withinB] using this
structure OkS (hs vs : List Int) : Prop where
  n1 : 1 ≤ vs.length
  n8 : vs.length ≤ 8
  hl : hs.length = vs.length
  vb : ∀ i, i < vs.length → -1000000 ≤ vs.getD i 0 ∧ vs.getD i 0 ≤ 1000000
  hb : ∀ i, i < vs.length → 0 ≤ hs.getD i 0 ∧ hs.getD i 0 ≤ 1000000
  up : ∀ i k, i < k → k < vs.length → hs.getD i 0 < hs.getD k 0
theorem OkS.of {hs vs : List Int} (h : okS hs vs = true) : OkS hs vs := by
  simp only [okS, valuedB, Bool.and_eq_true, decide_eq_true_eq] at h
  obtain ⟨⟨⟨⟨⟨h1, h2⟩, h3⟩, h4⟩, h5⟩, h6⟩ := h
  exact ⟨h1, h2, h4, fun i hi => allB_getS h3 hi, fun i hi => allB_getS h5 (by omega), fun i k hik hk => asc_lt h6 hik (by omega)⟩
/-! all pairs, in the order of the loops -/
def idxTo (k i : Nat) : List (Nat × Nat) := ((List.range k).flatMap fun a => (List.range a).map fun b => (a, b)) ++ (List.range i).map fun b => (k, b)
theorem idxTo_succ (k i : Nat) : idxTo k (i + 1) = idxTo k i ++ [(k, i)] := by
  unfold idxTo; rw [List.range_succ, List.map_append, ← List.append_assoc]; rfl
theorem idxTo_next (k : Nat) : idxTo (k + 1) 0 = idxTo k k := by
  unfold idxTo; rw [List.range_succ, List.flatMap_append]; simp
theorem idxTo_len (k i : Nat) (hk : k ≤ 8) (hi : i ≤ k) : (idxTo k i).length ≤ 36 := by
  have h8 : ∀ k, k ≤ 8 → (idxTo k k).length ≤ 36 := by decide
  have : (idxTo k i).length ≤ (idxTo k k).length := by unfold idxTo; simp; omega
  exact Nat.le_trans this (h8 k hk)
theorem idxTo_mem {k i a b : Nat} (h : (a, b) ∈ idxTo k i) : (a < k ∧ b < a) ∨ (a = k ∧ b < i) := by
  unfold idxTo at h
  rw [List.mem_append, List.mem_flatMap] at h
  rcases h with ⟨c, hc, h⟩ | h
  · obtain ⟨d, hd, e⟩ := List.mem_map.1 h
    cases e
    exact .inl ⟨List.mem_range.1 hc, List.mem_range.1 hd⟩
  · obtain ⟨d, hd, e⟩ := List.mem_map.1 h
    cases e
    exact .inr ⟨rfl, List.mem_range.1 hd⟩
def mkFr (a b : Int) : Frac := if h : (-2000000 ≤ a ∧ a ≤ 2000000) ∧ 1 ≤ b ∧ b ≤ 1000000 then ⟨a, b, h.1, h.2⟩ else default
theorem mkFr_num {a b : Int} (h : (-2000000 ≤ a ∧ a ≤ 2000000) ∧ 1 ≤ b ∧ b ≤ 1000000) : (mkFr a b).num = a ∧ (mkFr a b).den = b := by
  unfold mkFr; rw [dif_pos h]; exact ⟨rfl, rfl⟩
def slF (hs vs : List Int) (p : Nat × Nat) : Frac := mkFr (vs.getD p.1 0 - vs.getD p.2 0) (hs.getD p.1 0 - hs.getD p.2 0)
def slTo (hs vs : List Int) (k i : Nat) : List Frac := (idxTo k i).map (slF hs vs)
def slL (hs vs : List Int) : List Frac := slTo hs vs vs.length 0
theorem slTo_succ (hs vs : List Int) (k i : Nat) : slTo hs vs k (i + 1) = slTo hs vs k i ++ [slF hs vs (k, i)] := by unfold slTo; rw [idxTo_succ, List.map_append]; rfl
theorem slTo_next (hs vs : List Int) (k : Nat) : slTo hs vs (k + 1) 0 = slTo hs vs k k := by unfold slTo; rw [idxTo_next]
theorem slTo_len (hs vs : List Int) {k i : Nat} (hk : k ≤ 8) (hi : i ≤ k) : (slTo hs vs k i).length ≤ 36 := by unfold slTo; rw [List.length_map]; exact idxTo_len k i hk hi
theorem slF_num {hs vs : List Int} (h : OkS hs vs) {k i : Nat} (hi : i < k) (hk : k < vs.length) : (slF hs vs (k, i)).num = vs.getD k 0 - vs.getD i 0 ∧ (slF hs vs (k, i)).den = hs.getD k 0 - hs.getD i 0 := by
  have h1 := h.vb k hk
  have h2 := h.vb i (by omega)
  have h3 := h.hb k hk
  have h4 := h.hb i (by omega)
  have h5 := h.up i k hi hk
  have := mkFr_num (a := vs.getD k 0 - vs.getD i 0) (b := hs.getD k 0 - hs.getD i 0) ⟨⟨by omega, by omega⟩, by omega, by omega⟩
  exact this
theorem slL_pos {hs vs : List Int} (h : 2 ≤ vs.length) : 0 < (slL hs vs).length := by
  unfold slL slTo
  rw [List.length_map]
  refine List.length_pos_of_mem (a := (1, 0)) ?_
  unfold idxTo
  rw [List.mem_append, List.mem_flatMap]
  exact .inl ⟨1, List.mem_range.2 (by omega), by simp⟩
/-! the fraction in the middle -/
def leF (x y : Frac) : Bool := !Frac.lt y x
def midF (l : List Frac) : Frac := (l.mergeSort leF).getD ((l.length - 1) / 2) default
theorem midF_mid {l : List Frac} (h : 0 < l.length) : Mid l (midF l) := by
  refine ⟨l.mergeSort leF, List.mergeSort_perm l leF, ?_, ?_⟩
  · have := List.pairwise_mergeSort (le := leF) (fun a b c h1 h2 => by
      simp only [leF, Bool.not_eq_true'] at *
      rw [← ltOf_F] at *
      exact swoF.ntrans c b a h2 h1) (fun a b => by
      simp only [leF, Bool.or_eq_true, Bool.not_eq_true']
      rw [← ltOf_F, ← ltOf_F]
      cases h1 : ltOf cfF b a with
      | false => exact .inl rfl
      | true =>
        cases h2 : ltOf cfF a b with
        | false => exact .inr rfl
        | true =>
          have := swoF.trans _ _ _ h1 h2
          rw [swoF.irrefl] at this
          cases this) l
    exact this.imp fun {a b} hab => by simpa [leF] using hab
  · have hlt : (l.length - 1) / 2 < (l.mergeSort leF).length := by rw [List.length_mergeSort]; omega
    unfold midF
    rw [List.getD_eq_getElem?_getD, List.getElem?_eq_getElem hlt]; rfl
theorem mid_low {l : List Frac} {x y : Frac} (hx : Mid l x) (hy : Mid l y) : lowN x.num x.den = lowN y.num y.den ∧ lowD x.num x.den = lowD y.num y.den := by
  obtain ⟨l1, p1, a1, e1⟩ := hx
  obtain ⟨l2, p2, a2, e2⟩ := hy
  have hs := mid_same a1 a2 (p1.trans p2.symm) e1 e2
  have d1 := x.db
  have d2 := y.db
  exact tdiv_same (by omega) (by omega) hs
def sN (hs vs : List Int) : Int := lowN (midF (slL hs vs)).num (midF (slL hs vs)).den
def sD (hs vs : List Int) : Int := lowD (midF (slL hs vs)).num (midF (slL hs vs)).den
theorem low_bd (x : Frac) : (-2000000 ≤ lowN x.num x.den ∧ lowN x.num x.den ≤ 2000000) ∧ 1 ≤ lowD x.num x.den ∧ lowD x.num x.den ≤ 1000000 := by
  have hn := x.nb
  have hd := x.db
  have g1 : (0 : Int) < Int.gcd x.num x.den := by
    have := Int.gcd_pos_of_ne_zero_right (a := x.num) (b := x.den) (by omega); omega
  obtain ⟨p, hp⟩ : (Int.gcd x.num x.den : Int) ∣ x.num := Int.gcd_dvd_left ..
  obtain ⟨q, hq⟩ : (Int.gcd x.num x.den : Int) ∣ x.den := Int.gcd_dvd_right ..
  unfold lowN lowD
  generalize (Int.gcd x.num x.den : Int) = g at *
  have t1 : x.num.tdiv g = p := by rw [hp, Int.mul_tdiv_cancel_left _ (by omega)]
  have t2 : x.den.tdiv g = q := by rw [hq, Int.mul_tdiv_cancel_left _ (by omega)]
  rw [t1, t2]
  have q0 : 0 < q := by
    rcases Int.lt_or_le 0 q with h | h
    · exact h
    · have := Int.mul_le_mul_of_nonneg_left h (Int.le_of_lt g1)
      rw [Int.mul_zero] at this; omega
  have hg : 1 ≤ g := by omega
  have k1 : q ≤ g * q := by have := Int.mul_le_mul_of_nonneg_right hg (Int.le_of_lt q0); omega
  have k2 : (p.natAbs : Int) ≤ (x.num.natAbs : Int) := by
    rw [hp, Int.natAbs_mul]
    have : 1 ≤ g.natAbs := by omega
    have := Nat.mul_le_mul_right p.natAbs this
    omega
  omega
/-! the number in the middle, by counting -/
def medI (l : List Int) : Int := (l.mergeSort fun a b => decide (a ≤ b)).getD ((l.length - 1) / 2) 0
theorem down_count {s : List Int} (hs : s.Pairwise (· ≤ ·)) {p : Int → Bool} (hp : ∀ a b, a ≤ b → p b = true → p a = true) {i : Nat} {v : Int} (hv : s[i]? = some v) : (p v = true → i + 1 ≤ s.countP p) ∧ (p v = false → s.countP p ≤ i) := by
  obtain ⟨hi, rfl⟩ := List.getElem?_eq_some_iff.1 hv
  have hle : ∀ j k (hj : j < s.length) (hk : k < s.length), j ≤ k → s[j] ≤ s[k] := fun j k hj hk hjk => by
    rcases Nat.lt_or_ge j k with h | h
    · exact (List.pairwise_iff_getElem.1 hs) j k hj hk h
    · obtain rfl : j = k := by omega
      exact Int.le_refl _
  constructor
  · intro h
    have h1 : (s.take (i + 1)).countP p = (s.take (i + 1)).length := by
      rw [List.countP_eq_length]
      intro a ha
      obtain ⟨j, hj, rfl⟩ := List.getElem_of_mem ha
      rw [List.getElem_take]
      rw [List.length_take] at hj
      exact hp _ _ (hle j i (by omega) hi (by omega)) h
    have h2 := List.Sublist.countP_le (p := p) (List.take_sublist (i + 1) s)
    rw [h1, List.length_take] at h2
    omega
  · intro h
    have h1 : (s.drop i).countP p = 0 := by
      rw [List.countP_eq_zero]
      intro a ha hpa
      obtain ⟨j, hj, rfl⟩ := List.getElem_of_mem ha
      rw [List.getElem_drop] at hpa
      rw [List.length_drop] at hj
      have := hp _ _ (hle i (i + j) hi (by omega) (by omega)) hpa
      rw [h] at this; cases this
    have h2 : s.countP p = (s.take i).countP p + (s.drop i).countP p := by rw [← List.countP_append, List.take_append_drop]
    have h3 := List.countP_le_length (p := p) (l := s.take i)
    rw [List.length_take] at h3
    omega
def belowN (l : List Int) (x : Int) : Nat := l.countP fun a => decide (a < x)
def sameN (l : List Int) (x : Int) : Nat := l.countP fun a => decide (a = x)
def mid1 (l : List Int) (x : Int) : Bool := decide (belowN l x ≤ (l.length - 1) / 2) && decide ((l.length - 1) / 2 < belowN l x + sameN l x)
theorem count_le (l : List Int) (x : Int) : l.countP (fun a => decide (a ≤ x)) = belowN l x + sameN l x := by
  unfold belowN sameN
  induction l with
  | nil => rfl
  | cons a l ih =>
    simp only [List.countP_cons, ih, decide_eq_true_eq]
    rcases Int.lt_trichotomy a x with h | h | h
    · rw [if_pos (by omega), if_pos h, if_neg (by omega)]; omega
    · rw [if_pos (by omega), if_neg (by omega), if_pos h]; omega
    · rw [if_neg (by omega), if_neg (by omega), if_neg (by omega)]; omega
theorem mid1_iff {l : List Int} (hl : 0 < l.length) (x : Int) : mid1 l x = true ↔ x = medI l := by
  have hp := List.mergeSort_perm l fun a b => decide (a ≤ b)
  have hs : (l.mergeSort fun a b => decide (a ≤ b)).Pairwise (· ≤ ·) := by
    have := List.pairwise_mergeSort (le := fun a b : Int => decide (a ≤ b)) (fun a b c h1 h2 => by simp at *; omega) (fun a b => by simp; omega) l
    exact this.imp fun {a b} h => by simpa using h
  have hi : (l.length - 1) / 2 < (l.mergeSort fun a b => decide (a ≤ b)).length := by rw [List.length_mergeSort]; omega
  have hv : (l.mergeSort fun a b => decide (a ≤ b))[(l.length - 1) / 2]? = some (medI l) := by
    unfold medI
    rw [List.getD_eq_getElem?_getD, List.getElem?_eq_getElem hi]; rfl
  have c1 := down_count hs (p := fun a => decide (a < x)) (fun a b h1 h2 => by simp at *; omega) hv
  have c2 := down_count hs (p := fun a => decide (a ≤ x)) (fun a b h1 h2 => by simp at *; omega) hv
  rw [hp.countP_eq] at c1 c2
  rw [count_le] at c2
  have e : l.countP (fun a => decide (a < x)) = belowN l x := rfl
  rw [e] at c1
  simp only [decide_eq_true_eq, decide_eq_false_iff_not] at c1 c2
  simp only [mid1, Bool.and_eq_true, decide_eq_true_eq]
  omega
/-- what the reference's search has found in front of i -/
def bestTo (l : List Int) : Nat → Int
  | 0 => l.getD 0 0
  | i + 1 => if mid1 l (l.getD i 0) = true then l.getD i 0 else bestTo l i
theorem bestTo_med {l : List Int} (hl : 0 < l.length) : bestTo l l.length = medI l := by
  have hi : (l.length - 1) / 2 < (l.mergeSort fun a b => decide (a ≤ b)).length := by rw [List.length_mergeSort]; omega
  have hmem : medI l ∈ l := by
    have hp := List.mergeSort_perm l fun a b => decide (a ≤ b)
    unfold medI
    rw [List.getD_eq_getElem?_getD, List.getElem?_eq_getElem hi]
    exact hp.mem_iff.1 (List.getElem_mem hi)
  obtain ⟨j, hj, hjm⟩ := List.getElem_of_mem hmem
  have key : ∀ i, j < i → i ≤ l.length → bestTo l i = medI l := by
    intro i
    induction i with
    | zero => intro h; omega
    | succ i ih =>
      intro h1 h2
      simp only [bestTo]
      by_cases hm : mid1 l (l.getD i 0) = true
      · rw [if_pos hm]; exact (mid1_iff hl _).1 hm
      · rw [if_neg hm]
        rcases Nat.lt_or_ge j i with h | h
        · exact ih h (by omega)
        · obtain rfl : j = i := by omega
          exact absurd ((mid1_iff hl _).2 (by rw [List.getD_eq_getElem?_getD, List.getElem?_eq_getElem hj, ← hjm]; rfl)) hm
  exact key _ hj (Nat.le_refl _)
/-- where all values lead to, divided by the slope's denominator -/
def endF (hs vs : List Int) (t : Int) (i : Nat) : Int := vs.getD i 0 * sD hs vs + sN hs vs * (t - hs.getD i 0)
def endsTo (hs vs : List Int) (t : Int) (k : Nat) : List Int := (List.range k).map (endF hs vs t)
theorem endsTo_succ (hs vs : List Int) (t : Int) (k : Nat) : endsTo hs vs t (k + 1) = endsTo hs vs t k ++ [endF hs vs t k] := by unfold endsTo; rw [List.range_succ, List.map_append]; rfl
theorem endsTo_len (hs vs : List Int) (t : Int) (k : Nat) : (endsTo hs vs t k).length = k := by simp [endsTo]
end Go.Proofs.Ytcmjpcmdgnbbpaa
