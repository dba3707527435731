/- How likely a trend is by chance, in plain numbers: at least 1 of all orders, just one if values ascend, all if they are equal; and the trend of the opposite order. -/
import Derived.Test.YtcmjpcmdgnbbpaaAlarms
namespace Go.Proofs.Ytcmjpcmdgnbbpaa
open Go.RowKit
theorem range_sum (f : Nat → Nat) (n : Nat) : ((List.range (n + 1)).map f).sum = f 0 + ((List.range n).map fun i => f (i + 1)).sum := by
  rw [List.range_succ_eq_map, List.map_cons, List.sum_cons, List.map_map]; rfl
theorem sum_zero (f : Nat → Nat) (n : Nat) (h : ∀ i, i < n → f i = 0) : ((List.range n).map f).sum = 0 := by
  induction n with
  | zero => rfl
  | succ n ih => rw [List.range_succ, List.map_append, List.sum_append, ih (fun i hi => h i (by omega))]; simp [h n (by omega)]
theorem sum_const (f : Nat → Nat) (c n : Nat) (h : ∀ i, i < n → f i = c) : ((List.range n).map f).sum = n * c := by
  induction n with
  | zero => simp
  | succ n ih => rw [List.range_succ, List.map_append, List.sum_append, ih (fun i hi => h i (by omega))]; simp [h n (by omega), Nat.add_mul]
theorem nextNum_pos (want : Int) (n : Nat) : ∀ (order left : List Int) (so : Int), left.length = n → want ≤ so + trendFrom order left → 1 ≤ nextNum want n order left so := by
  induction n with
  | zero =>
    intro order left so hl h
    obtain rfl : left = [] := List.eq_nil_of_length_eq_zero hl
    simp only [trendFrom] at h
    simp only [nextNum]
    rw [if_pos (by omega)]; omega
  | succ n ih =>
    intro order left so hl h
    match left, hl with
    | x :: rest, hl =>
      simp only [trendFrom] at h
      have := ih (order ++ [x]) rest (so + gainL order x) (by simpa using hl) (by omega)
      simp only [nextNum]
      rw [range_sum]
      simp only [List.getD_cons_zero, List.take_zero, List.nil_append, Nat.zero_add, List.drop_succ_cons, List.drop_zero]
      omega
def maxG : Nat → Nat → Nat
  | _, 0 => 0
  | k, n + 1 => k + maxG (k + 1) n
theorem nextNum_low (want : Int) (n : Nat) : ∀ (order left : List Int) (so : Int), so + (maxG order.length n : Nat) < want → nextNum want n order left so = 0 := by
  induction n with
  | zero => intro o l s h; simp only [maxG] at h; simp only [nextNum]; rw [if_neg (by omega)]
  | succ n ih =>
    intro o l s h
    simp only [maxG] at h
    simp only [nextNum]
    refine sum_zero _ _ fun i _ => ih _ _ _ ?_
    have := (gainL_bd o (l.getD i 0)).2
    rw [List.length_append]; simp only [List.length_cons, List.length_nil, Nat.zero_add]; omega
theorem gainL_less {xs : List Int} {v y : Int} (hy : y ∈ xs) (h : v ≤ y) : gainL xs v ≤ (xs.length : Int) - 1 := by
  induction xs with
  | nil => cases hy
  | cons x xs ih =>
    have hc : gainL (x :: xs) v = cmpI v x + gainL xs v := by simp [gainL]
    have hb := gainL_bd xs v
    have hx := cmpI_bd v x
    rw [hc]
    simp only [List.length_cons]
    rcases List.mem_cons.1 hy with rfl | hm
    · have : cmpI v y ≤ 0 := by unfold cmpI; split <;> (try split) <;> omega
      omega
    · have := ih hm; omega
theorem gainL_full {xs : List Int} {v : Int} (h : ∀ y, y ∈ xs → y < v) : gainL xs v = xs.length := by
  induction xs with
  | nil => simp [gainL]
  | cons x xs ih =>
    have hc : gainL (x :: xs) v = cmpI v x + gainL xs v := by simp [gainL]
    have hx : cmpI v x = 1 := by have := h x (by simp); unfold cmpI; rw [if_neg (by omega), if_pos (by omega)]
    rw [hc, hx, ih (fun y hy => h y (by simp [hy]))]
    simp only [List.length_cons]; omega
theorem rest_len {left : List Int} {n i : Nat} (hl : left.length = n + 1) (hi : i < n + 1) : (left.take i ++ left.drop (i + 1)).length = n := by
  rw [List.length_append, List.length_take, List.length_drop]; omega
theorem nextNum_bad (want : Int) (n : Nat) : ∀ (order left : List Int) (so : Int), left.length = n → so + (maxG order.length n : Nat) ≤ want → (∃ x y, x ∈ left ∧ y ∈ order ∧ x ≤ y) → nextNum want n order left so = 0 := by
  induction n with
  | zero =>
    rintro o l s hl _ ⟨x, y, hx, _⟩
    rw [List.eq_nil_of_length_eq_zero hl] at hx; cases hx
  | succ n ih =>
    rintro o l s hl h ⟨x, y, hx, hy, hxy⟩
    simp only [maxG] at h
    obtain ⟨q, hq, hqx⟩ := List.getElem_of_mem hx
    simp only [nextNum]
    refine sum_zero _ _ fun i hi => ?_
    have hg := (gainL_bd o (l.getD i 0)).2
    have hlen : (o ++ [l.getD i 0]).length = o.length + 1 := by simp
    by_cases e : i = q
    · subst e
      have hv : l.getD i 0 = x := by rw [List.getD_eq_getElem?_getD, List.getElem?_eq_getElem hq, hqx]; rfl
      have hgl := gainL_less hy (v := l.getD i 0) (by rw [hv]; exact hxy)
      refine nextNum_low _ _ _ _ _ ?_
      rw [hlen]; omega
    · refine ih _ _ _ (rest_len hl hi) (by rw [hlen]; omega) ⟨x, y, ?_, List.mem_append.2 (.inl hy), hxy⟩
      rw [List.mem_append]
      rcases Nat.lt_or_ge q i with h' | h'
      · refine .inl ?_
        rw [← hqx]
        have : (l.take i)[q]'(by rw [List.length_take]; omega) = l[q] := List.getElem_take ..
        rw [← this]; exact List.getElem_mem _
      · refine .inr ?_
        rw [← hqx]
        have : (l.drop (i + 1))[q - (i + 1)]'(by rw [List.length_drop]; omega) = l[q] := by
          rw [List.getElem_drop]; congr 1; omega
        rw [← this]; exact List.getElem_mem _
theorem nextNum_one (want : Int) (n : Nat) : ∀ (order left : List Int) (so : Int), left.length = n → List.Pairwise (· < ·) left → (∀ x y, x ∈ left → y ∈ order → y < x) → so + (maxG order.length n : Nat) = want → nextNum want n order left so = 1 := by
  induction n with
  | zero => intro o l s _ _ _ h; simp only [maxG] at h; simp only [nextNum]; rw [if_pos (by omega)]
  | succ n ih =>
    intro o l s hl hp hxy h
    simp only [maxG] at h
    match l, hl with
    | x :: rest, hl =>
      rw [List.pairwise_cons] at hp
      have hrl : rest.length = n := by simpa using hl
      simp only [nextNum]
      rw [range_sum]
      simp only [List.getD_cons_zero, List.take_zero, List.nil_append, Nat.zero_add, List.drop_succ_cons, List.drop_zero]
      have hg : gainL o x = o.length := gainL_full (fun y hy => hxy x y (by simp) hy)
      have hlen : ∀ v : Int, (o ++ [v]).length = o.length + 1 := fun v => by simp
      rw [ih (o ++ [x]) rest (s + gainL o x) hrl hp.2 (fun a b ha hb => by
        rcases List.mem_append.1 hb with hb | hb
        · exact hxy a b (by simp [ha]) hb
        · rw [List.mem_singleton.1 hb]; exact hp.1 a ha) (by rw [hg, hlen]; omega)]
      rw [sum_zero]
      intro i hi
      simp only [List.getD_cons_succ, List.take_succ_cons]
      have hgi := (gainL_bd o (rest.getD i 0)).2
      have hri : rest.getD i 0 ∈ rest := by rw [List.getD_eq_getElem?_getD, List.getElem?_eq_getElem (by omega)]; exact List.getElem_mem _
      refine nextNum_bad _ _ _ _ _ ?_ (by rw [hlen]; omega) ⟨x, rest.getD i 0, by simp, by simp, by have := hp.1 _ hri; omega⟩
      simp only [List.cons_append, List.length_cons]
      have := rest_len (left := rest) (n := n - 1) (i := i) (by omega) (by omega)
      rw [this]; omega
theorem trendFrom_max (pre xs : List Int) (hp : List.Pairwise (· < ·) xs) (h : ∀ x y, x ∈ xs → y ∈ pre → y < x) : trendFrom pre xs = (maxG pre.length xs.length : Nat) := by
  induction xs generalizing pre with
  | nil => simp [trendFrom, maxG]
  | cons x xs ih =>
    rw [List.pairwise_cons] at hp
    simp only [trendFrom, List.length_cons, maxG]
    rw [gainL_full (fun y hy => h x y (by simp) hy), ih (pre ++ [x]) hp.2 (fun a b ha hb => by
      rcases List.mem_append.1 hb with hb | hb
      · exact h a b (by simp [ha]) hb
      · rw [List.mem_singleton.1 hb]; exact hp.1 a ha)]
    simp
theorem chNum_asc {xs : List Int} (hp : List.Pairwise (· < ·) xs) : chNum xs = 1 := by
  unfold chNum
  refine nextNum_one _ _ _ _ _ rfl hp (fun x y _ hy => by cases hy) ?_
  unfold trendL
  rw [trendFrom_max [] xs hp (fun x y _ hy => by cases hy)]; simp
theorem gainL_eq {xs : List Int} {c : Int} (h : ∀ y, y ∈ xs → y = c) : gainL xs c = 0 := by
  induction xs with
  | nil => rfl
  | cons x xs ih =>
    have hc : gainL (x :: xs) c = cmpI c x + gainL xs c := by simp [gainL]
    rw [hc, ih (fun y hy => h y (by simp [hy])), h x (by simp)]
    simp [cmpI]
theorem nextNum_all (want : Int) (c : Int) (n : Nat) : ∀ (order left : List Int) (so : Int), left.length = n → (∀ y, y ∈ order → y = c) → (∀ y, y ∈ left → y = c) → want ≤ so → nextNum want n order left so = fact n := by
  induction n with
  | zero => intro o l s _ _ _ h; simp only [nextNum, fact]; rw [if_pos h]
  | succ n ih =>
    intro o l s hl ho hle h
    simp only [nextNum, fact]
    refine sum_const _ _ _ fun i hi => ?_
    have hv : l.getD i 0 = c := by
      refine hle _ ?_
      rw [List.getD_eq_getElem?_getD, List.getElem?_eq_getElem (by omega)]; exact List.getElem_mem _
    rw [hv, gainL_eq ho, Int.add_zero]
    refine ih _ _ _ (rest_len hl hi) (fun y hy => ?_) (fun y hy => ?_) h
    · rcases List.mem_append.1 hy with hy | hy
      · exact ho y hy
      · exact List.mem_singleton.1 hy
    · rcases List.mem_append.1 hy with hy | hy
      · exact hle y (List.mem_of_mem_take hy)
      · exact hle y (List.mem_of_mem_drop hy)
theorem trendFrom_eq (c : Int) (pre xs : List Int) (h1 : ∀ y, y ∈ pre → y = c) (h2 : ∀ y, y ∈ xs → y = c) : trendFrom pre xs = 0 := by
  induction xs generalizing pre with
  | nil => rfl
  | cons x xs ih =>
    have hx := h2 x (by simp)
    subst hx
    simp only [trendFrom]
    rw [gainL_eq h1, ih (pre ++ [x]) (fun y hy => by
      rcases List.mem_append.1 hy with hy | hy
      · exact h1 y hy
      · exact List.mem_singleton.1 hy) (fun y hy => h2 y (by simp [hy]))]; rfl
theorem chNum_equal {xs : List Int} {c : Int} (h : ∀ y, y ∈ xs → y = c) : chNum xs = chDen xs := by
  unfold chNum chDen
  refine nextNum_all _ c _ _ _ _ rfl (fun y hy => by cases hy) h ?_
  unfold trendL
  rw [trendFrom_eq c [] xs (fun y hy => by cases hy) h]; exact Int.le_refl _
theorem chNum_pos (xs : List Int) : 1 ≤ chNum xs := by
  unfold chNum
  refine nextNum_pos _ _ _ _ _ rfl ?_
  unfold trendL; omega
/-! the opposite order -/
theorem cmpI_anti (x y : Int) : cmpI x y = -cmpI y x := by
  unfold cmpI
  rcases Int.lt_trichotomy x y with h | h | h
  · rw [if_pos h, if_neg (by omega), if_pos h]
  · subst h; simp
  · rw [if_neg (by omega), if_pos h, if_pos h]; rfl
theorem gainL_append (xs ys : List Int) (v : Int) : gainL (xs ++ ys) v = gainL xs v + gainL ys v := by simp [gainL]
theorem gainL_reverse (xs : List Int) (v : Int) : gainL xs.reverse v = gainL xs v := by
  induction xs with
  | nil => rfl
  | cons x xs ih =>
    rw [List.reverse_cons, gainL_append, ih]
    simp [gainL]; omega
theorem trendFrom_cons (x : Int) (pre xs : List Int) : trendFrom (x :: pre) xs = trendFrom pre xs - gainL xs x := by
  induction xs generalizing pre with
  | nil => simp [trendFrom, gainL]
  | cons y ys ih =>
    have e1 : gainL (x :: pre) y = cmpI y x + gainL pre y := by simp [gainL]
    have e2 : gainL (y :: ys) x = cmpI x y + gainL ys x := by simp [gainL]
    simp only [trendFrom]
    rw [e1, e2, show x :: pre ++ [y] = x :: (pre ++ [y]) by simp, ih, cmpI_anti y x]; omega
theorem trendL_reverse (xs : List Int) : trendL xs.reverse = -trendL xs := by
  induction xs with
  | nil => rfl
  | cons x xs ih =>
    rw [List.reverse_cons, trendL_snoc, ih, gainL_reverse]
    have : trendL (x :: xs) = trendL xs - gainL xs x := by
      unfold trendL
      simp only [trendFrom, List.nil_append]
      rw [trendFrom_cons x [] xs]
      simp [gainL]
    rw [this]; omega
/-! in lowest terms -/
theorem low_facts {p q : Nat} (hp : 1 ≤ p) (hpq : p ≤ q) : 1 ≤ lowN p q ∧ lowN p q ≤ lowD p q ∧ (q : Int) % lowD p q = 0 ∧ lowD p q ≤ q ∧ (p = 1 → lowN p q = 1 ∧ lowD p q = q) ∧ (p = q → lowN p q = 1 ∧ lowD p q = 1) := by
  obtain ⟨g, hg⟩ : ∃ g : Nat, Nat.gcd p q = g := ⟨_, rfl⟩
  have hg0 : 0 < g := by rw [← hg]; exact Nat.gcd_pos_of_pos_left _ hp
  obtain ⟨a, ha⟩ := hg ▸ Nat.gcd_dvd_left p q
  obtain ⟨b, hb⟩ := hg ▸ Nat.gcd_dvd_right p q
  have hig : Int.gcd (p : Int) (q : Int) = g := hg
  have ea : lowN p q = a := by unfold lowN; rw [hig, ha, Int.natCast_mul, Int.mul_tdiv_cancel_left _ (by omega)]
  have eb : lowD p q = b := by unfold lowD; rw [hig, hb, Int.natCast_mul, Int.mul_tdiv_cancel_left _ (by omega)]
  have hab : a ≤ b := Nat.le_of_mul_le_mul_left (by rw [← ha, ← hb]; exact hpq) hg0
  have ha1 : 1 ≤ a := by
    rcases Nat.eq_zero_or_pos a with h | h
    · subst h; omega
    · exact h
  rw [ea, eb]
  refine ⟨by omega, by omega, ?_, ?_, fun h => ?_, fun h => ?_⟩
  · rw [hb, Int.natCast_mul, Int.mul_emod_left]
  · have : b ≤ g * b := Nat.le_mul_of_pos_left _ hg0
    omega
  · have h1 : g * a = 1 := by rw [← ha]; exact h
    have hg1 : g = 1 := Nat.eq_one_of_mul_eq_one_right h1
    subst hg1; omega
  · have h2 : g * a = g * b := by rw [← ha, ← hb]; exact h
    have h3 : a = b := Nat.eq_of_mul_eq_mul_left hg0 h2
    have h4 : g = p := by rw [← hg, ← h, Nat.gcd_self]
    have h5 : g * a = g * 1 := by omega
    have h6 := Nat.eq_of_mul_eq_mul_left hg0 h5
    omega
/-! the alarm -/
theorem alFrom_spec (limit num den : Int) (xs : List Int) (d : Nat) : ∀ k, k + d = xs.length → (∀ j, j < k → hitB limit num den xs j = false) →
    (alFrom limit num den xs k = -1 ∧ ∀ j, j < xs.length → hitB limit num den xs j = false) ∨ ∃ i : Nat, alFrom limit num den xs k = i ∧ i < xs.length ∧ hitB limit num den xs i = true ∧ ∀ j, j < i → hitB limit num den xs j = false := by
  induction d with
  | zero =>
    intro k hk h
    exact .inl ⟨alFrom_ge (by omega), fun j hj => h j (by omega)⟩
  | succ d ih =>
    intro k hk h
    rw [alFrom_lt (by omega)]
    by_cases hh : hitB limit num den xs k = true
    · rw [if_pos hh]
      exact .inr ⟨k, rfl, by omega, hh, h⟩
    · rw [if_neg hh]
      refine ih (k + 1) (by omega) (fun j hj => ?_)
      by_cases e : j = k
      · subst e; exact Bool.eq_false_iff.2 hh
      · exact h j (by omega)
/-- the test of a round is never true -/
theorem alarm_round (limit num den : Int) (xs : List Int) (k : Nat) (hk : k < xs.length) : ∃ a : Int, alFrom limit num den xs 0 = a ∧ (-1 ≤ a ∧ a < xs.length) ∧ ((a < 0 ∨ (k : Int) ≤ a) → hitB limit num den xs k = decide ((k : Int) = a)) := by
  rcases alFrom_spec limit num den xs xs.length 0 (by omega) (fun j hj => by omega) with ⟨h1, h2⟩ | ⟨i, h1, h2, h3, h4⟩
  · refine ⟨-1, h1, by omega, fun _ => ?_⟩
    rw [h2 k hk, decide_eq_false (by omega)]
  · refine ⟨i, h1, by omega, fun h => ?_⟩
    by_cases e : k = i
    · subst e; rw [h3, decide_eq_true rfl]
    · rw [h4 k (by omega), decide_eq_false (by omega)]
end Go.Proofs.Ytcmjpcmdgnbbpaa
