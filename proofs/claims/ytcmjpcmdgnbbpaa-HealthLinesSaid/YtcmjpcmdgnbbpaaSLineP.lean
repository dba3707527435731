/- HealthLines in plain numbers: values on a line have its slope, and with one value anywhere else they have it still. -/
import Derived.Test.YtcmjpcmdgnbbpaaSFore
namespace Go.Proofs.Ytcmjpcmdgnbbpaa
open Go.RowKit
set_option linter.unusedVariables false
/-- a slope is s -/
def onS (s : Int) (x : Frac) : Bool := decide (x.num = s * x.den)
theorem low_onS {s : Int} {x : Frac} (h : onS s x = true) : lowN x.num x.den = s ∧ lowD x.num x.den = 1 := by
  have h' : x.num = s * x.den := of_decide_eq_true h
  have hd := x.db
  have g : (Int.gcd x.num x.den : Int) = x.den := by
    rw [h', Int.gcd_comm, Int.gcd_mul_left_right]
    omega
  unfold lowN lowD
  rw [g]
  refine ⟨?_, Int.tdiv_self (by omega)⟩
  rw [h']
  exact Int.mul_tdiv_cancel _ (by omega)
theorem mul_lt_of {a b c d s : Int} (hb : 0 < b) (hd : 0 < d) (h1 : c * b ≤ a * d) (h2 : a < s * b) : c < s * d := by
  have h3 := Int.mul_lt_mul_of_pos_right h2 hd
  have h4 : c * b < s * d * b := by
    have e : s * b * d = s * d * b := by rw [Int.mul_assoc, Int.mul_comm b d, ← Int.mul_assoc]
    omega
  exact Int.lt_of_mul_lt_mul_right h4 (by omega)
/-- the fraction in the middle, if all but a few have the slope s -/
theorem mid_onS {l : List Frac} {x : Frac} {s : Int} (h : Mid l x) (h1 : (l.countP fun y => !onS s y) ≤ (l.length - 1) / 2) (h2 : (l.countP fun y => !onS s y) + (l.length - 1) / 2 + 1 ≤ l.length) : onS s x = true := by
  obtain ⟨l', hp, ha, hx⟩ := h
  rw [← hp.countP_eq] at h1 h2
  rw [← hp.length_eq] at h1 h2 hx
  obtain ⟨hi, rfl⟩ := List.getElem?_eq_some_iff.1 hx
  generalize (l'.length - 1) / 2 = m at *
  have hle : ∀ j k (hj : j < l'.length) (hk : k < l'.length), j < k → l'[j].num * l'[k].den ≤ l'[k].num * l'[j].den := fun j k hj hk hjk => by
    have := (List.pairwise_iff_getElem.1 ha) j k hj hk hjk
    simp only [Frac.lt, decide_eq_false_iff_not] at this
    omega
  have hpos : ∀ y : Frac, 0 < y.den := fun y => by have := y.db; omega
  cases hc : onS s l'[m] with
  | true => rfl
  | false =>
    have hne : l'[m].num ≠ s * l'[m].den := of_decide_eq_false hc
    exfalso
    rcases Int.lt_or_gt_of_ne hne with hlt | hgt
    · have hall : (l'.take (m + 1)).countP (fun y => !onS s y) = (l'.take (m + 1)).length := by
        rw [List.countP_eq_length]
        intro y hy
        obtain ⟨j, hj, rfl⟩ := List.getElem_of_mem hy
        rw [List.getElem_take]
        rw [List.length_take] at hj
        have : l'[j].num < s * l'[j].den := by
          rcases Nat.lt_or_ge j m with h | h
          · exact mul_lt_of (hpos _) (hpos _) (hle j m (by omega) hi h) hlt
          · obtain rfl : j = m := by omega
            exact hlt
        simp [onS]; omega
      have hs := List.Sublist.countP_le (p := fun y => !onS s y) (List.take_sublist (m + 1) l')
      rw [hall, List.length_take] at hs
      omega
    · have hall : (l'.drop m).countP (fun y => !onS s y) = (l'.drop m).length := by
        rw [List.countP_eq_length]
        intro y hy
        obtain ⟨j, hj, rfl⟩ := List.getElem_of_mem hy
        rw [List.getElem_drop]
        rw [List.length_drop] at hj
        have : s * l'[m + j].den < l'[m + j].num := by
          rcases Nat.eq_zero_or_pos j with h | h
          · subst h; exact hgt
          · have h5 := hle m (m + j) hi (by omega) (by omega)
            have := mul_lt_of (a := - l'[m].num) (b := l'[m].den) (c := - l'[m + j].num) (d := l'[m + j].den) (s := -s) (hpos _) (hpos _) (by rw [Int.neg_mul, Int.neg_mul]; omega) (by rw [Int.neg_mul]; omega)
            rw [Int.neg_mul] at this
            omega
        simp [onS]; omega
      have hs := List.Sublist.countP_le (p := fun y => !onS s y) (List.drop_sublist m l')
      rw [hall, List.length_drop] at hs
      omega
/-! hours and values of a line -/
def lineTo (hs : List Int) (v s : Int) (k : Nat) : List Int := (List.range k).map fun i => v + s * hs.getD i 0
theorem lineTo_len (hs : List Int) (v s : Int) (k : Nat) : (lineTo hs v s k).length = k := by simp [lineTo]
theorem lineTo_succ (hs : List Int) (v s : Int) (k : Nat) : lineTo hs v s (k + 1) = lineTo hs v s k ++ [v + s * hs.getD k 0] := by unfold lineTo; rw [List.range_succ, List.map_append]; rfl
theorem lineTo_get (hs : List Int) (v s : Int) {n i : Nat} (h : i < n) : (lineTo hs v s n).getD i 0 = v + s * hs.getD i 0 := by simp [lineTo, List.getD_eq_getElem?_getD, h]
/-- the line's hours in front of k may be -/
def hrTo (hs : List Int) (k : Nat) : Bool := (List.range k).all fun i => decide (0 ≤ hs.getD i 0) && decide (hs.getD i 0 ≤ 900) && asc1S hs i
theorem hrTo_succ (hs : List Int) (k : Nat) : hrTo hs (k + 1) = (hrTo hs k && (decide (0 ≤ hs.getD k 0) && decide (hs.getD k 0 ≤ 900) && asc1S hs k)) := by
  unfold hrTo; rw [List.range_succ, List.all_append]; simp
structure LineOk (hs : List Int) (n : Nat) (v s : Int) : Prop where
  len : hs.length = n
  n2 : 2 ≤ n
  n8 : n ≤ 8
  sb : -1000 ≤ s ∧ s ≤ 1000
  vb : -1000 ≤ v ∧ v ≤ 1000
  hr : hrTo hs n = true
section
variable {hs : List Int} {n : Nat} {v s : Int} (H : LineOk hs n v s)
include H
theorem LineOk.hb {i : Nat} (hi : i < n) : (0 ≤ hs.getD i 0 ∧ hs.getD i 0 ≤ 900) ∧ asc1S hs i = true := by
  have h := H.hr
  unfold hrTo at h
  rw [List.all_eq_true] at h
  have := h i (List.mem_range.2 hi)
  simp only [Bool.and_eq_true, decide_eq_true_eq] at this
  exact this
theorem line_bd {h : Int} (hh : 0 ≤ h ∧ h ≤ 900) : -1000000 ≤ v + s * h ∧ v + s * h ≤ 1000000 := by
  have := mul_bdS (a := s) (b := h) 1000 900 H.sb (by omega)
  have := H.vb
  omega
theorem LineOk.okS {vs : List Int} (hl : vs.length = n) (hv : ∀ i, i < n → -1000000 ≤ vs.getD i 0 ∧ vs.getD i 0 ≤ 1000000) : okS hs vs = true := by
  have h1 := H.len
  have h2 := H.n2
  have h8 := H.n8
  have e1 : allB vs (-1000000) 1000000 = true := by
    unfold allB
    rw [List.all_eq_true]
    intro x hx
    obtain ⟨i, hi, rfl⟩ := List.getElem_of_mem hx
    have := hv i (by omega)
    rw [List.getD_eq_getElem?_getD, List.getElem?_eq_getElem hi] at this
    simpa [withinB] using this
  have e2 : allB hs 0 1000000 = true := by
    unfold allB
    rw [List.all_eq_true]
    intro x hx
    obtain ⟨i, hi, rfl⟩ := List.getElem_of_mem hx
    have := (H.hb (i := i) (by omega)).1
    rw [List.getD_eq_getElem?_getD, List.getElem?_eq_getElem hi] at this
    have h3 : 0 ≤ hs[i] ∧ hs[i] ≤ 900 := this
    simp [withinB]; omega
  have e3 : ascS hs = true := by
    unfold ascS ascTo
    rw [List.all_eq_true]
    intro i hi
    exact (H.hb (by have := List.mem_range.1 hi; omega)).2
  have e4 : valuedB vs = true := by
    unfold valuedB; rw [e1, hl]; simp; omega
  unfold Go.Proofs.Ytcmjpcmdgnbbpaa.okS
  rw [e2, e3, e4, h1, hl]; simp
theorem LineOk.ok : Go.Proofs.Ytcmjpcmdgnbbpaa.okS hs (lineTo hs v s n) = true :=
  H.okS (lineTo_len _ _ _ _) fun i hi => by rw [lineTo_get _ _ _ hi]; exact line_bd H (H.hb hi).1
theorem LineOk.chk {vs : List Int} (hok : Go.Proofs.Ytcmjpcmdgnbbpaa.okS hs vs = true) {t : Int} (ht : 0 ≤ t ∧ t ≤ 1000000) : chkS hs vs t = 0 := by
  have h2 := H.n2
  have := (OkS.of hok).hl
  have := H.len
  have hw : withinB t 0 1000000 = true := by simp [withinB]; omega
  unfold chkS
  rw [if_pos ⟨hok, hw⟩, if_neg (by omega)]
theorem LineOk.slope_at {vs : List Int} (hok : Go.Proofs.Ytcmjpcmdgnbbpaa.okS hs vs = true) {k i : Nat} (hi : i < k) (hk : k < n) (ek : vs.getD k 0 = v + s * hs.getD k 0) (ei : vs.getD i 0 = v + s * hs.getD i 0) : onS s (slF hs vs (k, i)) = true := by
  have OK := OkS.of hok
  have := OK.hl
  have := H.len
  have e := slF_num OK hi (by omega)
  unfold onS
  rw [e.1, e.2, ek, ei, Int.mul_sub]
  simp
  omega
theorem LineOk.slope {vs : List Int} (hok : Go.Proofs.Ytcmjpcmdgnbbpaa.okS hs vs = true) (hc1 : ((slL hs vs).countP fun y => !onS s y) ≤ ((slL hs vs).length - 1) / 2) (hc2 : ((slL hs vs).countP fun y => !onS s y) + ((slL hs vs).length - 1) / 2 + 1 ≤ (slL hs vs).length) :
    sN hs vs = s ∧ sD hs vs = 1 := by
  have := (OkS.of hok).hl
  have := H.len
  have := H.n2
  exact low_onS (mid_onS (midF_mid (slL_pos (by omega))) hc1 hc2)
theorem LineOk.line : sN hs (lineTo hs v s n) = s ∧ sD hs (lineTo hs v s n) = 1 := by
  have h0 : ((slL hs (lineTo hs v s n)).countP fun y => !onS s y) = 0 := by
    rw [List.countP_eq_zero]
    intro y hy
    unfold slL slTo at hy
    obtain ⟨⟨k, i⟩, hm, rfl⟩ := List.mem_map.1 hy
    rw [lineTo_len] at hm
    rcases idxTo_mem hm with ⟨h1, h2⟩ | ⟨_, h2⟩
    · rw [H.slope_at H.ok h2 h1 (lineTo_get _ _ _ h1) (lineTo_get _ _ _ (by omega))]; simp
    · omega
  have hp := slL_pos (hs := hs) (vs := lineTo hs v s n) (by rw [lineTo_len]; exact H.n2)
  exact H.slope H.ok (by rw [h0]; omega) (by rw [h0]; omega)
theorem LineOk.odd {o : Nat} {x : Int} (h5 : 5 ≤ n) (ho : o < n) (hx : -1000000 ≤ x ∧ x ≤ 1000000) : Go.Proofs.Ytcmjpcmdgnbbpaa.okS hs ((lineTo hs v s n).set o x) = true ∧ sN hs ((lineTo hs v s n).set o x) = s ∧ sD hs ((lineTo hs v s n).set o x) = 1 := by
  have hl : ((lineTo hs v s n).set o x).length = n := by rw [List.length_set, lineTo_len]
  have hg : ∀ i, i < n → ((lineTo hs v s n).set o x).getD i 0 = if i = o then x else v + s * hs.getD i 0 := fun i hi => by
    rw [List.getD_eq_getElem?_getD, List.getElem?_set]
    by_cases e : o = i
    · subst e; simp [lineTo_len, ho]
    · rw [if_neg e, if_neg (fun h => e h.symm), ← List.getD_eq_getElem?_getD, lineTo_get _ _ _ hi]
  have hok : Go.Proofs.Ytcmjpcmdgnbbpaa.okS hs ((lineTo hs v s n).set o x) = true := H.okS hl fun i hi => by
    rw [hg i hi]
    split
    · exact hx
    · exact line_bd H (H.hb hi).1
  refine ⟨hok, ?_⟩
  have hb : ((slL hs ((lineTo hs v s n).set o x)).countP fun y => !onS s y) ≤ (idxTo n 0).countP fun p => decide (p.1 = o) || decide (p.2 = o) := by
    unfold slL slTo
    rw [hl, List.countP_map]
    refine List.countP_mono_left fun ⟨k, i⟩ hm hy => ?_
    rcases idxTo_mem hm with ⟨h1, h2⟩ | ⟨_, h2⟩
    · by_cases e1 : k = o
      · simp [e1]
      · by_cases e2 : i = o
        · simp [e2]
        · have := H.slope_at hok h2 h1 (by rw [hg k h1, if_neg e1]) (by rw [hg i (by omega), if_neg e2])
          simp [this] at hy
    · omega
  have hlen : (slL hs ((lineTo hs v s n).set o x)).length = (idxTo n 0).length := by unfold slL slTo; rw [hl, List.length_map]
  have key : ∀ n, n < 9 → 5 ≤ n → ∀ o, o < n → ((idxTo n 0).countP fun p => decide (p.1 = o) || decide (p.2 = o)) ≤ ((idxTo n 0).length - 1) / 2 ∧ ((idxTo n 0).countP fun p => decide (p.1 = o) || decide (p.2 = o)) + ((idxTo n 0).length - 1) / 2 + 1 ≤ (idxTo n 0).length := by decide
  have hk := key n (by have := H.n8; omega) h5 o ho
  exact H.slope hok (by rw [hlen]; omega) (by rw [hlen]; omega)
theorem LineOk.fore {t : Int} (ht : 0 ≤ t ∧ t ≤ 1000000) : fcN hs (lineTo hs v s n) t = v + s * t ∧ fcD hs (lineTo hs v s n) t = 1 := by
  have hc := H.chk H.ok ht
  have hm : v + s * t ≤ medI (endsTo hs (lineTo hs v s n) t (lineTo hs v s n).length) ∧ medI (endsTo hs (lineTo hs v s n) t (lineTo hs v s n).length) ≤ v + s * t := by
    refine med_bd (by rw [endsTo_len, lineTo_len]; have := H.n2; omega) fun x hx => ?_
    unfold endsTo at hx
    obtain ⟨i, hi, rfl⟩ := List.mem_map.1 hx
    rw [lineTo_len] at hi
    unfold endF
    rw [H.line.1, H.line.2, lineTo_get _ _ _ (List.mem_range.1 hi), Int.mul_one, Int.mul_sub]
    omega
  have e : medI (endsTo hs (lineTo hs v s n) t (lineTo hs v s n).length) = v + s * t := by omega
  unfold fcN fcD
  rw [if_pos hc, if_pos hc, e, H.line.2]
  unfold lowN lowD
  simp
end
end Go.Proofs.Ytcmjpcmdgnbbpaa
