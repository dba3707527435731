/- The reference's order of fractions: an insertion leaves an ascending order of the same. -/
import Derived.Test.YtcmjpcmdgnbbpaaSPlain
namespace Go.Proofs.Ytcmjpcmdgnbbpaa
open Go.RowKit Go.Shelf Go.Sort
set_option linter.unusedVariables false
def gF (L : List Frac) (k : Nat) : Frac := L.getD k default
def swapL (L : List Frac) (k : Nat) : List Frac := (L.set (k + 1) (gF L k)).set k (gF L (k + 1))
def sift (L : List Frac) : Nat → List Frac
  | 0 => L
  | k + 1 => if Frac.lt (gF L (k + 1)) (gF L k) = true then sift (swapL L k) k else L
def isort (L : List Frac) : Nat → List Frac
  | 0 => L
  | i + 1 => sift (isort L i) i
theorem swapL_len (L : List Frac) (k : Nat) : (swapL L k).length = L.length := by simp [swapL]
theorem sift_len (k : Nat) : ∀ L, (sift L k).length = L.length := by
  induction k with
  | zero => intro L; rfl
  | succ k ih => intro L; simp only [sift]; split; rw [ih, swapL_len]; rfl
theorem isort_len (L : List Frac) (i : Nat) : (isort L i).length = L.length := by
  induction i with
  | zero => rfl
  | succ i ih => simp only [isort]; rw [sift_len, ih]
theorem gF_set {L : List Frac} {k j : Nat} {x : Frac} (h : k < L.length) : gF (L.set k x) j = if j = k then x else gF L j := by
  unfold gF
  rw [List.getD_eq_getElem?_getD, List.getD_eq_getElem?_getD, List.getElem?_set]
  by_cases e : k = j
  · subst e; simp [h]
  · rw [if_neg e, if_neg (fun h => e h.symm)]
theorem gF_swap {L : List Frac} {k j : Nat} (h : k + 1 < L.length) : gF (swapL L k) j = if j = k then gF L (k + 1) else if j = k + 1 then gF L k else gF L j := by
  unfold swapL
  rw [gF_set (by simp; omega), gF_set h]
theorem swapL_perm {L : List Frac} {k : Nat} (h : k + 1 < L.length) : (swapL L k).Perm L := by
  have e1 : gF L k = L[k] := by unfold gF; rw [List.getD_eq_getElem?_getD, List.getElem?_eq_getElem (by omega)]; rfl
  have e2 : gF L (k + 1) = L[k + 1] := by unfold gF; rw [List.getD_eq_getElem?_getD, List.getElem?_eq_getElem h]; rfl
  have e : L = L.take k ++ L[k] :: L[k + 1] :: L.drop (k + 2) := by
    rw [← List.drop_eq_getElem_cons, ← List.drop_eq_getElem_cons, List.take_append_drop]
  have hl : (L.take k).length = k := by rw [List.length_take]; omega
  unfold swapL
  rw [e1, e2]
  generalize L[k] = x at *
  generalize L[k + 1] = y at *
  have e3 : (L.set (k + 1) x).set k y = L.take k ++ y :: x :: L.drop (k + 2) := by
    generalize L.take k = A at *
    generalize L.drop (k + 2) = B at *
    subst hl
    rw [e, List.set_append_right _ _ (by omega), List.set_append_right _ _ (by omega)]
    simp
  rw [e3]
  conv => rhs; rw [e]
  exact List.Perm.append_left _ (List.Perm.swap _ _ _)
theorem sift_perm (k : Nat) : ∀ L : List Frac, k < L.length → (sift L k).Perm L := by
  induction k with
  | zero => intro L h; exact List.Perm.refl _
  | succ k ih =>
    intro L h
    simp only [sift]
    split
    · exact (ih (swapL L k) (by rw [swapL_len]; omega)).trans (swapL_perm h)
    · exact List.Perm.refl _
theorem isort_perm (L : List Frac) (i : Nat) (h : i ≤ L.length) : (isort L i).Perm L := by
  induction i with
  | zero => exact List.Perm.refl _
  | succ i ih => simp only [isort]; exact (sift_perm i _ (by rw [isort_len]; omega)).trans (ih (by omega))
theorem lt_asym {x y : Frac} (h : Frac.lt x y = true) : Frac.lt y x = false := by
  cases h2 : Frac.lt y x with
  | false => rfl
  | true =>
    rw [← ltOf_F] at h h2
    have := swoF.trans _ _ _ h h2
    rw [swoF.irrefl] at this; cases this
theorem le_trans' {x y z : Frac} (h1 : Frac.lt y x = false) (h2 : Frac.lt z y = false) : Frac.lt z x = false := by
  rw [← ltOf_F] at *
  exact swoF.ntrans _ _ _ h2 h1
/-- ascending up to i -/
def AscN (L : List Frac) (i : Nat) : Prop := ∀ a b, a < b → b < i → Frac.lt (gF L b) (gF L a) = false
theorem sift_asc {i : Nat} (k : Nat) : ∀ L : List Frac, i < L.length → k ≤ i → (∀ a b, a < b → b ≤ i → a ≠ k → b ≠ k → Frac.lt (gF L b) (gF L a) = false) → (∀ b, k < b → b ≤ i → Frac.lt (gF L b) (gF L k) = false) → AscN (sift L k) (i + 1) := by
  induction k with
  | zero =>
    intro L hi hk h1 h2 a b hab hb
    show Frac.lt (gF L b) (gF L a) = false
    by_cases ha : a = 0
    · subst ha; exact h2 b hab (by omega)
    · exact h1 a b hab (by omega) ha (by omega)
  | succ k ih =>
    intro L hi hk h1 h2
    simp only [sift]
    by_cases hc : Frac.lt (gF L (k + 1)) (gF L k) = true
    · rw [if_pos hc]
      have hlt : k + 1 < L.length := by omega
      refine ih (swapL L k) (by rw [swapL_len]; exact hi) (by omega) (fun a b hab hb ha0 hb0 => ?_) (fun b hb0 hb => ?_)
      · rw [gF_swap hlt, gF_swap hlt, if_neg hb0, if_neg ha0]
        by_cases hb1 : b = k + 1
        · rw [if_pos hb1, if_neg (by omega)]
          exact h1 a k (by omega) (by omega) (by omega) (by omega)
        · rw [if_neg hb1]
          by_cases ha1 : a = k + 1
          · rw [if_pos ha1]
            exact h1 k b (by omega) hb (by omega) hb1
          · rw [if_neg ha1]
            exact h1 a b hab hb ha1 hb1
      · rw [gF_swap hlt, gF_swap hlt, if_neg (by omega), if_pos rfl]
        by_cases hb1 : b = k + 1
        · rw [if_pos hb1]; exact lt_asym hc
        · rw [if_neg hb1]; exact h2 b (by omega) hb
    · rw [if_neg hc]
      have hc' : Frac.lt (gF L (k + 1)) (gF L k) = false := by simpa using hc
      intro a b hab hb
      by_cases hb1 : b = k + 1
      · subst hb1
        by_cases hak : a = k
        · subst hak; exact hc'
        · exact le_trans' (h1 a k (by omega) (by omega) (by omega) (by omega)) hc'
      · by_cases ha1 : a = k + 1
        · subst ha1; exact h2 b hab (by omega)
        · exact h1 a b hab (by omega) ha1 hb1
theorem isort_asc (L : List Frac) (i : Nat) (h : i ≤ L.length) : AscN (isort L i) i := by
  induction i with
  | zero => intro a b _ hb; omega
  | succ i ih =>
    simp only [isort]
    have hi := ih (by omega)
    exact sift_asc i _ (by rw [isort_len]; omega) (Nat.le_refl _) (fun a b hab hb ha0 hb0 => hi a b hab (by omega)) (fun b h1 h2 => by omega)
theorem isort_one (L : List Frac) : isort L 1 = L := rfl
theorem isort_mid {L : List Frac} (h : 0 < L.length) : Mid L (gF (isort L L.length) ((L.length - 1) / 2)) := by
  have hl := isort_len L L.length
  refine ⟨isort L L.length, isort_perm L _ (Nat.le_refl _), ?_, ?_⟩
  · unfold AscF
    rw [List.pairwise_iff_getElem]
    intro a b ha hb hab
    have := isort_asc L L.length (Nat.le_refl _) a b hab (by omega)
    unfold gF at this
    rw [List.getD_eq_getElem?_getD, List.getD_eq_getElem?_getD, List.getElem?_eq_getElem ha, List.getElem?_eq_getElem hb] at this
    exact this
  · unfold gF
    rw [List.getD_eq_getElem?_getD, List.getElem?_eq_getElem (by omega)]; rfl
/-! the cells of a row of fractions, one by one -/
theorem fl_num {L : List Frac} {k : Nat} (h : k < L.length) : (fl L)[k * 2]? = some (.int .i64 (gF L k).num) ∧ (fl L)[k * 2 + 1]? = some (.int .i64 (gF L k).den) := by
  have e : L[k]! = gF L k := by unfold gF; rw [List.getD_eq_getElem?_getD, List.getElem!_eq_getElem?_getD]
  refine ⟨?_, ?_⟩
  · rw [fl_get L _ (by omega), show k * 2 / 2 = k by omega, show k * 2 % 2 = 0 by omega, e]; rfl
  · rw [fl_get L _ (by omega), show (k * 2 + 1) / 2 = k by omega, show (k * 2 + 1) % 2 = 1 by omega, e]; rfl
theorem fl_set : ∀ (L : List Frac) (k : Nat) (x : Frac), k < L.length → fl (L.set k x) = ((fl L).set (k * 2) (.int .i64 x.num)).set (k * 2 + 1) (.int .i64 x.den)
  | [], k, x, h => by simp at h
  | y :: L, 0, x, h => rfl
  | y :: L, k + 1, x, h => by
    have := fl_set L k x (by simpa using h)
    rw [List.set_cons_succ]
    show _ :: _ :: fl (L.set k x) = _
    rw [this, show (k + 1) * 2 = k * 2 + 1 + 1 by omega]
    rfl
end Go.Proofs.Ytcmjpcmdgnbbpaa
