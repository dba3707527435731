/- HealthLinear in plain numbers: the averages of the same samples, of the negative ones, and of sums of samples. -/
import Derived.Test.YtcmjpcmdgnbbpaaHAverage
namespace Go.Proofs.Ytcmjpcmdgnbbpaa.PH
open Go.RowKit Go.Proofs.YtcmjpcmdgnbbpaaW.PrintWords Go.Proofs.YtcmjpcmdgnbbpaaW.PrintLast Go.Proofs.YtcmjpcmdgnbbpaaW.PrintMore
set_option linter.unusedVariables false
/-- the further sample at one place, as the statement takes it -/
def mo1 (x o : Int) : Int := if o < -100 ∨ o > 100 ∨ x + o < -100 ∨ x + o > 100 then 0 else o
def moF (xs os : List Int) (i : Nat) : Int := mo1 (xs.getD i 0) (os.getD i 0)
def plainL (xs : List Int) (k : Nat) : List Int := rowF k (fun _ => xs.getD 0 0)
def minusL (xs : List Int) (k : Nat) : List Int := rowF k (fun i => - xs.getD i 0)
def moreL (xs os : List Int) (k : Nat) : List Int := rowF k (moF xs os)
def bothL (xs os : List Int) (k : Nat) : List Int := rowF k (fun i => xs.getD i 0 + moF xs os i)
theorem rowF_succ (k : Nat) (f : Nat → Int) : rowF (k + 1) f = rowF k f ++ [f k] := by
  unfold rowF; rw [List.range_succ, List.map_append]; rfl
theorem rowF_getD (n k : Nat) (f : Nat → Int) : (rowF n f).getD k 0 = if k < n then f k else 0 := by
  by_cases h : k < n
  · rw [if_pos h, rowF_get _ h]
  · rw [if_neg h, List.getD_eq_getElem?_getD, List.getElem?_eq_none (by rw [rowF_len]; omega)]; rfl
theorem mo1_bd (x o : Int) (hx : -100 ≤ x ∧ x ≤ 100) : (-100 ≤ mo1 x o ∧ mo1 x o ≤ 100) ∧ -100 ≤ x + mo1 x o ∧ x + mo1 x o ≤ 100 := by
  unfold mo1; split <;> omega
theorem vib_rowF {xs ms : List Int} (h : vibB xs ms = true) (f : Nat → Int) (hf : ∀ i, i < xs.length → -100 ≤ f i ∧ f i ≤ 100) : vibB (rowF xs.length f) ms = true := by
  simp only [vibB, Bool.and_eq_true] at h ⊢
  rw [rowF_len]
  refine ⟨⟨⟨h.1.1.1, h.1.1.2⟩, ?_⟩, h.2⟩
  rw [allB_iff]
  intro i hi
  rw [rowF_len] at hi
  rw [rowF_get _ hi, withinB_iff]
  exact hf i hi
theorem ptv_plain {xs ms : List Int} (hv : Vib xs ms) {n : Nat} (hn1 : 1 ≤ n) (hn : n ≤ 24) {j k : Nat} (hj : j + 1 < ms.length) (hk : k < n) : ptv (plainL xs xs.length) ms n j k = n * xs.getD 0 0 := by
  have hb := dst_bd hv hn1 hn hj hk
  have hr : dst ms j k % n < n := Nat.mod_lt _ hn1
  have l1 : Mk ms j + dst ms j k / n < xs.length := by omega
  have l2 : Mk ms j + dst ms j k / n + 1 < xs.length := by omega
  unfold ptv plainL
  rw [rowF_get _ l1, rowF_get _ l2]
  generalize dst ms j k % n = r at *
  have e : ((n - r : Nat) : Int) = n - r := by omega
  rw [e, Int.sub_mul]
  split
  · rename_i h; subst h; simp
  · omega
theorem ptv_minus {xs ms : List Int} (hv : Vib xs ms) {n : Nat} (hn1 : 1 ≤ n) (hn : n ≤ 24) {j k : Nat} (hj : j + 1 < ms.length) (hk : k < n) : ptv (minusL xs xs.length) ms n j k = - ptv xs ms n j k := by
  have hb := dst_bd hv hn1 hn hj hk
  have l1 : Mk ms j + dst ms j k / n < xs.length := by omega
  have l2 : Mk ms j + dst ms j k / n + 1 < xs.length := by omega
  unfold ptv minusL
  rw [rowF_get _ l1, rowF_get _ l2, Int.mul_neg]
  split
  · omega
  · rw [Int.mul_neg]; omega
theorem ptv_both {xs ms : List Int} (os : List Int) (hv : Vib xs ms) {n : Nat} (hn1 : 1 ≤ n) (hn : n ≤ 24) {j k : Nat} (hj : j + 1 < ms.length) (hk : k < n) : ptv (bothL xs os xs.length) ms n j k = ptv xs ms n j k + ptv (moreL xs os xs.length) ms n j k := by
  have hb := dst_bd hv hn1 hn hj hk
  have l1 : Mk ms j + dst ms j k / n < xs.length := by omega
  have l2 : Mk ms j + dst ms j k / n + 1 < xs.length := by omega
  unfold ptv bothL moreL
  rw [rowF_get _ l1, rowF_get _ l1, rowF_get _ l2, rowF_get _ l2, Int.mul_add]
  split
  · omega
  · rw [Int.mul_add]; omega
theorem avgTo_linear {xs ms : List Int} (os : List Int) (hv : Vib xs ms) {n : Nat} (hn1 : 1 ≤ n) (hn : n ≤ 24) {k : Nat} (hk : k < n) (j : Nat) (hj : j < ms.length) :
    avgTo (plainL xs xs.length) ms n j k = xs.getD 0 0 * ((n * j : Nat) : Int) ∧ avgTo (minusL xs xs.length) ms n j k = - avgTo xs ms n j k ∧ avgTo (bothL xs os xs.length) ms n j k = avgTo xs ms n j k + avgTo (moreL xs os xs.length) ms n j k := by
  induction j with
  | zero => simp [avgTo]
  | succ j ih =>
    obtain ⟨h1, h2, h3⟩ := ih (by omega)
    simp only [avgTo]
    rw [h1, h2, h3, ptv_plain hv hn1 hn hj hk, ptv_minus hv hn1 hn hj hk, ptv_both os hv hn1 hn hj hk]
    refine ⟨?_, by omega, by omega⟩
    rw [Nat.mul_add, Nat.mul_one]
    push_cast
    rw [Int.mul_add, Int.mul_comm (n : Int) (xs.getD 0 0)]
theorem vib_linear {xs ms : List Int} (os : List Int) (h : vibB xs ms = true) :
    vibB (plainL xs xs.length) ms = true ∧ vibB (minusL xs xs.length) ms = true ∧ vibB (moreL xs os xs.length) ms = true ∧ vibB (bothL xs os xs.length) ms = true := by
  have hv := vib_of h
  refine ⟨vib_rowF h _ fun i _ => hv.smp 0, vib_rowF h _ fun i _ => ?_, vib_rowF h _ fun i _ => (mo1_bd _ _ (hv.smp i)).1, vib_rowF h _ fun i _ => (mo1_bd _ _ (hv.smp i)).2⟩
  have := hv.smp i
  omega
end Go.Proofs.Ytcmjpcmdgnbbpaa.PH
