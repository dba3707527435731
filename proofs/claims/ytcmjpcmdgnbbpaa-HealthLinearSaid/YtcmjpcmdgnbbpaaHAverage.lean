/- Check and Average of the program and of the reference in plain numbers: the sums of the values at n points in all turns. -/
import Derived.Test.YtcmjpcmdgnbbpaaPHx3
import Derived.Test.YtcmjpcmdgnbbpaaPHx4
import Derived.Test.YtcmjpcmdgnbbpaaHGears
namespace Go.Proofs.Ytcmjpcmdgnbbpaa.PH
open Go.RowKit Go.Proofs.YtcmjpcmdgnbbpaaW.PrintWords Go.Proofs.YtcmjpcmdgnbbpaaW.PrintLast Go.Proofs.YtcmjpcmdgnbbpaaW.PrintMore
set_option linter.unusedVariables false
set_option linter.unusedSectionVars false
theorem allFrom_iff {p : Nat → Bool} {n k : Nat} : allFrom p n k = true ↔ ∀ i, k ≤ i → i < n → p i = true := by
  unfold allFrom
  rw [List.all_eq_true]
  constructor
  · intro h i h1 h2
    exact h i (by rw [List.mem_range'_1]; omega)
  · intro h i hi
    rw [List.mem_range'_1] at hi
    exact h i (by omega) (by omega)
def ascB (ms : List Int) : Bool := allFrom (asc1 ms) ms.length 0
theorem allB_iff {xs : List Int} {l h : Int} : allB xs l h = true ↔ ∀ i, i < xs.length → withinB (xs.getD i 0) l h = true := by
  unfold allB
  rw [List.all_eq_true]
  constructor
  · intro hx i hi
    rw [List.getD_eq_getElem?_getD, List.getElem?_eq_getElem hi]
    exact hx _ (List.getElem_mem hi)
  · intro hx x hm
    obtain ⟨i, hi, rfl⟩ := List.getElem_of_mem hm
    have := hx i hi
    rwa [List.getD_eq_getElem?_getD, List.getElem?_eq_getElem hi] at this
theorem marksB_eq (n : Nat) (ms : List Int) : marksB n ms = (allB ms 0 ((n : Int) - 1) && ascB ms) := by
  rw [Bool.eq_iff_iff, Bool.and_eq_true, allB_iff]
  unfold marksB ascB
  rw [allFrom_iff, allFrom_iff]
  constructor
  · intro h
    refine ⟨fun i hi => ?_, fun i h1 hi => ?_⟩
    · have := h i (by omega) hi; simp only [mark1, Bool.and_eq_true] at this; exact this.1
    · have := h i (by omega) hi; simp only [mark1, Bool.and_eq_true] at this; exact this.2
  · rintro ⟨h1, h2⟩ i _ hi
    simp only [mark1, Bool.and_eq_true]
    exact ⟨h1 i hi, h2 i (by omega) hi⟩
theorem rising_l0 (ms : List Int) (hn : ms.length ≤ 1000000) (d : Nat) : ∀ i : Nat, i + d = ms.length → Ev (fun k => health_rising.l0 k ms (ms.length : Int) (i : Int)) (allFrom (asc1 ms) ms.length i) := by
  induction d with
  | zero =>
    intro i hi
    refine Ev.succ (Ev.some fun k => ?_)
    simp only [health_rising.l0]
    rw [if_neg (by omega), allFrom_ge (by omega)]
  | succ d ih =>
    intro i hi
    rw [allFrom_lt (show i < ms.length by omega)]
    by_cases h0 : i = 0
    · subst h0
      refine Ev.succ (Ev.congr (fun k => ?_) (ih 1 (by omega)))
      simp only [health_rising.l0]
      rw [if_pos (by omega), if_neg (by omega), w64s 0 ms.length (by omega) hn]
    · have e1 : wrap64 ((i : Int) - 1) = ((i - 1 : Nat) : Int) := by rw [w64 _ (by omega) (by omega)]; omega
      have ha : asc1 ms i = decide (ms.getD (i - 1) 0 < ms.getD i 0) := by simp [asc1, h0]
      by_cases hx : ms.getD i 0 ≤ ms.getD (i - 1) 0
      · refine Ev.succ (Ev.some fun k => ?_)
        rw [ha, decide_eq_false (by omega)]
        simp only [health_rising.l0, e1, rd_nat]
        rw [if_pos (by omega), if_pos (by omega), if_pos (by omega), if_pos (by omega), if_pos (by omega), if_pos (by omega), if_pos hx]; rfl
      · rw [ha, decide_eq_true (by omega), Bool.true_and]
        refine Ev.succ (Ev.congr (fun k => ?_) (ih (i + 1) (by omega)))
        simp only [health_rising.l0, e1, rd_nat]
        rw [if_pos (by omega), if_pos (by omega), if_pos (by omega), if_pos (by omega), if_pos (by omega), if_pos (by omega), if_neg hx, w64s i ms.length (by omega) hn]
theorem rising_ev (ms : List Int) (hn : ms.length ≤ 1000000) : Ev (fun k => health_rising.f k ms) (ascB ms) := rising_l0 ms hn ms.length 0 (by omega)
def vibE (xs ms : List Int) : Int := if vibB xs ms = true then 0 else 80
theorem Check_ev (xs ms : List Int) : Ev (fun k => health_Check.f k xs ms) (vibE xs ms) := by
  unfold health_Check.f health_all.f vibE
  simp only [within_f, Option.bind_some]
  by_cases h400 : (xs.length : Int) > 400
  · simp only [h400, if_true]
    rw [vib_len (by simp; omega)]
    exact Ev.some fun _ => rfl
  · simp only [h400, if_false]
    cases h1 : allB xs (-100) 100 with
    | false => rw [vib_all h1]; exact Ev.some fun _ => rfl
    | true =>
      cases h2 : withinB ms.length 2 9 with
      | false => rw [vib_within h2]; exact Ev.some fun _ => rfl
      | true =>
        have g2 := (withinB_iff _ _ _).1 h2
        rw [w64 ((xs.length : Int) - 1) (by omega) (by omega)]
        cases h3 : allB ms 0 ((xs.length : Int) - 1) with
        | false => rw [vib_marks (by rw [marksB_eq, h3]; rfl)]; exact Ev.some fun _ => rfl
        | true =>
          simp only [if_true]
          refine Ev.bind (rising_ev ms (by omega)) ?_
          cases h4 : ascB ms with
          | false => rw [vib_marks (by rw [marksB_eq, h3, h4]; rfl)]; exact Ev.some fun _ => rfl
          | true => rw [vib_ok (by simp; omega) h2 h1 (by rw [marksB_eq, h3, h4]; rfl)]; exact Ev.some fun _ => rfl
theorem RCheck_f (xs ms : List Int) : swashplateref08_Check.f xs ms = some (vibE xs ms) := rfl
def Mk (ms : List Int) (j : Nat) : Nat := (ms.getD j 0).toNat
structure Vib (xs ms : List Int) : Prop where
  len : xs.length ≤ 400
  two : 2 ≤ ms.length
  nine : ms.length ≤ 9
  smp : ∀ i : Nat, -100 ≤ xs.getD i 0 ∧ xs.getD i 0 ≤ 100
  nat : ∀ j, ms.getD j 0 = (Mk ms j : Int)
  lt : ∀ j, j < ms.length → Mk ms j < xs.length
  asc : ∀ j, j + 1 < ms.length → Mk ms j < Mk ms (j + 1)
theorem vib_of {xs ms : List Int} (h : vibB xs ms = true) : Vib xs ms := by
  simp only [vibB, Bool.and_eq_true, decide_eq_true_eq, marksB_eq] at h
  obtain ⟨⟨⟨h1, h2⟩, h3⟩, h4, h5⟩ := h
  have g2 := (withinB_iff _ _ _).1 h2
  rw [allB_iff] at h4
  unfold ascB at h5
  rw [allFrom_iff] at h5
  have hnat : ∀ j, ms.getD j 0 = (Mk ms j : Int) := fun j => by
    unfold Mk
    by_cases hj : j < ms.length
    · have := (withinB_iff _ _ _).1 (h4 j hj); omega
    · rw [List.getD_eq_getElem?_getD, List.getElem?_eq_none (by omega)]; rfl
  refine ⟨h1, by omega, by omega, allB_get h3 (by omega) (by omega), hnat, fun j hj => ?_, fun j hj => ?_⟩
  · have := (withinB_iff _ _ _).1 (h4 j hj)
    have := hnat j
    omega
  · have := h5 (j + 1) (by omega) hj
    simp only [asc1, Nat.add_sub_cancel, Bool.or_eq_true, decide_eq_true_eq] at this
    have e1 := hnat j
    have e2 := hnat (j + 1)
    omega
/-- how far point k of turn j lies, in n-th parts -/
def dst (ms : List Int) (j k : Nat) : Nat := k * (Mk ms (j + 1) - Mk ms j)
def ptv (xs ms : List Int) (n j k : Nat) : Int :=
  ((n - dst ms j k % n : Nat) : Int) * xs.getD (Mk ms j + dst ms j k / n) 0 + (if dst ms j k % n = 0 then 0 else ((dst ms j k % n : Nat) : Int) * xs.getD (Mk ms j + dst ms j k / n + 1) 0)
def avgTo (xs ms : List Int) (n : Nat) : Nat → Nat → Int
  | 0, _ => 0
  | j + 1, k => avgTo xs ms n j k + ptv xs ms n j k
def rowF (n : Nat) (f : Nat → Int) : List Int := (List.range n).map f
theorem rowF_len (n : Nat) (f : Nat → Int) : (rowF n f).length = n := by simp [rowF]
theorem rowF_get {n k : Nat} (f : Nat → Int) (h : k < n) : (rowF n f).getD k 0 = f k := by simp [rowF, List.getD_eq_getElem?_getD, h]
theorem rowF_congr {n : Nat} {f g : Nat → Int} (h : ∀ i, i < n → f i = g i) : rowF n f = rowF n g := by
  unfold rowF; exact List.map_congr_left fun i hi => h i (List.mem_range.1 hi)
theorem rowF_set {n k : Nat} (f : Nat → Int) (v : Int) : (rowF n f).set k v = rowF n (fun i => if i = k then v else f i) := by
  apply List.ext_getElem?
  intro i
  rw [List.getElem?_set]
  unfold rowF
  simp only [List.length_map, List.length_range, List.getElem?_map]
  by_cases hi : i < n
  · rw [List.getElem?_range hi]
    by_cases e : k = i
    · subst e; simp [hi]
    · simp [e, Ne.symm e]
  · rw [List.getElem?_eq_none (by simpa using hi)]
    by_cases e : k = i
    · subst e; simp [hi]
    · simp [e]
theorem rowF_zero (n : Nat) : rowF n (fun _ => 0) = List.replicate n 0 := by simp [rowF, List.map_const']
def avgL (xs ms : List Int) (n : Nat) : List Int := rowF n (avgTo xs ms n (ms.length - 1))
theorem smul_bd {x : Int} {c : Nat} (h : -100 ≤ x ∧ x ≤ 100) : -(100 * (c : Int)) ≤ c * x ∧ c * x ≤ 100 * c := by
  have h1 := Int.mul_le_mul_of_nonneg_left h.1 (show (0 : Int) ≤ c by omega)
  have h2 := Int.mul_le_mul_of_nonneg_left h.2 (show (0 : Int) ≤ c by omega)
  omega
theorem ptv_bd {xs ms : List Int} (hv : Vib xs ms) {n : Nat} (hn1 : 1 ≤ n) (hn : n ≤ 24) (j k : Nat) : -2400 ≤ ptv xs ms n j k ∧ ptv xs ms n j k ≤ 2400 := by
  have hr : dst ms j k % n < n := Nat.mod_lt _ hn1
  have h1 := smul_bd (c := n - dst ms j k % n) (hv.smp (Mk ms j + dst ms j k / n))
  have h2 := smul_bd (c := dst ms j k % n) (hv.smp (Mk ms j + dst ms j k / n + 1))
  unfold ptv
  generalize ((n - dst ms j k % n : Nat) : Int) * xs.getD (Mk ms j + dst ms j k / n) 0 = p at *
  generalize ((dst ms j k % n : Nat) : Int) * xs.getD (Mk ms j + dst ms j k / n + 1) 0 = q at *
  split <;> omega
theorem avgTo_bd {xs ms : List Int} (hv : Vib xs ms) {n : Nat} (hn1 : 1 ≤ n) (hn : n ≤ 24) (j k : Nat) : -(2400 * (j : Int)) ≤ avgTo xs ms n j k ∧ avgTo xs ms n j k ≤ 2400 * j := by
  induction j with
  | zero => simp [avgTo]
  | succ j ih => have := ptv_bd hv hn1 hn j k; simp only [avgTo]; omega
theorem tdiv_nat (a b : Nat) : Int.tdiv (a : Int) (b : Int) = ((a / b : Nat) : Int) := by
  rw [Int.tdiv_eq_ediv_of_nonneg (by omega)]; simp
section
variable {xs ms : List Int} (hv : Vib xs ms) {n : Nat} (hn1 : 1 ≤ n) (hn : n ≤ 24)
include hv hn1 hn
theorem dst_bd {j k : Nat} (hj : j + 1 < ms.length) (hk : k < n) : dst ms j k ≤ 9600 ∧ Mk ms j + dst ms j k / n + 1 ≤ Mk ms (j + 1) ∧ Mk ms (j + 1) < xs.length := by
  have h1 := hv.asc j hj
  have h2 := hv.lt (j + 1) hj
  have h3 := hv.len
  have e : dst ms j k ≤ 24 * 400 := Nat.mul_le_mul (by omega) (by omega)
  have h4 : dst ms j k / n < Mk ms (j + 1) - Mk ms j := by
    rw [Nat.div_lt_iff_lt_mul (by omega), Nat.mul_comm _ n]
    exact Nat.mul_lt_mul_of_pos_right hk (by omega)
  exact ⟨e, by omega, h2⟩
theorem prod_eq {j k : Nat} (hj : j + 1 < ms.length) (hk : k < n) : wrap64 ((k : Int) * wrap64 ((Mk ms (j + 1) : Int) - (Mk ms j : Int))) = (dst ms j k : Int) := by
  have h1 := hv.asc j hj
  have h2 := hv.lt (j + 1) hj
  have h3 := hv.len
  have hd := (dst_bd hv hn1 hn hj hk).1
  have e : (Mk ms (j + 1) : Int) - (Mk ms j : Int) = ((Mk ms (j + 1) - Mk ms j : Nat) : Int) := by omega
  rw [w64 ((Mk ms (j + 1) : Int) - (Mk ms j : Int)) (by omega) (by omega), e, show ((k : Int) * ((Mk ms (j + 1) - Mk ms j : Nat) : Int)) = ((dst ms j k : Nat) : Int) by unfold dst; simp]
  exact w64 _ (by omega) (by omega)
theorem at_eq {j k : Nat} (hj : j + 1 < ms.length) (hk : k < n) : wrap64 ((Mk ms j : Int) + wrap64 ((dst ms j k / n : Nat) : Int)) = ((Mk ms j + dst ms j k / n : Nat) : Int) := by
  have h2 := dst_bd hv hn1 hn hj hk
  have h3 := hv.len
  have hq : dst ms j k / n ≤ dst ms j k := Nat.div_le_self _ _
  generalize dst ms j k / n = q at *
  rw [w64 (q : Int) (by omega) (by omega), w64 _ (by omega) (by omega)]; simp
theorem at1_eq {j k : Nat} (hj : j + 1 < ms.length) (hk : k < n) : wrap64 (((Mk ms j + dst ms j k / n : Nat) : Int) + 1) = ((Mk ms j + dst ms j k / n + 1 : Nat) : Int) := by
  have h2 := dst_bd hv hn1 hn hj hk
  have h3 := hv.len
  generalize dst ms j k / n = q at *
  rw [w64 _ (by omega) (by omega)]; simp
def part (xs ms : List Int) (n j k : Nat) : List Int := rowF n (fun i => if i < k then avgTo xs ms n (j + 1) i else avgTo xs ms n j i)
omit hv hn1 hn in
theorem part_zero (j : Nat) : part xs ms n j 0 = rowF n (avgTo xs ms n j) := by unfold part; exact rowF_congr fun i _ => by simp
omit hv hn1 hn in
theorem part_all (j k : Nat) (hk : n ≤ k) : part xs ms n j k = rowF n (avgTo xs ms n (j + 1)) := by unfold part; exact rowF_congr fun i hi => by rw [if_pos (by omega)]
omit hv hn1 hn in
theorem part_step (j k : Nat) : (part xs ms n j k).set k (avgTo xs ms n j k + ptv xs ms n j k) = part xs ms n j (k + 1) := by
  unfold part
  rw [rowF_set]
  refine rowF_congr fun i hi => ?_
  by_cases e : i = k
  · subst e; rw [if_pos rfl, if_pos (by omega)]; rfl
  · rw [if_neg e]
    by_cases h : i < k
    · rw [if_pos h, if_pos (by omega)]
    · rw [if_neg h, if_neg (by omega)]
omit hv hn1 hn in
theorem part_get {j k : Nat} (hk : k < n) : (part xs ms n j k).getD k 0 = avgTo xs ms n j k := by
  unfold part; rw [rowF_get _ hk, if_neg (by omega)]
omit hv hn1 hn in
theorem part_len (j k : Nat) : (part xs ms n j k).length = n := rowF_len _ _
theorem average_l1 (j : Nat) (hj : j + 1 < ms.length) (r : List Int × Int × Int) (hnext : Ev (fun k => health_Average.l0 k (n : Int) (rowF n (avgTo xs ms n (j + 1))) ((ms.length - 1 : Nat) : Int) ((j + 1 : Nat) : Int) xs ms) r) (d : Nat) :
    ∀ i, i + d = n → Ev (fun k => health_Average.l1 k (n : Int) (part xs ms n j i) (Mk ms j : Int) (Mk ms (j + 1) : Int) ((ms.length - 1 : Nat) : Int) (j : Int) (n : Int) (i : Int) xs ms) r := by
  have h9 := hv.nine
  induction d with
  | zero =>
    intro i hi
    refine Ev.succ (Ev.congr (fun k => ?_) hnext)
    simp only [health_Average.l1]
    rw [if_neg (by omega), part_all j i (by omega), w64s j ms.length (by omega) (by omega)]
  | succ d ih =>
    intro i hi
    have hin : i < n := by omega
    refine Ev.succ (Ev.congr (fun k => ?_) (ih (i + 1) (by omega)))
    have hb := dst_bd hv hn1 hn hj hin
    have hr : dst ms j i % n < n := Nat.mod_lt _ hn1
    have hlen := hv.len
    have s1 := smul_bd (c := n - dst ms j i % n) (hv.smp (Mk ms j + dst ms j i / n))
    have s2 := smul_bd (c := dst ms j i % n) (hv.smp (Mk ms j + dst ms j i / n + 1))
    have s3 := avgTo_bd hv hn1 hn j i
    have e5 : wrap64 ((n : Int) - ((dst ms j i % n : Nat) : Int)) = ((n - dst ms j i % n : Nat) : Int) := by
      generalize dst ms j i % n = q at *
      rw [w64 _ (by omega) (by omega)]; omega
    have c1 : (0 : Int) ≤ ((Mk ms j + dst ms j i / n : Nat) : Int) := Int.natCast_nonneg _
    have c2 : ((Mk ms j + dst ms j i / n : Nat) : Int) < (xs.length : Int) := by generalize dst ms j i / n = q at *; omega
    have c3 : (0 : Int) ≤ ((Mk ms j + dst ms j i / n + 1 : Nat) : Int) := Int.natCast_nonneg _
    have c4 : ((Mk ms j + dst ms j i / n + 1 : Nat) : Int) < (xs.length : Int) := by generalize dst ms j i / n = q at *; omega
    have hgl : i < (part xs ms n j i).length := by rw [part_len]; exact hin
    simp only [health_Average.l1, prod_eq hv hn1 hn hj hin, tdiv_nat, tmod_nat, at_eq hv hn1 hn hj hin, at1_eq hv hn1 hn hj hin, rd_nat, part_get hin, part_len, e5, Int.toNat_natCast, Option.bind_some, List.set_set]
    rw [if_pos (by omega), if_neg (by omega), if_pos (by omega), if_pos (by omega), if_pos c1, if_pos c2, w64s i n hin (by omega)]
    have hset : ∀ v : Int, ((part xs ms n j i).set i v).getD i 0 = v := fun v => by
      rw [List.getD_eq_getElem?_getD, List.getElem?_set_self hgl]; rfl
    rw [hset, ← part_step j i]
    unfold ptv
    generalize ((n - dst ms j i % n : Nat) : Int) * xs.getD (Mk ms j + dst ms j i / n) 0 = p at *
    by_cases h0 : dst ms j i % n = 0
    · rw [if_neg (by omega), if_pos h0, Int.add_zero, w64 p (by omega) (by omega), w64 _ (by omega) (by omega)]
    · rw [if_pos (by omega), if_pos c3, if_pos c4, if_neg h0]
      generalize ((dst ms j i % n : Nat) : Int) * xs.getD (Mk ms j + dst ms j i / n + 1) 0 = q at *
      rw [w64 p (by omega) (by omega), w64 q (by omega) (by omega), w64 (avgTo xs ms n j i + p) (by omega) (by omega), w64 _ (by omega) (by omega), Int.add_assoc]
theorem average_l0 (d : Nat) : ∀ j, j + d = ms.length - 1 →
    Ev (fun k => health_Average.l0 k (n : Int) (rowF n (avgTo xs ms n j)) ((ms.length - 1 : Nat) : Int) (j : Int) xs ms) (avgL xs ms n, ((n * (ms.length - 1) : Nat) : Int), 0) := by
  have h2 := hv.two
  have h9 := hv.nine
  induction d with
  | zero =>
    intro j hj
    refine Ev.succ (Ev.some fun k => ?_)
    simp only [health_Average.l0]
    have e1 : wrap64 ((ms.length : Int) - 1) = ((ms.length - 1 : Nat) : Int) := by rw [w64 _ (by omega) (by omega)]; omega
    have e2 : wrap64 ((n : Int) * ((ms.length - 1 : Nat) : Int)) = ((n * (ms.length - 1) : Nat) : Int) := by
      have : n * (ms.length - 1) ≤ 24 * 9 := Nat.mul_le_mul hn (by omega)
      rw [show ((n : Int) * ((ms.length - 1 : Nat) : Int)) = ((n * (ms.length - 1) : Nat) : Int) by simp]
      exact w64 _ (by omega) (by omega)
    rw [if_neg (by omega), e1, e2]
    unfold avgL; rw [show j = ms.length - 1 by omega]
  | succ d ih =>
    intro j hj
    have hjl : j + 1 < ms.length := by omega
    have := average_l1 hv hn1 hn j hjl _ (ih (j + 1) (by omega)) n 0 (by omega)
    refine Ev.succ (Ev.congr (fun k => ?_) this)
    simp only [health_Average.l0, w64s j ms.length (show j < ms.length by omega) (by omega), rd_nat, hv.nat, rowF_len, part_zero]
    rw [if_pos (by omega), if_pos (by omega), if_pos (by omega), if_pos (by omega), if_pos (by omega)]; rfl
theorem value_eq {j k : Nat} (hj : j + 1 < ms.length) (hk : k < n) : swashplateref08_value.f xs ms (j : Int) (k : Int) (n : Int) = some (ptv xs ms n j k) := by
  have h9 := hv.nine
  have hb := dst_bd hv hn1 hn hj hk
  have hr : dst ms j k % n < n := Nat.mod_lt _ hn1
  have hlen := hv.len
  have s1 := smul_bd (c := n - dst ms j k % n) (hv.smp (Mk ms j + dst ms j k / n))
  have s2 := smul_bd (c := dst ms j k % n) (hv.smp (Mk ms j + dst ms j k / n + 1))
  have e5 : wrap64 ((n : Int) - ((dst ms j k % n : Nat) : Int)) = ((n - dst ms j k % n : Nat) : Int) := by
    generalize dst ms j k % n = q at *
    rw [w64 _ (by omega) (by omega)]; omega
  have c1 : (0 : Int) ≤ ((Mk ms j + dst ms j k / n : Nat) : Int) := Int.natCast_nonneg _
  have c2 : ((Mk ms j + dst ms j k / n : Nat) : Int) < (xs.length : Int) := by generalize dst ms j k / n = q at *; omega
  have c3 : (0 : Int) ≤ ((Mk ms j + dst ms j k / n + 1 : Nat) : Int) := Int.natCast_nonneg _
  have c4 : ((Mk ms j + dst ms j k / n + 1 : Nat) : Int) < (xs.length : Int) := by generalize dst ms j k / n = q at *; omega
  simp only [swashplateref08_value.f, w64s j ms.length (show j < ms.length by omega) (by omega), rd_nat, hv.nat, prod_eq hv hn1 hn hj hk, tdiv_nat, tmod_nat, at_eq hv hn1 hn hj hk, at1_eq hv hn1 hn hj hk, e5]
  rw [if_pos (by omega), if_pos (by omega), if_pos (by omega), if_pos (by omega), if_neg (by omega), if_pos c1, if_pos c2, if_pos c1, if_pos c2, if_pos c3, if_pos c4]
  unfold ptv
  by_cases h0 : dst ms j k % n = 0
  · have s0 := smul_bd (c := n) (hv.smp (Mk ms j + dst ms j k / n))
    rw [if_pos (by omega), if_pos h0, Int.add_zero, h0, Nat.sub_zero, w64 _ (by omega) (by omega)]
  · rw [if_neg (by omega), if_neg h0]
    generalize ((n - dst ms j k % n : Nat) : Int) * xs.getD (Mk ms j + dst ms j k / n) 0 = p at *
    generalize ((dst ms j k % n : Nat) : Int) * xs.getD (Mk ms j + dst ms j k / n + 1) 0 = q at *
    rw [w64 p (by omega) (by omega), w64 q (by omega) (by omega), w64 _ (by omega) (by omega)]
theorem ref_average_l1 (j : Nat) (hj : j + 1 < ms.length) (r : List Int × Int × Int) (hnext : Ev (fun k => swashplateref08_Average.l0 k (n : Int) (rowF n (avgTo xs ms n (j + 1))) ((ms.length - 1 : Nat) : Int) ((j + 1 : Nat) : Int) xs ms) r) (d : Nat) :
    ∀ i, i + d = n → Ev (fun k => swashplateref08_Average.l1 k (n : Int) (part xs ms n j i) ((ms.length - 1 : Nat) : Int) (j : Int) (i : Int) xs ms) r := by
  have h9 := hv.nine
  induction d with
  | zero =>
    intro i hi
    refine Ev.succ (Ev.congr (fun k => ?_) hnext)
    simp only [swashplateref08_Average.l1]
    rw [if_neg (by omega), part_all j i (by omega), w64s j ms.length (by omega) (by omega)]
  | succ d ih =>
    intro i hi
    have hin : i < n := by omega
    refine Ev.succ (Ev.congr (fun k => ?_) (ih (i + 1) (by omega)))
    have s3 := avgTo_bd hv hn1 hn j i
    have s4 := ptv_bd hv hn1 hn j i
    simp only [swashplateref08_Average.l1, value_eq hv hn1 hn hj hin, rd_nat, part_get hin, part_len, Int.toNat_natCast, Option.bind_some]
    rw [if_pos (by omega), if_pos (by omega), if_pos (by omega), w64s i n hin (by omega), w64 _ (by omega) (by omega), part_step]
theorem ref_average_l0 (d : Nat) : ∀ j, j + d = ms.length - 1 →
    Ev (fun k => swashplateref08_Average.l0 k (n : Int) (rowF n (avgTo xs ms n j)) ((ms.length - 1 : Nat) : Int) (j : Int) xs ms) (avgL xs ms n, ((n * (ms.length - 1) : Nat) : Int), 0) := by
  have h2 := hv.two
  have h9 := hv.nine
  induction d with
  | zero =>
    intro j hj
    refine Ev.succ (Ev.some fun k => ?_)
    simp only [swashplateref08_Average.l0]
    have e2 : wrap64 ((n : Int) * ((ms.length - 1 : Nat) : Int)) = ((n * (ms.length - 1) : Nat) : Int) := by
      have : n * (ms.length - 1) ≤ 24 * 9 := Nat.mul_le_mul hn (by omega)
      rw [show ((n : Int) * ((ms.length - 1 : Nat) : Int)) = ((n * (ms.length - 1) : Nat) : Int) by simp]
      exact w64 _ (by omega) (by omega)
    rw [if_neg (by omega), e2]
    unfold avgL; rw [show j = ms.length - 1 by omega]
  | succ d ih =>
    intro j hj
    have hjl : j + 1 < ms.length := by omega
    have := ref_average_l1 hv hn1 hn j hjl _ (ih (j + 1) (by omega)) n 0 (by omega)
    refine Ev.succ (Ev.congr (fun k => ?_) this)
    simp only [swashplateref08_Average.l0, part_zero]
    rw [if_pos (by omega)]; rfl
end
/-- sums, denominator, error -/
def avg (xs ms : List Int) (n : Int) : List Int × Int × Int :=
  if vibB xs ms = true then (if withinB n 1 24 = true then (avgL xs ms n.toNat, ((n.toNat * (ms.length - 1) : Nat) : Int), 0) else ([], 0, 1)) else ([], 0, 80)
theorem Average_ev (xs ms : List Int) (n : Int) : Ev (fun k => health_Average.f k xs ms n) (avg xs ms n) := by
  unfold health_Average.f avg
  refine Ev.bind (Check_ev xs ms) ?_
  simp only [within_f, Option.bind_some]
  by_cases h : vibB xs ms = true
  · have hv := vib_of h
    have h2 := hv.two
    have h9 := hv.nine
    simp only [vibE, h, if_true]
    cases hw : withinB n 1 24
    · exact Ev.some fun _ => rfl
    · have g := (withinB_iff _ _ _).1 hw
      obtain ⟨m, rfl⟩ := Int.eq_ofNat_of_zero_le (show 0 ≤ n by omega)
      have e1 : wrap64 ((ms.length : Int) - 1) = ((ms.length - 1 : Nat) : Int) := by rw [w64 _ (by omega) (by omega)]; omega
      have := average_l0 hv (n := m) (by omega) (by omega) (ms.length - 1) 0 (by omega)
      refine Ev.congr (fun k => ?_) this
      simp only [Int.toNat_natCast, e1]
      rw [if_pos trivial, if_pos (by omega), if_pos (by omega), ← rowF_zero]; rfl
  · simp only [vibE, h]
    exact Ev.some fun _ => rfl
theorem RAverage_ev (xs ms : List Int) (n : Int) : Ev (fun k => swashplateref08_Average.f k xs ms n) (avg xs ms n) := by
  unfold swashplateref08_Average.f avg
  simp only [within_rf, RCheck_f, Option.bind_some]
  by_cases h : vibB xs ms = true
  · have hv := vib_of h
    have h2 := hv.two
    have h9 := hv.nine
    simp only [vibE, h, if_true]
    cases hw : withinB n 1 24
    · exact Ev.some fun _ => rfl
    · have g := (withinB_iff _ _ _).1 hw
      obtain ⟨m, rfl⟩ := Int.eq_ofNat_of_zero_le (show 0 ≤ n by omega)
      have e1 : wrap64 ((ms.length : Int) - 1) = ((ms.length - 1 : Nat) : Int) := by rw [w64 _ (by omega) (by omega)]; omega
      have := ref_average_l0 hv (n := m) (by omega) (by omega) (ms.length - 1) 0 (by omega)
      refine Ev.congr (fun k => ?_) this
      simp only [Int.toNat_natCast, e1]
      rw [if_pos trivial, if_pos (by omega), if_pos (by omega), ← rowF_zero]; rfl
  · simp only [vibE, h]
    exact Ev.some fun _ => rfl
theorem avg_len (xs ms : List Int) (n : Int) : (avg xs ms n).1.length ≤ 1000000 := by
  unfold avg
  split
  · split
    · have := (withinB_iff _ _ _).1 (by assumption)
      simp only [avgL, rowF_len]; omega
    · simp
  · simp
end Go.Proofs.Ytcmjpcmdgnbbpaa.PH
