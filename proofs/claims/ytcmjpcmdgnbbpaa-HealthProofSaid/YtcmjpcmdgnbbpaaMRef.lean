/- What HealthProof needs of the reference in plain numbers: which cells may be; which explanations have the fewest members. -/
import Derived.Test.YtcmjpcmdgnbbpaaPMx2
import Derived.Test.YtcmjpcmdgnbbpaaLow
import Derived.Test.YtcmjpcmdgnbbpaaESets
import Derived.Test.YtcmjpcmdgnbbpaaMExplain
namespace Go.Proofs.Ytcmjpcmdgnbbpaa.PE
open Go.RowKit Go.Proofs.YtcmjpcmdgnbbpaaW.PrintWords Go.Proofs.YtcmjpcmdgnbbpaaW.PrintLast Go.Proofs.YtcmjpcmdgnbbpaaW.PrintMore
set_option linter.unusedVariables false
theorem Ev.succ {α : Type} {g : Nat → Option α} {r : α} (h : Ev (fun k => g (k + 1)) r) : Ev g r := Ev.step (fun _ => rfl) h
theorem Ev.some {α : Type} {g : Nat → Option α} {r : α} (h : ∀ k, g k = Option.some r) : Ev g r := ⟨0, fun k _ => h k⟩
theorem rd_nat (xs : List Int) (i : Nat) : rd xs (i : Int) = xs.getD i 0 := by simp [rd]
theorem w64s (i n : Nat) (h : i < n) (hn : n ≤ 1000000) : wrap64 ((i : Int) + 1) = ((i + 1 : Nat) : Int) := by unfold wrap64; omega
theorem within_rf (a b c : Int) : swashplateref08_within.f a b c = some (withinB a b c) := by
  unfold swashplateref08_within.f withinB
  by_cases h : b ≤ a
  · rw [if_pos h]; simp [h]
  · rw [if_neg h]; simp [h]
theorem cmpI_neg (x y : Int) : cmpI x y < 0 ↔ x < y := by
  unfold cmpI; split
  · simp; omega
  · split <;> simp <;> omega
theorem cmpI_zero (x y : Int) : cmpI x y = 0 ↔ x = y := by
  unfold cmpI; split
  · simp; omega
  · split <;> simp <;> omega
theorem cmp_iff (a b c d : Int) : cmpL [a, b] [c, d] < 0 ↔ a < c ∨ a = c ∧ b < d := by
  unfold cmpL cmpL cmpL
  by_cases h : a = c
  · subst h
    rw [if_pos ((cmpI_zero a a).2 rfl)]
    by_cases h2 : b = d
    · subst h2; rw [if_pos ((cmpI_zero b b).2 rfl)]; simp
    · rw [if_neg (fun e => h2 ((cmpI_zero _ _).1 e)), cmpI_neg]; simp
  · rw [if_neg (fun e => h ((cmpI_zero _ _).1 e)), cmpI_neg]; simp [h]
theorem rdT_nat (l : List S69) (i : Nat) : rd_T69 l (i : Int) = l.getD i z69 := by simp [rd_T69]
theorem pr_get (l : List S69) (i : Nat) (h : i < l.length) : (pr l)[i]? = some ((l.getD i z69).f0, (l.getD i z69).f1) := by
  simp [pr, List.getD_eq_getElem?_getD, h]
theorem pr_len (l : List S69) : (pr l).length = l.length := by simp [pr]
theorem within_len {n l h : Int} (hw : withinB n l h = true) : l ≤ n ∧ n ≤ h := (withinB_iff _ _ _).1 hw
theorem check_l0 (s g : Int) (l : List S69) (hs : 1 ≤ s ∧ s ≤ 8) (hg : 1 ≤ g ∧ g ≤ 12) (hn : l.length ≤ 9223372036854775807) (d : Nat) : ∀ i, i + d = l.length →
    Ev (fun k => swashplateref08_CheckCells.l0 k s g l (i : Int)) (if okFrom s g (prevOf (pr l) i) ((pr l).drop i) = true then 0 else 1) := by
  induction d with
  | zero =>
    intro i hi
    rw [List.drop_eq_nil_of_le (by rw [pr_len]; omega)]
    refine Ev.succ (Ev.some fun k => ?_)
    simp only [swashplateref08_CheckCells.l0]
    rw [if_neg (by omega)]; rfl
  | succ d ih =>
    intro i hi
    have hil : i < l.length := by omega
    have hget := pr_get l i hil
    rw [drop_of hget]
    have e1 : wrap64 (s - 1) = s - 1 := by unfold wrap64; omega
    have e2 : wrap64 (g - 1) = g - 1 := by unfold wrap64; omega
    have ewi : wrap64 ((i : Int) + 1) = ((i + 1 : Nat) : Int) := by unfold wrap64; omega
    have hstep : ∀ j2 : Bool, (∀ k, swashplateref08_CheckCells.l0 (k + 1) s g l (i : Int) = swashplateref08_CheckCells.j2 k s g l (i : Int) j2 (l.getD i z69).f0 (l.getD i z69).f1) → ∀ r, Ev (fun k => swashplateref08_CheckCells.j2 k s g l (i : Int) j2 (l.getD i z69).f0 (l.getD i z69).f1) r → Ev (fun k => swashplateref08_CheckCells.l0 k s g l (i : Int)) r :=
      fun j2 h r hr => Ev.succ (Ev.congr h hr)
    generalize hx : (l.getD i z69).f0 = x at *
    generalize hy : (l.getD i z69).f1 = y at *
    have hbad : okFrom s g (prevOf (pr l) i) ((x, y) :: (pr l).drop (i + 1)) = false → (if okFrom s g (prevOf (pr l) i) ((x, y) :: (pr l).drop (i + 1)) = true then (0 : Int) else 1) = 1 := fun h => by rw [h]; rfl
    cases h1 : withinB x 0 (s - 1) with
    | false =>
      rw [hbad (by simp [okFrom, h1])]
      refine hstep true (fun k => ?_) _ (Ev.succ (Ev.some fun k => rfl))
      simp only [swashplateref08_CheckCells.l0, rdT_nat, within_rf, e1, e2, hx, hy, h1, Option.bind_some]
      rw [if_pos (by omega), if_pos (by omega)]; rfl
    | true =>
      cases h2 : withinB y 0 (g - 1) with
      | false =>
        rw [hbad (by simp [okFrom, h1, h2])]
        refine hstep true (fun k => ?_) _ (Ev.succ (Ev.some fun k => rfl))
        simp only [swashplateref08_CheckCells.l0, rdT_nat, within_rf, e1, e2, hx, hy, h1, h2, Option.bind_some]
        rw [if_pos (by omega), if_pos (by omega)]; rfl
      | true =>
        have hj2 : ∀ k, swashplateref08_CheckCells.l0 (k + 1) s g l (i : Int) = swashplateref08_CheckCells.j2 k s g l (i : Int) false x y := fun k => by
          simp only [swashplateref08_CheckCells.l0, rdT_nat, within_rf, e1, e2, hx, hy, h1, h2, Option.bind_some]
          rw [if_pos (by omega), if_pos (by omega)]; rfl
        refine hstep false hj2 _ ?_
        have hnext : prevOf (pr l) (i + 1) = some (x, y) := by simpa [prevOf] using hget
        have ih' := ih (i + 1) (by omega)
        rw [hnext] at ih'
        by_cases h0 : i = 0
        · subst h0
          have hok : okFrom s g (prevOf (pr l) 0) ((x, y) :: (pr l).drop (0 + 1)) = okFrom s g (some (x, y)) ((pr l).drop (0 + 1)) := by simp [okFrom, h1, h2, prevOf]
          rw [hok]
          refine Ev.succ (Ev.congr (fun k => ?_) ih')
          simp only [swashplateref08_CheckCells.j2]
          rw [if_neg (by simp), if_neg (by omega), ewi]
        · obtain ⟨j, rfl⟩ : ∃ j, i = j + 1 := ⟨i - 1, by omega⟩
          have hp := pr_get l j (by omega)
          have hprev : prevOf (pr l) (j + 1) = some ((l.getD j z69).f0, (l.getD j z69).f1) := by simpa [prevOf] using hp
          have ewj : wrap64 (((j + 1 : Nat) : Int) - 1) = ((j : Nat) : Int) := by unfold wrap64; omega
          generalize hpx : (l.getD j z69).f0 = px at *
          generalize hpy : (l.getD j z69).f1 = py at *
          have hok : okFrom s g (prevOf (pr l) (j + 1)) ((x, y) :: (pr l).drop (j + 1 + 1)) = (decide (px < x ∨ px = x ∧ py < y) && okFrom s g (some (x, y)) ((pr l).drop (j + 1 + 1))) := by
            rw [hprev]
            simp only [okFrom, h1, h2, Bool.true_and]
            rw [decide_eq_decide.2 (cmp_iff px py x y)]
          rw [hok]
          have hred : ∀ k, swashplateref08_CheckCells.j2 (k + 1) s g l ((j + 1 : Nat) : Int) false x y = (if x < px then (some 1) else (if x = px then (if y ≤ py then (some 1) else (swashplateref08_CheckCells.l0 k s g l ((j + 1 + 1 : Nat) : Int))) else (swashplateref08_CheckCells.l0 k s g l ((j + 1 + 1 : Nat) : Int)))) := fun k => by
            simp only [swashplateref08_CheckCells.j2, ewj, rdT_nat, hpx, hpy, ewi]
            rw [if_neg (by simp), if_pos (by omega), if_pos (by omega), if_pos (by omega)]
          by_cases hlt : px < x ∨ px = x ∧ py < y
          · rw [decide_eq_true hlt, Bool.true_and]
            refine Ev.succ (Ev.congr (fun k => ?_) ih')
            rw [hred, if_neg (by omega)]
            by_cases he : x = px
            · rw [if_pos he, if_neg (by omega)]
            · rw [if_neg he]
          · rw [decide_eq_false hlt, Bool.false_and]
            refine Ev.succ (Ev.some fun k => ?_)
            rw [hred]
            by_cases hl : x < px
            · rw [if_pos hl]; rfl
            · rw [if_neg hl, if_pos (by omega), if_pos (by omega)]; rfl
theorem CheckCells_ev (s g : Int) (l : List S69) (hn : l.length ≤ 9223372036854775807) : Ev (fun k => swashplateref08_CheckCells.f k s g l) (if okCells s g (pr l) = true then 0 else 1) := by
  unfold swashplateref08_CheckCells.f okCells
  simp only [within_rf, Option.bind_some]
  cases h1 : withinB s 1 8
  · exact Ev.succ (Ev.some fun _ => rfl)
  · cases h2 : withinB g 1 12
    · exact Ev.succ (Ev.some fun _ => rfl)
    · have := check_l0 s g l (within_len h1) (within_len h2) hn l.length 0 (by omega)
      simp only [if_true, Bool.true_and]
      refine Ev.succ (Ev.congr (fun k => ?_) this)
      simp only [swashplateref08_CheckCells.j0, Bool.not_true, Bool.false_eq_true, if_false]
      rfl
theorem explTo_same (sz : Nat → Nat) (k : Nat) : ∀ a b, a ∈ explTo sz k → b ∈ explTo sz k → sz a = sz b := by
  induction k with
  | zero => intro a b h; cases h
  | succ k ih =>
    intro a b ha hb
    unfold explTo at ha hb
    split at ha
    · rename_i he
      rw [he] at hb
      rw [List.mem_singleton.1 ha, List.mem_singleton.1 hb]
    · rename_i h t he
      rw [he] at hb
      simp only [] at hb
      by_cases h1 : sz h < sz k
      · rw [if_pos h1] at ha hb; exact ih a b (by rw [he]; exact ha) (by rw [he]; exact hb)
      · rw [if_neg h1] at ha hb
        by_cases h2 : sz k < sz h
        · rw [if_pos h2] at ha hb; rw [List.mem_singleton.1 ha, List.mem_singleton.1 hb]
        · rw [if_neg h2] at ha hb
          have hx : ∀ x, x ∈ h :: t ++ [k] → sz x = sz h := fun x hx => by
            rcases List.mem_append.1 hx with hx | hx
            · exact ih x h (by rw [he]; exact hx) (by rw [he]; simp)
            · rw [List.mem_singleton.1 hx]; omega
          rw [hx a ha, hx b hb]
theorem minX_mem (l : Nat) (ls : List Nat) : minX (l :: ls) ∈ l :: ls := by
  unfold minX
  have : ∀ (ls : List Nat) (m : Nat), ls.foldl (fun m x => if cmpX (mem x) (mem m) < 0 then x else m) m ∈ m :: ls := by
    intro ls
    induction ls with
    | nil => intro m; simp
    | cons x xs ih =>
      intro m
      simp only [List.foldl_cons]
      split
      · have := ih x; simp at this ⊢; exact .inr this
      · have := ih m
        simp at this ⊢
        rcases this with h | h
        · exact .inl h
        · exact .inr (.inr h)
  exact this ls l
theorem explTo_mem (sz : Nat → Nat) (k : Nat) : ∀ b, b ∈ explTo sz k → (∀ l, l < k → sz b ≤ sz l) ∧ ∀ l, l < k → sz l = sz b → l ∈ explTo sz k := by
  induction k with
  | zero => intro b hb; cases hb
  | succ k ih =>
    intro b hb
    have hu : explTo sz (k + 1) = match explTo sz k with
        | [] => [k]
        | h :: t => if sz h < sz k then h :: t else if sz k < sz h then [k] else h :: t ++ [k] := rfl
    cases he : explTo sz k with
    | nil =>
      rw [he] at hu
      simp only [] at hu
      have hk : k = 0 := by
        cases k with
        | zero => rfl
        | succ j => have := explTo_pos sz j; rw [he] at this; simp at this
      subst hk
      rw [hu] at hb ⊢
      rw [List.mem_singleton.1 hb]
      exact ⟨fun l hl => by rw [show l = 0 by omega]; omega, fun l hl _ => by rw [show l = 0 by omega]; simp⟩
    | cons h t =>
      rw [he] at hu ih
      simp only [] at hu
      have ihh := ih h (by simp)
      by_cases h1 : sz h < sz k
      · rw [if_pos h1] at hu
        rw [hu] at hb ⊢
        have := ih b hb
        have hbh : sz b = sz h := explTo_same sz k b h (by rw [he]; exact hb) (by rw [he]; simp)
        refine ⟨fun l hl => ?_, fun l hl e => ?_⟩
        · by_cases e : l = k
          · subst e; omega
          · exact this.1 l (by omega)
        · by_cases e2 : l = k
          · subst e2; omega
          · exact this.2 l (by omega) e
      · rw [if_neg h1] at hu
        by_cases h2 : sz k < sz h
        · rw [if_pos h2] at hu
          rw [hu] at hb ⊢
          rw [List.mem_singleton.1 hb]
          refine ⟨fun l hl => ?_, fun l hl e => ?_⟩
          · by_cases e : l = k
            · subst e; omega
            · have := ihh.1 l (by omega); omega
          · by_cases e2 : l = k
            · subst e2; simp
            · have := ihh.1 l (by omega); omega
        · rw [if_neg h2] at hu
          rw [hu] at hb ⊢
          have hbh : sz b = sz h := by
            rcases List.mem_append.1 hb with hb | hb
            · exact explTo_same sz k b h (by rw [he]; exact hb) (by rw [he]; simp)
            · rw [List.mem_singleton.1 hb]; omega
          refine ⟨fun l hl => ?_, fun l hl e => ?_⟩
          · by_cases e : l = k
            · subst e; omega
            · have := ihh.1 l (by omega); omega
          · by_cases e2 : l = k
            · subst e2; simp
            · exact List.mem_append.2 (.inl (ihh.2 l (by omega) (by omega)))
end Go.Proofs.Ytcmjpcmdgnbbpaa.PE
