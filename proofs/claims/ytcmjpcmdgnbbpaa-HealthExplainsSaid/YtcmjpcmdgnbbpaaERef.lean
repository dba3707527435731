/- The reference's Explain in plain numbers: which cells may be, what explains them, and which explanation comes first. -/
import Derived.Test.YtcmjpcmdgnbbpaaPEx9
import Derived.Test.YtcmjpcmdgnbbpaaEBits
import Derived.Test.YtcmjpcmdgnbbpaaESets
import Derived.Test.YtcmjpcmdgnbbpaaEExplain
namespace Go.Proofs.Ytcmjpcmdgnbbpaa.PE
open Go.RowKit Go.Proofs.YtcmjpcmdgnbbpaaW.PrintWords Go.Proofs.YtcmjpcmdgnbbpaaW.PrintLast Go.Proofs.YtcmjpcmdgnbbpaaW.PrintMore
set_option linter.unusedVariables false
set_option linter.unusedSectionVars false
theorem cmpI_neg (x y : Int) : cmpI x y < 0 ↔ x < y := by
  unfold cmpI; split
  · simp; omega
  · split <;> simp <;> omega
theorem cmpI_zero (x y : Int) : cmpI x y = 0 ↔ x = y := by
  unfold cmpI; split
  · simp; omega
  · split <;> simp <;> omega
theorem cmp_iff (a b c d : Int) : cmpL [a, b] [c, d] < 0 ↔ a < c ∨ a = c ∧ b < d := by
  unfold cmpL cmpL cmpL
  by_cases h : a = c
  · subst h
    rw [if_pos ((cmpI_zero a a).2 rfl)]
    by_cases h2 : b = d
    · subst h2; rw [if_pos ((cmpI_zero b b).2 rfl)]; simp
    · rw [if_neg (fun e => h2 ((cmpI_zero _ _).1 e)), cmpI_neg]; simp
  · rw [if_neg (fun e => h ((cmpI_zero _ _).1 e)), cmpI_neg]; simp [h]
theorem rdT_nat (l : List S69) (i : Nat) : rd_T69 l (i : Int) = l.getD i z69 := by simp [rd_T69]
theorem pr_get (l : List S69) (i : Nat) (h : i < l.length) : (pr l)[i]? = some ((l.getD i z69).f0, (l.getD i z69).f1) := by
  simp [pr, List.getD_eq_getElem?_getD, h]
theorem pr_len (l : List S69) : (pr l).length = l.length := by simp [pr]
theorem within_len {n l h : Int} (hw : withinB n l h = true) : l ≤ n ∧ n ≤ h := (withinB_iff _ _ _).1 hw
theorem check_l0 (s g : Int) (l : List S69) (hs : 1 ≤ s ∧ s ≤ 8) (hg : 1 ≤ g ∧ g ≤ 12) (hn : l.length ≤ 9223372036854775807) (d : Nat) : ∀ i, i + d = l.length →
    Ev (fun k => swashplateref08_CheckCells.l0 k s g l (i : Int)) (if okFrom s g (prevOf (pr l) i) ((pr l).drop i) = true then 0 else 1) := by
  induction d with
  | zero =>
    intro i hi
    rw [List.drop_eq_nil_of_le (by rw [pr_len]; omega)]
    refine Ev.succ (Ev.some fun k => ?_)
    simp only [swashplateref08_CheckCells.l0]
    rw [if_neg (by omega)]; rfl
  | succ d ih =>
    intro i hi
    have hil : i < l.length := by omega
    have hget := pr_get l i hil
    rw [drop_of hget]
    have e1 : wrap64 (s - 1) = s - 1 := by unfold wrap64; omega
    have e2 : wrap64 (g - 1) = g - 1 := by unfold wrap64; omega
    have ewi : wrap64 ((i : Int) + 1) = ((i + 1 : Nat) : Int) := by unfold wrap64; omega
    have hstep : ∀ j2 : Bool, (∀ k, swashplateref08_CheckCells.l0 (k + 1) s g l (i : Int) = swashplateref08_CheckCells.j2 k s g l (i : Int) j2 (l.getD i z69).f0 (l.getD i z69).f1) → ∀ r, Ev (fun k => swashplateref08_CheckCells.j2 k s g l (i : Int) j2 (l.getD i z69).f0 (l.getD i z69).f1) r → Ev (fun k => swashplateref08_CheckCells.l0 k s g l (i : Int)) r :=
      fun j2 h r hr => Ev.succ (Ev.congr h hr)
    generalize hx : (l.getD i z69).f0 = x at *
    generalize hy : (l.getD i z69).f1 = y at *
    have hbad : okFrom s g (prevOf (pr l) i) ((x, y) :: (pr l).drop (i + 1)) = false → (if okFrom s g (prevOf (pr l) i) ((x, y) :: (pr l).drop (i + 1)) = true then (0 : Int) else 1) = 1 := fun h => by rw [h]; rfl
    cases h1 : withinB x 0 (s - 1) with
    | false =>
      rw [hbad (by simp [okFrom, h1])]
      refine hstep true (fun k => ?_) _ (Ev.succ (Ev.some fun k => rfl))
      simp only [swashplateref08_CheckCells.l0, rdT_nat, within_rf, e1, e2, hx, hy, h1, Option.bind_some]
      rw [if_pos (by omega), if_pos (by omega)]; rfl
    | true =>
      cases h2 : withinB y 0 (g - 1) with
      | false =>
        rw [hbad (by simp [okFrom, h1, h2])]
        refine hstep true (fun k => ?_) _ (Ev.succ (Ev.some fun k => rfl))
        simp only [swashplateref08_CheckCells.l0, rdT_nat, within_rf, e1, e2, hx, hy, h1, h2, Option.bind_some]
        rw [if_pos (by omega), if_pos (by omega)]; rfl
      | true =>
        have hj2 : ∀ k, swashplateref08_CheckCells.l0 (k + 1) s g l (i : Int) = swashplateref08_CheckCells.j2 k s g l (i : Int) false x y := fun k => by
          simp only [swashplateref08_CheckCells.l0, rdT_nat, within_rf, e1, e2, hx, hy, h1, h2, Option.bind_some]
          rw [if_pos (by omega), if_pos (by omega)]; rfl
        refine hstep false hj2 _ ?_
        have hnext : prevOf (pr l) (i + 1) = some (x, y) := by simpa [prevOf] using hget
        have ih' := ih (i + 1) (by omega)
        rw [hnext] at ih'
        by_cases h0 : i = 0
        · subst h0
          have hok : okFrom s g (prevOf (pr l) 0) ((x, y) :: (pr l).drop (0 + 1)) = okFrom s g (some (x, y)) ((pr l).drop (0 + 1)) := by simp [okFrom, h1, h2, prevOf]
          rw [hok]
          refine Ev.succ (Ev.congr (fun k => ?_) ih')
          simp only [swashplateref08_CheckCells.j2]
          rw [if_neg (by simp), if_neg (by omega), ewi]
        · obtain ⟨j, rfl⟩ : ∃ j, i = j + 1 := ⟨i - 1, by omega⟩
          have hp := pr_get l j (by omega)
          have hprev : prevOf (pr l) (j + 1) = some ((l.getD j z69).f0, (l.getD j z69).f1) := by simpa [prevOf] using hp
          have ewj : wrap64 (((j + 1 : Nat) : Int) - 1) = ((j : Nat) : Int) := by unfold wrap64; omega
          generalize hpx : (l.getD j z69).f0 = px at *
          generalize hpy : (l.getD j z69).f1 = py at *
          have hok : okFrom s g (prevOf (pr l) (j + 1)) ((x, y) :: (pr l).drop (j + 1 + 1)) = (decide (px < x ∨ px = x ∧ py < y) && okFrom s g (some (x, y)) ((pr l).drop (j + 1 + 1))) := by
            rw [hprev]
            simp only [okFrom, h1, h2, Bool.true_and]
            rw [decide_eq_decide.2 (cmp_iff px py x y)]
          rw [hok]
          have hred : ∀ k, swashplateref08_CheckCells.j2 (k + 1) s g l ((j + 1 : Nat) : Int) false x y = (if x < px then (some 1) else (if x = px then (if y ≤ py then (some 1) else (swashplateref08_CheckCells.l0 k s g l ((j + 1 + 1 : Nat) : Int))) else (swashplateref08_CheckCells.l0 k s g l ((j + 1 + 1 : Nat) : Int)))) := fun k => by
            simp only [swashplateref08_CheckCells.j2, ewj, rdT_nat, hpx, hpy, ewi]
            rw [if_neg (by simp), if_pos (by omega), if_pos (by omega), if_pos (by omega)]
          by_cases hlt : px < x ∨ px = x ∧ py < y
          · rw [decide_eq_true hlt, Bool.true_and]
            refine Ev.succ (Ev.congr (fun k => ?_) ih')
            rw [hred, if_neg (by omega)]
            by_cases he : x = px
            · rw [if_pos he, if_neg (by omega)]
            · rw [if_neg he]
          · rw [decide_eq_false hlt, Bool.false_and]
            refine Ev.succ (Ev.some fun k => ?_)
            rw [hred]
            by_cases hl : x < px
            · rw [if_pos hl]; rfl
            · rw [if_neg hl, if_pos (by omega), if_pos (by omega)]; rfl
theorem CheckCells_ev (s g : Int) (l : List S69) (hn : l.length ≤ 9223372036854775807) : Ev (fun k => swashplateref08_CheckCells.f k s g l) (if okCells s g (pr l) = true then 0 else 1) := by
  unfold swashplateref08_CheckCells.f okCells
  simp only [within_rf, Option.bind_some]
  cases h1 : withinB s 1 8
  · exact Ev.succ (Ev.some fun _ => rfl)
  · cases h2 : withinB g 1 12
    · exact Ev.succ (Ev.some fun _ => rfl)
    · have := check_l0 s g l (within_len h1) (within_len h2) hn l.length 0 (by omega)
      simp only [if_true, Bool.true_and]
      refine Ev.succ (Ev.congr (fun k => ?_) this)
      simp only [swashplateref08_CheckCells.j0, Bool.not_true, Bool.false_eq_true, if_false]
      rfl
theorem has_l0 (xs : List Int) (v : Int) (hn : xs.length ≤ 1000000) (d : Nat) : ∀ i : Nat, i + d = xs.length → Ev (fun k => swashplateref08_has.l0 k xs v (i : Int)) ((xs.drop i).any fun y => y == v) := by
  induction d with
  | zero =>
    intro i hi
    rw [List.drop_eq_nil_of_le (by omega)]
    refine Ev.succ (Ev.some fun k => ?_)
    simp only [swashplateref08_has.l0]
    rw [if_neg (by omega)]; rfl
  | succ d ih =>
    intro i hi
    have hx : xs[i]? = some (xs.getD i 0) := by rw [List.getD_eq_getElem?_getD, List.getElem?_eq_getElem (by omega)]; rfl
    rw [drop_of hx, List.any_cons]
    by_cases he : xs.getD i 0 = v
    · rw [show (xs.getD i 0 == v) = true by simpa using he, Bool.true_or]
      refine Ev.succ (Ev.some fun k => ?_)
      simp only [swashplateref08_has.l0, rd_nat]
      rw [if_pos (by omega), if_pos (by omega), if_pos he]
    · rw [show (xs.getD i 0 == v) = false by simpa using he, Bool.false_or]
      refine Ev.succ (Ev.congr (fun k => ?_) (ih (i + 1) (by omega)))
      simp only [swashplateref08_has.l0, rd_nat]
      rw [if_pos (by omega), if_pos (by omega), if_neg he, w64s i xs.length (by omega) hn]
theorem has_ev (xs : List Int) (v : Int) (hn : xs.length ≤ 1000000) : Ev (fun k => swashplateref08_has.f k xs v) (xs.any fun y => y == v) := by
  have := has_l0 xs v hn xs.length 0 (by omega)
  rw [List.drop_zero] at this
  exact this
theorem memTo_mem (s k : Nat) (x : Int) : x ∈ memTo s k ↔ ∃ i : Nat, i < k ∧ s.testBit i = true ∧ x = i := by
  unfold memTo
  simp only [List.mem_map, List.mem_filter, List.mem_range]
  constructor
  · rintro ⟨i, ⟨h1, h2⟩, rfl⟩; exact ⟨i, h1, h2, rfl⟩
  · rintro ⟨i, h1, h2, rfl⟩; exact ⟨i, ⟨h1, h2⟩, rfl⟩
theorem any_eq (xs : List Int) (v : Int) : (xs.any fun y => y == v) = decide (v ∈ xs) := by
  rw [Bool.eq_iff_iff, List.any_eq_true, decide_eq_true_eq]
  constructor
  · rintro ⟨y, hy, e⟩; rw [← eq_of_beq e]; exact hy
  · intro h; exact ⟨v, h, by simp⟩
theorem mem_of_lt {l S : Nat} (hS : S ≤ 8) (hl : l < 2 ^ S) : memTo l S = mem l := memTo_end (by omega) (Nat.div_eq_of_lt hl)
section
variable {S G : Nat} (hS1 : 1 ≤ S) (hS : S ≤ 8) (hG1 : 1 ≤ G) (hG : G ≤ 12) (l : List S69) (hn : l.length ≤ 9223372036854775807) (hsm : Small2 S G (pr l))
include hS1 hS hG1 hG hn hsm
/-- the worn gears below g, and g itself if one of the first i cells wants it -/
def wantB (l : List S69) (set g i : Nat) : Bool := (List.range i).any fun j => decide ((l.getD j z69).f1 = (g : Int)) && !decide ((l.getD j z69).f0 ∈ mem set)
def wornAcc (l : List S69) (S set g i : Nat) : List Int := memTo (wornS (bysX (S : Int) (pr l)) set) g ++ if wantB l set g i = true then [(g : Int)] else []
theorem want_all (set g : Nat) (hset : set < 2 ^ S) : wantB l set g l.length = (wornS (bysX (S : Int) (pr l)) set).testBit g := by
  rw [Bool.eq_iff_iff, wornX_bit (g0 := G) (by simpa using hsm)]
  unfold wantB
  rw [List.any_eq_true]
  constructor
  · rintro ⟨j, hj, hc⟩
    rw [List.mem_range] at hj
    simp only [Bool.and_eq_true, decide_eq_true_eq, Bool.not_eq_true', decide_eq_false_iff_not] at hc
    have hm := List.mem_of_getElem? (pr_get l j hj)
    obtain ⟨a, b, e, ha, hb⟩ := hsm _ hm
    have e1 := (Prod.mk.inj e).1
    have e2 := (Prod.mk.inj e).2
    refine ⟨a, by simpa using ha, ?_, ?_⟩
    · cases hb : set.testBit a
      · rfl
      · exact absurd ((mem_iff _ _).2 ⟨a, by omega, hb, e1⟩) hc.2
    · rw [← e1, ← hc.1]; exact hm
  · rintro ⟨i, h1, h2, h3⟩
    obtain ⟨j, hj⟩ := List.getElem?_of_mem h3
    have hjl : j < l.length := by have := (List.getElem?_eq_some_iff.1 hj).1; rwa [pr_len] at this
    rw [pr_get l j hjl] at hj
    have e := Option.some.inj hj
    refine ⟨j, List.mem_range.2 hjl, ?_⟩
    simp only [Bool.and_eq_true, decide_eq_true_eq, Bool.not_eq_true', decide_eq_false_iff_not]
    refine ⟨(Prod.mk.inj e).2, ?_⟩
    rw [(Prod.mk.inj e).1]
    intro hm
    obtain ⟨a, _, ha, e'⟩ := (mem_iff _ _).1 hm
    have : i = a := by omega
    subst this
    rw [h2] at ha; cases ha
theorem memTo_not (s k : Nat) (v : Nat) (h : k ≤ v) : (v : Int) ∉ memTo s k := by
  intro hm
  obtain ⟨i, h1, _, e⟩ := (memTo_mem _ _ _).1 hm
  omega
theorem expl_l2 (set : Nat) (hset : set < 2 ^ S) (r : List Int × List Int) (g : Nat) (hg : g < G) (hnext : Ev (fun k => swashplateref08_explanation.l1 k (G : Int) l (mem set) (memTo (wornS (bysX (S : Int) (pr l)) set) (g + 1)) ((g + 1 : Nat) : Int)) r) (d : Nat) :
    ∀ i, i + d = l.length → Ev (fun k => swashplateref08_explanation.l2 k (G : Int) l (mem set) (wornAcc l S set g i) (g : Int) (i : Int)) r := by
  have hlenw := memTo_len (wornS (bysX (S : Int) (pr l)) set) g
  induction d with
  | zero =>
    intro i hi
    obtain rfl : i = l.length := by omega
    refine Ev.succ (Ev.congr (fun k => ?_) hnext)
    simp only [swashplateref08_explanation.l2]
    rw [if_neg (by omega), w64s g G hg (by omega)]
    unfold wornAcc
    rw [want_all hS1 hS hG1 hG l hn hsm set g hset, memTo_succ]
  | succ d ih =>
    intro i hi
    have ewi : wrap64 ((i : Int) + 1) = ((i + 1 : Nat) : Int) := by unfold wrap64; omega
    have hw : wantB l set g (i + 1) = (wantB l set g i || (decide ((l.getD i z69).f1 = (g : Int)) && !decide ((l.getD i z69).f0 ∈ mem set))) := by
      unfold wantB; rw [List.range_succ, List.any_append]; simp
    have ih' := ih (i + 1) (by omega)
    have hacc : (wornAcc l S set g i).length < 17592186044416 := by
      unfold wornAcc; rw [List.length_append]; split <;> simp <;> omega
    by_cases h1 : (l.getD i z69).f1 = (g : Int)
    · have hh1 := has_ev (mem set) (l.getD i z69).f0 (by have := mem_len set; omega)
      have hh2 := has_ev (wornAcc l S set g i) (g : Int) (by unfold wornAcc; rw [List.length_append]; split <;> simp <;> omega)
      refine Ev.succ ?_
      refine Ev.congr (f := fun k => (swashplateref08_has.f k (mem set) ((l.getD i z69).f0)).bind fun t118 => (if t118 = true then (swashplateref08_explanation.l2 k (G : Int) l (mem set) (wornAcc l S set g i) (g : Int) ((i + 1 : Nat) : Int)) else ((swashplateref08_has.f k (wornAcc l S set g i) (g : Int)).bind fun t119 => (if t119 = true then (swashplateref08_explanation.l2 k (G : Int) l (mem set) (wornAcc l S set g i) (g : Int) ((i + 1 : Nat) : Int)) else (if (wornAcc l S set g i).length < 17592186044416 then (swashplateref08_explanation.l2 k (G : Int) l (mem set) ((wornAcc l S set g i) ++ [(g : Int)]) (g : Int) ((i + 1 : Nat) : Int)) else (none)))))) (fun k => ?_) ?_
      · simp only [swashplateref08_explanation.l2, rdT_nat, ewi]
        rw [if_pos (by omega), if_pos (by omega), if_pos h1]
      · refine Ev.bind hh1 ?_
        rw [any_eq]
        by_cases h2 : (l.getD i z69).f0 ∈ mem set
        · have e : wornAcc l S set g (i + 1) = wornAcc l S set g i := by unfold wornAcc; rw [hw, decide_eq_true h2]; simp
          rw [e] at ih'
          simp only [decide_eq_true h2, if_true]
          exact ih'
        · have e : wantB l set g (i + 1) = true := by rw [hw, decide_eq_true h1, decide_eq_false h2]; simp
          simp only [decide_eq_false h2]
          refine Ev.bind hh2 ?_
          rw [any_eq]
          cases h3 : wantB l set g i with
          | true =>
            have e2 : wornAcc l S set g (i + 1) = wornAcc l S set g i := by unfold wornAcc; rw [e, h3]
            have hm : (g : Int) ∈ wornAcc l S set g i := by unfold wornAcc; rw [h3]; simp
            rw [e2] at ih'
            simp only [decide_eq_true hm, if_true]
            exact ih'
          | false =>
            have e2 : wornAcc l S set g (i + 1) = wornAcc l S set g i ++ [(g : Int)] := by unfold wornAcc; rw [e, h3]; simp
            have hm : (g : Int) ∉ wornAcc l S set g i := by unfold wornAcc; rw [h3]; simpa using memTo_not hS1 hS hG1 hG l hn hsm _ g g (Nat.le_refl _)
            rw [e2] at ih'
            simp only [decide_eq_false hm, if_pos hacc]
            exact ih'
    · have e : wornAcc l S set g (i + 1) = wornAcc l S set g i := by unfold wornAcc; rw [hw, decide_eq_false h1]; simp
      rw [e] at ih'
      refine Ev.succ (Ev.congr (fun k => ?_) ih')
      simp only [swashplateref08_explanation.l2, rdT_nat, ewi]
      rw [if_pos (by omega), if_pos (by omega), if_neg h1]
theorem expl_l1 (set : Nat) (hset : set < 2 ^ S) (d : Nat) : ∀ g, g + d = G →
    Ev (fun k => swashplateref08_explanation.l1 k (G : Int) l (mem set) (memTo (wornS (bysX (S : Int) (pr l)) set) g) (g : Int)) (mem set, memTo (wornS (bysX (S : Int) (pr l)) set) G) := by
  induction d with
  | zero =>
    intro g hg
    refine Ev.succ (Ev.some fun k => ?_)
    simp only [swashplateref08_explanation.l1]
    rw [if_neg (by omega), show g = G by omega]
  | succ d ih =>
    intro g hg
    have h2 := expl_l2 hS1 hS hG1 hG l hn hsm set hset _ g (by omega) (ih (g + 1) (by omega)) l.length 0 (by omega)
    have e0 : wornAcc l S set g 0 = memTo (wornS (bysX (S : Int) (pr l)) set) g := by unfold wornAcc wantB; simp
    rw [e0] at h2
    refine Ev.succ (Ev.congr (fun k => ?_) h2)
    simp only [swashplateref08_explanation.l1]
    rw [if_pos (by omega)]; rfl
theorem bit_test (set s : Nat) (hset : set < 256) (hs : s ≤ 8) : (Go.bits .and .i64 (shr .i64 (set : Int) (IntKind.u64.wrap (s : Int))) 1 = 1) ↔ set.testBit s = true := by
  have e1 : IntKind.u64.wrap (s : Int) = (s : Int) := by rw [IntKind.wrap_u64]; omega
  have e2 : shr .i64 (set : Int) (s : Int) = ((set / 2 ^ s : Nat) : Int) := by
    unfold shr
    rw [Int.toNat_natCast, Nat.min_eq_left (by show s ≤ 64; omega)]
    simp
  rw [e1, e2, bits_and_one _ (by have := Nat.div_le_self set (2 ^ s); omega), bit_eq]
  cases set.testBit s <;> simp
theorem expl_l0 (set : Nat) (hset : set < 2 ^ S) (d : Nat) : ∀ s, s + d = S →
    Ev (fun k => swashplateref08_explanation.l0 k (S : Int) (G : Int) (set : Int) l (memTo set s) (s : Int)) (mem set, memTo (wornS (bysX (S : Int) (pr l)) set) G) := by
  have h256 : set < 256 := Nat.lt_of_lt_of_le hset (Nat.pow_le_pow_right (n := 2) (by omega) hS)
  induction d with
  | zero =>
    intro s hs
    have h1 := expl_l1 hS1 hS hG1 hG l hn hsm set hset G 0 (by omega)
    refine Ev.succ (Ev.congr (fun k => ?_) h1)
    simp only [swashplateref08_explanation.l0]
    rw [if_neg (by omega), show s = S by omega, mem_of_lt hS hset]; rfl
  | succ d ih =>
    intro s hs
    have e1 : IntKind.u64.wrap (s : Int) = (s : Int) := by rw [IntKind.wrap_u64]; omega
    have hl := memTo_len set s
    have ih' := ih (s + 1) (by omega)
    rw [memTo_succ] at ih'
    refine Ev.succ (Ev.congr (fun k => ?_) ih')
    have hbt := bit_test hS1 hS hG1 hG l hn hsm set s h256 (by omega)
    simp only [swashplateref08_explanation.l0]
    rw [if_pos (by omega), if_pos (by rw [e1]; omega), w64s s S (by omega) (by omega)]
    by_cases hb : set.testBit s = true
    · rw [if_pos (hbt.2 hb), if_pos (by omega), if_pos hb]
    · rw [if_neg (fun h => hb (hbt.1 h)), if_neg hb, List.append_nil]
theorem worn_all (set : Nat) (hset : set < 2 ^ S) : memTo (wornS (bysX (S : Int) (pr l)) set) G = mem (wornS (bysX (S : Int) (pr l)) set) := by
  refine memTo_end (by omega) ?_
  refine Nat.div_eq_of_lt (Nat.lt_pow_two_of_testBit _ fun i hi => ?_)
  rw [Bool.eq_false_iff]
  intro h
  obtain ⟨a, _, _, hm⟩ := (wornX_bit (g0 := G) (by simpa using hsm) set i).1 h
  obtain ⟨x, y, e, _, hy⟩ := hsm _ hm
  have := (Prod.mk.inj e).2
  omega
theorem explanation_ev (set : Nat) (hset : set < 2 ^ S) : Ev (fun k => swashplateref08_explanation.f k (S : Int) (G : Int) (set : Int) l) (mem set, mem (wornS (bysX (S : Int) (pr l)) set)) := by
  have := expl_l0 hS1 hS hG1 hG l hn hsm set hset S 0 (by omega)
  rw [worn_all hS1 hS hG1 hG l hn hsm set hset] at this
  exact this
end
/-! ### which explanation comes first -/
theorem before_l0 (xs ys : List Int) (hl : xs.length = ys.length) (hn : xs.length ≤ 1000000) (d : Nat) : ∀ i : Nat, i + d = xs.length → Ev (fun k => swashplateref08_before.l0 k xs ys (i : Int)) (decide (cmpL (xs.drop i) (ys.drop i) < 0)) := by
  induction d with
  | zero =>
    intro i hi
    rw [List.drop_eq_nil_of_le (by omega), List.drop_eq_nil_of_le (by omega)]
    refine Ev.succ (Ev.some fun k => ?_)
    simp only [swashplateref08_before.l0]
    rw [if_neg (by omega)]; rfl
  | succ d ih =>
    intro i hi
    have hx : xs[i]? = some (xs.getD i 0) := by rw [List.getD_eq_getElem?_getD, List.getElem?_eq_getElem (by omega)]; rfl
    have hy : ys[i]? = some (ys.getD i 0) := by rw [List.getD_eq_getElem?_getD, List.getElem?_eq_getElem (by omega)]; rfl
    rw [drop_of hx, drop_of hy]
    by_cases he : xs.getD i 0 = ys.getD i 0
    · have e : cmpL (xs.getD i 0 :: xs.drop (i + 1)) (ys.getD i 0 :: ys.drop (i + 1)) = cmpL (xs.drop (i + 1)) (ys.drop (i + 1)) := by
        rw [cmpL]; rw [if_pos ((cmpI_zero _ _).2 he)]
      rw [e]
      refine Ev.succ (Ev.congr (fun k => ?_) (ih (i + 1) (by omega)))
      simp only [swashplateref08_before.l0, rd_nat]
      rw [if_pos (by omega), if_pos (by omega), if_pos (by omega), if_pos he, w64s i xs.length (by omega) hn]
    · have e : decide (cmpL (xs.getD i 0 :: xs.drop (i + 1)) (ys.getD i 0 :: ys.drop (i + 1)) < 0) = decide (xs.getD i 0 < ys.getD i 0) := by
        rw [cmpL, if_neg (fun e => he ((cmpI_zero _ _).1 e))]
        exact decide_eq_decide.2 (cmpI_neg _ _)
      rw [e]
      refine Ev.succ (Ev.some fun k => ?_)
      simp only [swashplateref08_before.l0, rd_nat]
      rw [if_pos (by omega), if_pos (by omega), if_pos (by omega), if_neg he]
theorem before_ev (xs ys : List Int) (hl : xs.length = ys.length) (hn : xs.length ≤ 1000000) : Ev (fun k => swashplateref08_before.f k xs ys) (decide (cmpL xs ys < 0)) := by
  have := before_l0 xs ys hl hn xs.length 0 (by omega)
  rw [List.drop_zero, List.drop_zero] at this
  exact this
theorem cmpX_neg (xs ys : List Int) : cmpX xs ys < 0 ↔ xs.length < ys.length ∨ xs.length = ys.length ∧ cmpL xs ys < 0 := by
  unfold cmpX orL orL
  by_cases h : (xs.length : Int) - ys.length = 0
  · rw [if_pos h]
    by_cases h2 : cmpL xs ys = 0
    · rw [if_pos h2]
      simp only [orL]; omega
    · rw [if_neg h2]; omega
  · rw [if_neg h]; omega
/-- does this set come before that one? -/
def firstB (bys : List Nat) (a b : Nat) : Bool := decide (szX bys a < szX bys b) || (decide (szX bys a = szX bys b) && decide (cmpX (mem a) (mem b) < 0))
def bestTo (bys : List Nat) : Nat → Nat
  | 0 => 0
  | k + 1 => if firstB bys (k + 1) (bestTo bys k) = true then k + 1 else bestTo bys k
theorem explTo_same (sz : Nat → Nat) (k : Nat) : ∀ a b, a ∈ explTo sz k → b ∈ explTo sz k → sz a = sz b := by
  induction k with
  | zero => intro a b h; cases h
  | succ k ih =>
    intro a b ha hb
    unfold explTo at ha hb
    split at ha
    · rename_i he
      rw [he] at hb
      rw [List.mem_singleton.1 ha, List.mem_singleton.1 hb]
    · rename_i h t he
      rw [he] at hb
      simp only [] at hb
      by_cases h1 : sz h < sz k
      · rw [if_pos h1] at ha hb; exact ih a b (by rw [he]; exact ha) (by rw [he]; exact hb)
      · rw [if_neg h1] at ha hb
        by_cases h2 : sz k < sz h
        · rw [if_pos h2] at ha hb; rw [List.mem_singleton.1 ha, List.mem_singleton.1 hb]
        · rw [if_neg h2] at ha hb
          have hx : ∀ x, x ∈ h :: t ++ [k] → sz x = sz h := fun x hx => by
            rcases List.mem_append.1 hx with hx | hx
            · exact ih x h (by rw [he]; exact hx) (by rw [he]; simp)
            · rw [List.mem_singleton.1 hx]; omega
          rw [hx a ha, hx b hb]
theorem minX_mem (l : Nat) (ls : List Nat) : minX (l :: ls) ∈ l :: ls := by
  unfold minX
  have : ∀ (ls : List Nat) (m : Nat), ls.foldl (fun m x => if cmpX (mem x) (mem m) < 0 then x else m) m ∈ m :: ls := by
    intro ls
    induction ls with
    | nil => intro m; simp
    | cons x xs ih =>
      intro m
      simp only [List.foldl_cons]
      split
      · have := ih x; simp at this ⊢; exact .inr this
      · have := ih m
        simp at this ⊢
        rcases this with h | h
        · exact .inl h
        · exact .inr (.inr h)
  exact this ls l
theorem best_eq (bys : List Nat) (k : Nat) : explTo (szX bys) (k + 1) ≠ [] ∧ minX (explTo (szX bys) (k + 1)) = bestTo bys k := by
  induction k with
  | zero => exact ⟨by simp [explTo], rfl⟩
  | succ k ih =>
    obtain ⟨hne, hm⟩ := ih
    have hu : explTo (szX bys) (k + 1 + 1) = match explTo (szX bys) (k + 1) with
        | [] => [k + 1]
        | h :: t => if szX bys h < szX bys (k + 1) then h :: t else if szX bys (k + 1) < szX bys h then [k + 1] else h :: t ++ [k + 1] := rfl
    have hsame := explTo_same (szX bys) (k + 1)
    cases he : explTo (szX bys) (k + 1) with
    | nil => exact absurd he hne
    | cons h t =>
      rw [he] at hu hm hsame
      simp only [] at hu
      have hbest : szX bys (bestTo bys k) = szX bys h := by rw [← hm]; exact hsame _ _ (minX_mem h t) (by simp)
      have hb : bestTo bys (k + 1) = if firstB bys (k + 1) (bestTo bys k) = true then k + 1 else bestTo bys k := rfl
      by_cases h1 : szX bys h < szX bys (k + 1)
      · rw [if_pos h1] at hu
        refine ⟨by rw [hu]; simp, ?_⟩
        rw [hu, hm, hb, if_neg]
        simp only [firstB, hbest, Bool.or_eq_true, Bool.and_eq_true, decide_eq_true_eq]; omega
      · rw [if_neg h1] at hu
        by_cases h2 : szX bys (k + 1) < szX bys h
        · rw [if_pos h2] at hu
          refine ⟨by rw [hu]; simp, ?_⟩
          rw [hu, hb, if_pos]
          · rfl
          · simp only [firstB, hbest, Bool.or_eq_true, decide_eq_true_eq]; exact .inl h2
        · rw [if_neg h2] at hu
          refine ⟨by rw [hu]; simp, ?_⟩
          rw [hu, minX_snoc, hm, hb]
          by_cases hc : cmpX (mem (k + 1)) (mem (bestTo bys k)) < 0
          · rw [if_pos hc, if_pos]
            simp only [firstB, hbest, Bool.or_eq_true, Bool.and_eq_true, decide_eq_true_eq]; exact .inr ⟨by omega, hc⟩
          · rw [if_neg hc, if_neg]
            simp only [firstB, hbest, Bool.or_eq_true, Bool.and_eq_true, decide_eq_true_eq]
            rintro (h | ⟨_, h⟩)
            · exact h2 h
            · exact hc h
section
variable {S G : Nat} (hS1 : 1 ≤ S) (hS : S ≤ 8) (hG1 : 1 ≤ G) (hG : G ≤ 12) (l : List S69) (hn : l.length ≤ 9223372036854775807) (hsm : Small2 S G (pr l))
include hS1 hS hG1 hG hn hsm
theorem shl_eq : 0 ≤ IntKind.u64.wrap (S : Int) ∧ shl .i64 1 (IntKind.u64.wrap (S : Int)) = ((2 ^ S : Nat) : Int) := by
  have e1 : IntKind.u64.wrap (S : Int) = (S : Int) := by rw [IntKind.wrap_u64]; omega
  rw [e1]
  refine ⟨by omega, ?_⟩
  unfold shl
  rw [Int.toNat_natCast, Nat.min_eq_left (by show S ≤ 64; omega)]
  have h : 2 ^ S ≤ 256 := Nat.pow_le_pow_right (n := 2) (by omega) hS
  have e : (1 : Int) * 2 ^ S = ((2 ^ S : Nat) : Int) := by simp
  rw [e]
  generalize 2 ^ S = q at *
  rw [IntKind.wrap_i64]; omega
theorem ref_explain_l0 (d : Nat) : ∀ i, i + 1 + d = 2 ^ S → Ev (fun k => swashplateref08_Explain.l0 k (S : Int) (G : Int) l (mem (bestTo (bysX S (pr l)) i)) (mem (wornS (bysX S (pr l)) (bestTo (bysX S (pr l)) i))) ((i + 1 : Nat) : Int))
    (mem (bestTo (bysX S (pr l)) (2 ^ S - 1)), mem (wornS (bysX S (pr l)) (bestTo (bysX S (pr l)) (2 ^ S - 1))), 0) := by
  have h256 : 2 ^ S ≤ 256 := Nat.pow_le_pow_right (n := 2) (by omega) hS
  obtain ⟨hs1, hs2⟩ := shl_eq hS1 hS hG1 hG l hn hsm
  induction d with
  | zero =>
    intro i hi
    refine Ev.succ (Ev.some fun k => ?_)
    simp only [swashplateref08_Explain.l0]
    rw [if_pos hs1, hs2, if_neg (by omega), show i = 2 ^ S - 1 by omega]
  | succ d ih =>
    intro i hi
    have hx := explanation_ev hS1 hS hG1 hG l hn hsm (i + 1) (by omega)
    have ih' := ih (i + 1) (by omega)
    have l1 := mem_len (i + 1)
    have l2 := mem_len (wornS (bysX S (pr l)) (i + 1))
    have l3 := mem_len (bestTo (bysX S (pr l)) i)
    have l4 := mem_len (wornS (bysX S (pr l)) (bestTo (bysX S (pr l)) i))
    have hb : bestTo (bysX S (pr l)) (i + 1) = if firstB (bysX S (pr l)) (i + 1) (bestTo (bysX S (pr l)) i) = true then i + 1 else bestTo (bysX S (pr l)) i := rfl
    have hF : firstB (bysX S (pr l)) (i + 1) (bestTo (bysX S (pr l)) i) = true ↔ ((mem (i + 1)).length + (mem (wornS (bysX S (pr l)) (i + 1))).length < (mem (bestTo (bysX S (pr l)) i)).length + (mem (wornS (bysX S (pr l)) (bestTo (bysX S (pr l)) i))).length ∨
        (mem (i + 1)).length + (mem (wornS (bysX S (pr l)) (i + 1))).length = (mem (bestTo (bysX S (pr l)) i)).length + (mem (wornS (bysX S (pr l)) (bestTo (bysX S (pr l)) i))).length ∧ ((mem (i + 1)).length < (mem (bestTo (bysX S (pr l)) i)).length ∨ (mem (i + 1)).length = (mem (bestTo (bysX S (pr l)) i)).length ∧ cmpL (mem (i + 1)) (mem (bestTo (bysX S (pr l)) i)) < 0)) := by
      unfold firstB szX
      rw [Bool.or_eq_true, Bool.and_eq_true, decide_eq_true_eq, decide_eq_true_eq, decide_eq_true_eq, cmpX_neg]
    rw [hb] at ih'
    clear hb
    generalize bestTo (bysX S (pr l)) i = bst at *
    have hbef := fun h : (mem (i + 1)).length = (mem bst).length => before_ev (mem (i + 1)) (mem bst) h (by omega)
    have ew : wrap64 (((i + 1 : Nat) : Int) + 1) = ((i + 1 + 1 : Nat) : Int) := by unfold wrap64; omega
    have e3 : wrap64 (wrap64 (wrap64 (((mem (i + 1)).length : Int) + ((mem (wornS (bysX S (pr l)) (i + 1))).length : Int)) - ((mem bst).length : Int)) - ((mem (wornS (bysX S (pr l)) bst)).length : Int)) = ((mem (i + 1)).length : Int) + ((mem (wornS (bysX S (pr l)) (i + 1))).length : Int) - ((mem bst).length : Int) - ((mem (wornS (bysX S (pr l)) bst)).length : Int) := by
      generalize (mem (i + 1)).length = a at *
      generalize (mem (wornS (bysX S (pr l)) (i + 1))).length = b at *
      generalize (mem bst).length = c at *
      generalize (mem (wornS (bysX S (pr l)) bst)).length = d at *
      rw [w64 ((a : Int) + b) (by omega) (by omega), w64 ((a : Int) + b - c) (by omega) (by omega), w64 _ (by omega) (by omega)]
    have hilt : ((i + 1 : Nat) : Int) < ((2 ^ S : Nat) : Int) := by omega
    refine Ev.succ ?_
    simp only [swashplateref08_Explain.l0, if_pos hs1, hs2, if_pos hilt]
    refine Ev.bind hx ?_
    simp only [e3, ew]
    clear e3 ew hx
    generalize hA : mem (i + 1) = A at *
    generalize hB : mem (wornS (bysX S (pr l)) (i + 1)) = B at *
    generalize hC : mem bst = C at *
    generalize hD : mem (wornS (bysX S (pr l)) bst) = D at *
    by_cases c1 : (A.length : Int) + B.length - C.length - D.length < 0
    · simp only [if_pos c1]
      rw [if_pos (hF.2 (.inl (by omega))), hA, hB] at ih'
      exact ih'
    · simp only [if_neg c1]
      by_cases c2 : (A.length : Int) + B.length - C.length - D.length = 0
      · simp only [if_pos c2]
        by_cases c3 : (A.length : Int) < (C.length : Int)
        · simp only [if_pos c3]
          rw [if_pos (hF.2 (.inr ⟨by omega, .inl (by omega)⟩)), hA, hB] at ih'
          exact ih'
        · simp only [if_neg c3]
          by_cases c4 : (A.length : Int) = (C.length : Int)
          · simp only [if_pos c4]
            refine Ev.bind (hbef (by omega)) ?_
            by_cases c5 : cmpL A C < 0
            · simp only [decide_eq_true c5, if_true]
              rw [if_pos (hF.2 (.inr ⟨by omega, .inr ⟨by omega, c5⟩⟩)), hA, hB] at ih'
              exact ih'
            · simp only [decide_eq_false c5]
              rw [if_neg (fun h => by rcases hF.1 h with h | ⟨_, h | ⟨_, h⟩⟩ <;> first | omega | exact c5 h), hC, hD] at ih'
              exact ih'
          · simp only [if_neg c4]
            rw [if_neg (fun h => by rcases hF.1 h with h | ⟨_, h | ⟨_, h⟩⟩ <;> omega), hC, hD] at ih'
            exact ih'
      · simp only [if_neg c2]
        rw [if_neg (fun h => by rcases hF.1 h with h | ⟨_, h | ⟨_, h⟩⟩ <;> omega), hC, hD] at ih'
        exact ih'
end
theorem small_of {s g : Int} {l : List S69} (h : okCells s g (pr l) = true) : ∃ S G : Nat, s = S ∧ g = G ∧ 1 ≤ S ∧ S ≤ 8 ∧ 1 ≤ G ∧ G ≤ 12 ∧ Small2 S G (pr l) := by
  have hs := ok_small h
  simp only [okCells, Bool.and_eq_true] at h
  have h1 := (withinB_iff _ _ _).1 h.1.1
  have h2 := (withinB_iff _ _ _).1 h.1.2
  refine ⟨s.toNat, g.toNat, by omega, by omega, by omega, by omega, by omega, by omega, hs⟩
theorem loose_best {S : Nat} (cells : List (Int × Int)) : looseX (S : Int) cells = bestTo (bysX S cells) (2 ^ S - 1) := by
  unfold looseX
  have := (best_eq (bysX S cells) (2 ^ S - 1)).2
  rw [show 2 ^ S - 1 + 1 = 2 ^ S by have := Nat.two_pow_pos S; omega] at this
  rw [Int.toNat_natCast]; exact this
theorem RExplain_ev (s g : Int) (l : List S69) (hn : l.length ≤ 9223372036854775807) : Ev (fun k => swashplateref08_Explain.f k s g l) (exX s g (pr l)) := by
  unfold swashplateref08_Explain.f exX
  refine Ev.bind (CheckCells_ev s g l hn) ?_
  by_cases h : okCells s g (pr l) = true
  · obtain ⟨S, G, rfl, rfl, hS1, hS, hG1, hG, hsm⟩ := small_of h
    simp only [h, if_true]
    have h256 := Nat.two_pow_pos S
    have h2 : 2 ≤ 2 ^ S := Nat.pow_le_pow_right (n := 2) (by omega) hS1
    refine Ev.bind (explanation_ev hS1 hS hG1 hG l hn hsm 0 h256) ?_
    have := ref_explain_l0 hS1 hS hG1 hG l hn hsm (2 ^ S - 1) 0 (by omega)
    rw [loose_best]
    exact this
  · simp only [h]
    exact Ev.some fun _ => rfl
end Go.Proofs.Ytcmjpcmdgnbbpaa.PE
