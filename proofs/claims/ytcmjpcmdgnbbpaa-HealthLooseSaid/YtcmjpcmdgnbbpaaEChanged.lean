/- Changed of the program and of the reference in plain numbers: the cells whose level is another one than it was. -/
import Derived.Test.YtcmjpcmdgnbbpaaPEx3
import Derived.Test.YtcmjpcmdgnbbpaaPEx4
import Derived.Test.YtcmjpcmdgnbbpaaPEx5
import Derived.Test.YtcmjpcmdgnbbpaaELeveled
namespace Go.Proofs.Ytcmjpcmdgnbbpaa.PE
open Go.RowKit Go.Proofs.YtcmjpcmdgnbbpaaW.PrintWords Go.Proofs.YtcmjpcmdgnbbpaaW.PrintLast Go.Proofs.YtcmjpcmdgnbbpaaW.PrintMore
set_option linter.unusedVariables false
set_option linter.unusedSectionVars false
theorem Ev.succ {α : Type} {g : Nat → Option α} {r : α} (h : Ev (fun k => g (k + 1)) r) : Ev g r := Ev.step (fun _ => rfl) h
theorem Ev.some {α : Type} {g : Nat → Option α} {r : α} (h : ∀ k, g k = Option.some r) : Ev g r := ⟨0, fun k _ => h k⟩
theorem rd_nat (xs : List Int) (i : Nat) : rd xs (i : Int) = xs.getD i 0 := by simp [rd]
theorem rdL_nat (l : List (List Int)) (i : Nat) : rd_L2 l (i : Int) = l.getD i [] := by simp [rd_L2]
theorem w64s (i n : Nat) (h : i < n) (hn : n ≤ 1000000) : wrap64 ((i : Int) + 1) = ((i + 1 : Nat) : Int) := by unfold wrap64; omega
theorem within_f (a b c : Int) : health_within.f a b c = some (withinB a b c) := by
  unfold health_within.f withinB
  by_cases h : b ≤ a
  · rw [if_pos h]; simp [h]
  · rw [if_neg h]; simp [h]
theorem within_rf (a b c : Int) : swashplateref08_within.f a b c = some (withinB a b c) := by
  unfold swashplateref08_within.f withinB
  by_cases h : b ≤ a
  · rw [if_pos h]; simp [h]
  · rw [if_neg h]; simp [h]
theorem allB_drop {xs : List Int} {l h : Int} {k : Nat} (hk : k < xs.length) : allB (xs.drop k) l h = (withinB (xs.getD k 0) l h && allB (xs.drop (k + 1)) l h) := by
  have hx : xs[k]? = some (xs.getD k 0) := by rw [List.getD_eq_getElem?_getD, List.getElem?_eq_getElem hk]; rfl
  rw [drop_of hx]; rfl
theorem getD_drop {l : List (List Int)} {k : Nat} (hk : k < l.length) : l.drop k = l.getD k [] :: l.drop (k + 1) := by
  have hx : l[k]? = some (l.getD k []) := by rw [List.getD_eq_getElem?_getD, List.getElem?_eq_getElem hk]; rfl
  exact drop_of hx
theorem badR_w {m : Nat} {row : List Int} (h : withinB row.length 1 12 = false) : badR m row = true := by unfold badR; rw [h]; simp
def head0 (l : List (List Int)) : Nat := (l.headD []).length
theorem head0_eq (l : List (List Int)) : head0 l = (l.getD 0 []).length := by cases l <;> rfl
theorem tabled_l1 (l : List (List Int)) (h8 : l.length ≤ 8) (s : Nat) (hs : s < l.length) (h12 : (l.getD s []).length ≤ 12) (r : Bool) (hnext : Ev (fun k => swashplateref08_tabled.l0 k l ((s + 1 : Nat) : Int)) r) (d : Nat) :
    ∀ g, g + d = (l.getD s []).length → Ev (fun k => swashplateref08_tabled.l1 k l (s : Int) (g : Int)) (allB ((l.getD s []).drop g) 0 1000000 && r) := by
  induction d with
  | zero =>
    intro g hg
    rw [List.drop_eq_nil_of_le (by omega)]
    refine Ev.succ (Ev.congr (fun k => ?_) hnext)
    simp only [swashplateref08_tabled.l1, rdL_nat]
    rw [if_pos (by omega), if_pos (by omega), if_neg (by omega), w64s s l.length hs (by omega)]
  | succ d ih =>
    intro g hg
    rw [allB_drop (show g < (l.getD s []).length by omega)]
    cases hq : withinB ((l.getD s []).getD g 0) 0 1000000 with
    | true =>
      refine Ev.succ (Ev.congr (fun k => ?_) (ih (g + 1) (by omega)))
      simp only [swashplateref08_tabled.l1, rdL_nat, rd_nat, within_rf, hq, Option.bind_some, if_true]
      rw [if_pos (by omega), if_pos (by omega), if_pos (by omega), if_pos (by omega), w64s g (l.getD s []).length (by omega) (by omega)]
    | false =>
      refine Ev.succ (Ev.some fun k => ?_)
      simp only [swashplateref08_tabled.l1, rdL_nat, rd_nat, within_rf, hq, Option.bind_some]
      rw [if_pos (by omega), if_pos (by omega), if_pos (by omega), if_pos (by omega)]; rfl
theorem tabled_l0 (l : List (List Int)) (h8 : l.length ≤ 8) (d : Nat) : ∀ s, s + d = l.length → Ev (fun k => swashplateref08_tabled.l0 k l (s : Int)) (!(l.drop s).any (badR (head0 l))) := by
  induction d with
  | zero =>
    intro s hs
    refine Ev.succ (Ev.some fun k => ?_)
    simp only [swashplateref08_tabled.l0]
    rw [if_neg (by omega), List.drop_eq_nil_of_le (by omega)]; rfl
  | succ d ih =>
    intro s hs
    have hsl : s < l.length := by omega
    rw [getD_drop hsl, List.any_cons, Bool.not_or]
    cases hw : withinB (l.getD s []).length 1 12 with
    | false =>
      have hb : badR (head0 l) (l.getD s []) = true := badR_w hw
      rw [hb]
      refine Ev.succ (Ev.congr (fun k => ?_) (Ev.succ (g := fun k => swashplateref08_tabled.j1 k l (s : Int) true) (Ev.some fun k => rfl)))
      simp only [swashplateref08_tabled.l0, rdL_nat, within_rf, hw, Option.bind_some]
      rw [if_pos (by omega), if_pos (by omega)]; rfl
    | true =>
      have g12 := (withinB_iff _ _ _).1 hw
      by_cases hl : (l.getD s []).length = head0 l
      · have hb : (!badR (head0 l) (l.getD s [])) = allB ((l.getD s []).drop 0) 0 1000000 := by rw [badR_rest hl, hw, List.drop_zero]; simp
        rw [hb]
        have h1 := tabled_l1 l h8 s hsl (by omega) _ (ih (s + 1) (by omega)) (l.getD s []).length 0 (by omega)
        refine Ev.succ (Ev.congr (fun k => ?_) (Ev.succ (g := fun k => swashplateref08_tabled.j1 k l (s : Int) false) h1))
        have e0 : rd_L2 l 0 = l.getD 0 [] := rdL_nat l 0
        have hne : (((l.getD s []).length : Int) != ((l.getD 0 []).length : Int)) = false := by
          rw [hl, head0_eq]; simp
        simp only [swashplateref08_tabled.l0, rdL_nat, within_rf, hw, Option.bind_some, if_true, e0, hne]
        rw [if_pos (by omega), if_pos (by omega), if_pos (by omega)]
      · have hb : badR (head0 l) (l.getD s []) = true := badR_len hl
        rw [hb]
        refine Ev.succ (Ev.congr (fun k => ?_) (Ev.succ (g := fun k => swashplateref08_tabled.j1 k l (s : Int) true) (Ev.some fun k => rfl)))
        have e0 : rd_L2 l 0 = l.getD 0 [] := rdL_nat l 0
        have hne : (((l.getD s []).length : Int) != ((l.getD 0 []).length : Int)) = true := by
          rw [head0_eq] at hl; rw [bne_iff_ne, ne_eq]; omega
        simp only [swashplateref08_tabled.l0, rdL_nat, within_rf, hw, Option.bind_some, if_true, e0, hne]
        rw [if_pos (by omega), if_pos (by omega), if_pos (by omega)]
theorem tabled_ev (l : List (List Int)) : Ev (fun k => swashplateref08_tabled.f k l) (levB l) := by
  unfold swashplateref08_tabled.f levB
  simp only [within_rf, Option.bind_some]
  cases hw : withinB l.length 1 8
  · exact Ev.some fun _ => rfl
  · have g := (withinB_iff _ _ _).1 hw
    have := tabled_l0 l (by omega) l.length 0 (by omega)
    rw [List.drop_zero] at this
    exact this

/-- has this level changed by more than so many percent? -/
def hitB2 (l0 l1 : List (List Int)) (p : Int) (s g : Nat) : Bool :=
  decide (wrap64 (mx (wrap64 ((l1.getD s []).getD g 0 - (l0.getD s []).getD g 0)) (wrap64 (-(wrap64 ((l1.getD s []).getD g 0 - (l0.getD s []).getD g 0)))) * 100) > wrap64 (p * (l0.getD s []).getD g 0))
def rowTo (l0 l1 : List (List Int)) (p : Int) (s g : Nat) : List S69 := ((List.range g).filter (hitB2 l0 l1 p s)).map fun g : Nat => (⟨(s : Int), (g : Int)⟩ : S69)
def cellTo (l0 l1 : List (List Int)) (p : Int) : Nat → List S69
  | 0 => []
  | s + 1 => cellTo l0 l1 p s ++ rowTo l0 l1 p s (l0.getD s []).length
theorem rowTo_succ (l0 l1 : List (List Int)) (p : Int) (s g : Nat) : rowTo l0 l1 p s (g + 1) = rowTo l0 l1 p s g ++ if hitB2 l0 l1 p s g = true then [(⟨(s : Int), (g : Int)⟩ : S69)] else [] := by
  unfold rowTo
  rw [List.range_succ, List.filter_append, List.map_append]
  cases h : hitB2 l0 l1 p s g <;> simp [h]
theorem rowTo_len (l0 l1 : List (List Int)) (p : Int) (s g : Nat) : (rowTo l0 l1 p s g).length ≤ g := by
  unfold rowTo
  have h := List.length_filter_le (hitB2 l0 l1 p s) (List.range g)
  simp at h ⊢; exact h
structure Lev (l : List (List Int)) (m : Nat) : Prop where
  one : 1 ≤ l.length
  eight : l.length ≤ 8
  m1 : 1 ≤ m
  m12 : m ≤ 12
  row : ∀ s, s < l.length → (l.getD s []).length = m ∧ allB (l.getD s []) 0 1000000 = true
theorem lev_of {l : List (List Int)} (h : levB l = true) : Lev l (head0 l) := by
  simp only [levB, Bool.and_eq_true, Bool.not_eq_true'] at h
  obtain ⟨h1, h2⟩ := h
  have g := (withinB_iff _ _ _).1 h1
  rw [List.any_eq_false] at h2
  have hrow : ∀ s, s < l.length → (l.getD s []).length = head0 l ∧ withinB (l.getD s []).length 1 12 = true ∧ allB (l.getD s []) 0 1000000 = true := fun s hs => by
    have hm : l.getD s [] ∈ l := by rw [List.getD_eq_getElem?_getD, List.getElem?_eq_getElem hs]; exact List.getElem_mem hs
    have := h2 _ hm
    simp only [badR, Bool.or_eq_true, not_or, decide_eq_true_eq, Bool.not_eq_true', Bool.not_eq_false] at this
    exact ⟨Decidable.of_not_not this.1.1, this.1.2, this.2⟩
  have h0 := hrow 0 (by omega)
  have g0 := (withinB_iff _ _ _).1 h0.2.1
  exact ⟨by omega, by omega, by omega, by omega, fun s hs => ⟨(hrow s hs).1, (hrow s hs).2.2⟩⟩
theorem cellTo_len {l0 l1 : List (List Int)} {p : Int} {m : Nat} (h : Lev l0 m) (s : Nat) (hs : s ≤ l0.length) : (cellTo l0 l1 p s).length ≤ s * 12 := by
  induction s with
  | zero => simp [cellTo]
  | succ s ih =>
    have h1 := rowTo_len l0 l1 p s (l0.getD s []).length
    have h2 := ih (by omega)
    have h3 := (h.row s (by omega)).1
    have h4 := h.m12
    simp only [cellTo, List.length_append]; omega
section
variable {l0 l1 : List (List Int)} {m : Nat} (h0 : Lev l0 m) (h1 : Lev l1 m) (hl : l0.length = l1.length) (p : Int)
include h0 h1 hl
theorem changed_l1 (r : List S69 × Int) (s : Nat) (hs : s < l0.length) (hnext : Ev (fun k => health_Changed.l0 k l1 p (cellTo l0 l1 p (s + 1)) l0 (l0.length : Int) ((s + 1 : Nat) : Int)) r) (d : Nat) :
    ∀ g, g + d = m → Ev (fun k => health_Changed.l1 k l1 p (cellTo l0 l1 p s ++ rowTo l0 l1 p s g) (s : Int) l0 (l0.length : Int) (s : Int) (l0.getD s []) ((l0.getD s []).length : Int) (g : Int)) r := by
  have h8 := h0.eight
  have h12 := h0.m12
  have e0 := (h0.row s hs).1
  have e1 := (h1.row s (by omega)).1
  induction d with
  | zero =>
    intro g hg
    refine Ev.succ (Ev.congr (fun k => ?_) hnext)
    simp only [health_Changed.l1]
    rw [if_neg (by omega), w64s s l0.length hs (by omega)]
    simp only [cellTo]
    rw [e0, show g = m by omega]
  | succ d ih =>
    intro g hg
    have hlen : (cellTo l0 l1 p s ++ rowTo l0 l1 p s g).length < 8796093022208 := by
      have a1 := cellTo_len (l1 := l1) (p := p) h0 s (by omega)
      have a2 := rowTo_len l0 l1 p s g
      rw [List.length_append]; omega
    refine Ev.succ (Ev.congr (fun k => ?_) (ih (g + 1) (by omega)))
    simp only [health_Changed.l1, rdL_nat, rd_nat]
    rw [if_pos (by omega), if_pos (by omega), if_pos (by omega), if_pos (by omega), if_pos (by omega), if_pos (by omega), w64s g m (by omega) (by omega), rowTo_succ]
    by_cases hq : hitB2 l0 l1 p s g = true
    · rw [if_pos (of_decide_eq_true hq), if_pos hlen, if_pos hq, List.append_assoc]
    · rw [if_neg (fun hc => hq (decide_eq_true hc)), if_neg hq, List.append_nil]
theorem changed_l0 (d : Nat) : ∀ s, s + d = l0.length → Ev (fun k => health_Changed.l0 k l1 p (cellTo l0 l1 p s) l0 (l0.length : Int) (s : Int)) (cellTo l0 l1 p l0.length, 0) := by
  induction d with
  | zero =>
    intro s hs
    refine Ev.succ (Ev.some fun k => ?_)
    simp only [health_Changed.l0]
    rw [if_neg (by omega), show s = l0.length by omega]
  | succ d ih =>
    intro s hs
    have := changed_l1 h0 h1 hl p _ s (by omega) (ih (s + 1) (by omega)) m 0 (by omega)
    refine Ev.succ (Ev.congr (fun k => ?_) this)
    simp only [health_Changed.l0, rdL_nat]
    rw [if_pos (by omega), if_pos (by omega), if_pos (by omega)]
    simp [rowTo]
theorem ref_changed_l1 (r : List S69 × Int) (s : Nat) (hs : s < l0.length) (hnext : Ev (fun k => swashplateref08_Changed.l0 k l0 l1 p (cellTo l0 l1 p (s + 1)) ((s + 1 : Nat) : Int)) r) (d : Nat) :
    ∀ g, g + d = m → Ev (fun k => swashplateref08_Changed.l1 k l0 l1 p (cellTo l0 l1 p s ++ rowTo l0 l1 p s g) (s : Int) (g : Int)) r := by
  have h8 := h0.eight
  have h12 := h0.m12
  have e0 := (h0.row s hs).1
  have e1 := (h1.row s (by omega)).1
  induction d with
  | zero =>
    intro g hg
    refine Ev.succ (Ev.congr (fun k => ?_) hnext)
    simp only [swashplateref08_Changed.l1, rdL_nat]
    rw [if_pos (by omega), if_pos (by omega), if_neg (by omega), w64s s l0.length hs (by omega)]
    simp only [cellTo]
    rw [e0, show g = m by omega]
  | succ d ih =>
    intro g hg
    have hlen : (cellTo l0 l1 p s ++ rowTo l0 l1 p s g).length < 8796093022208 := by
      have a1 := cellTo_len (l1 := l1) (p := p) h0 s (by omega)
      have a2 := rowTo_len l0 l1 p s g
      rw [List.length_append]; omega
    refine Ev.succ (Ev.congr (fun k => ?_) (ih (g + 1) (by omega)))
    simp only [swashplateref08_Changed.l1, rdL_nat, rd_nat]
    rw [if_pos (by omega), if_pos (by omega), if_pos (by omega), if_pos (by omega), if_pos (by omega), if_pos (by omega), w64s g m (by omega) (by omega), rowTo_succ]
    by_cases hq : hitB2 l0 l1 p s g = true
    · rw [if_pos (of_decide_eq_true hq), if_pos hlen, if_pos hq, List.append_assoc]
    · rw [if_neg (fun hc => hq (decide_eq_true hc)), if_neg hq, List.append_nil]
theorem ref_changed_l0 (d : Nat) : ∀ s, s + d = l0.length → Ev (fun k => swashplateref08_Changed.l0 k l0 l1 p (cellTo l0 l1 p s) (s : Int)) (cellTo l0 l1 p l0.length, 0) := by
  induction d with
  | zero =>
    intro s hs
    refine Ev.succ (Ev.some fun k => ?_)
    simp only [swashplateref08_Changed.l0]
    rw [if_neg (by omega), show s = l0.length by omega]
  | succ d ih =>
    intro s hs
    have := ref_changed_l1 h0 h1 hl p _ s (by omega) (ih (s + 1) (by omega)) m 0 (by omega)
    refine Ev.succ (Ev.congr (fun k => ?_) this)
    simp only [swashplateref08_Changed.l0]
    rw [if_pos (by omega)]
    simp [rowTo]
end
def tablesB (l0 l1 : List (List Int)) : Bool := levB l0 && levB l1 && decide (l0.length = l1.length) && decide (head0 l0 = head0 l1)
def chg (l0 l1 : List (List Int)) (p : Int) : List S69 × Int := if tablesB l0 l1 = true then (if withinB p 0 10000 = true then (cellTo l0 l1 p l0.length, 0) else ([], 1)) else ([], 81)
theorem Changed_ev (l0 l1 : List (List Int)) (p : Int) : Ev (fun k => health_Changed.f k l0 l1 p) (chg l0 l1 p) := by
  unfold health_Changed.f health_leveled.f chg tablesB
  simp only [Option.bind_some]
  have e0 : ∀ l, rd_L2 l 0 = l.getD 0 [] := fun l => rdL_nat l 0
  cases h0 : levB l0 with
  | false => exact Ev.succ (Ev.some fun _ => rfl)
  | true =>
    cases h1 : levB l1 with
    | false => exact Ev.succ (Ev.some fun _ => rfl)
    | true =>
      have g0 := lev_of h0
      have g1 := lev_of h1
      by_cases hl : l0.length = l1.length
      · have hli : (l0.length : Int) = (l1.length : Int) := by omega
        by_cases hh : head0 l0 = head0 l1
        · have hne : (((l0.getD 0 []).length : Int) != ((l1.getD 0 []).length : Int)) = false := by rw [← head0_eq, ← head0_eq, hh]; simp
          simp only [if_true, if_pos hli, decide_eq_true hl, decide_eq_true hh, Bool.and_true, e0, hne]
          refine Ev.succ ?_
          simp only [health_Changed.j0, within_f, Option.bind_some]
          cases hp : withinB p 0 10000 with
          | false =>
            refine Ev.some fun k => ?_
            rw [if_pos (by have := g1.one; omega), if_pos (by have := g1.one; omega)]; rfl
          | true =>
            have := changed_l0 g0 (by rw [hh]; exact g1) hl p l0.length 0 (by omega)
            refine Ev.congr (fun k => ?_) this
            rw [if_pos (by have := g1.one; omega), if_pos (by have := g1.one; omega)]; rfl
        · have hne : (((l0.getD 0 []).length : Int) != ((l1.getD 0 []).length : Int)) = true := by rw [← head0_eq, ← head0_eq, bne_iff_ne, ne_eq]; omega
          simp only [if_true, if_pos hli, decide_eq_true hl, decide_eq_false hh, Bool.and_true, Bool.and_false, e0, hne]
          refine Ev.succ (Ev.some fun k => ?_)
          rw [if_pos (by have := g1.one; omega), if_pos (by have := g1.one; omega)]; rfl
      · have hli : ¬ (l0.length : Int) = (l1.length : Int) := by omega
        simp only [if_true, hli, hl, if_false, decide_false, Bool.and_true, Bool.and_false, Bool.false_and]
        exact Ev.succ (Ev.some fun _ => rfl)
theorem RChanged_ev (l0 l1 : List (List Int)) (p : Int) : Ev (fun k => swashplateref08_Changed.f k l0 l1 p) (chg l0 l1 p) := by
  unfold swashplateref08_Changed.f chg tablesB
  have e0 : ∀ l, rd_L2 l 0 = l.getD 0 [] := fun l => rdL_nat l 0
  refine Ev.bind (tabled_ev l0) ?_
  cases h0 : levB l0 with
  | false => exact Ev.succ (Ev.some fun _ => rfl)
  | true =>
    simp only [if_true]
    refine Ev.bind (tabled_ev l1) ?_
    cases h1 : levB l1 with
    | false => exact Ev.succ (Ev.some fun _ => rfl)
    | true =>
      have g0 := lev_of h0
      have g1 := lev_of h1
      by_cases hl : l0.length = l1.length
      · have hli : (l0.length : Int) = (l1.length : Int) := by omega
        by_cases hh : head0 l0 = head0 l1
        · have hne : (((l0.getD 0 []).length : Int) != ((l1.getD 0 []).length : Int)) = false := by rw [← head0_eq, ← head0_eq, hh]; simp
          simp only [if_true, if_pos hli, decide_eq_true hl, decide_eq_true hh, Bool.and_true, e0, hne]
          refine Ev.succ ?_
          simp only [swashplateref08_Changed.j0, within_rf, Option.bind_some]
          cases hp : withinB p 0 10000 with
          | false =>
            refine Ev.some fun k => ?_
            rw [if_pos (by have := g1.one; omega), if_pos (by have := g1.one; omega)]; rfl
          | true =>
            have := ref_changed_l0 g0 (by rw [hh]; exact g1) hl p l0.length 0 (by omega)
            refine Ev.congr (fun k => ?_) this
            rw [if_pos (by have := g1.one; omega), if_pos (by have := g1.one; omega)]; rfl
        · have hne : (((l0.getD 0 []).length : Int) != ((l1.getD 0 []).length : Int)) = true := by rw [← head0_eq, ← head0_eq, bne_iff_ne, ne_eq]; omega
          simp only [if_true, if_pos hli, decide_eq_true hl, decide_eq_false hh, Bool.and_true, Bool.and_false, e0, hne]
          refine Ev.succ (Ev.some fun k => ?_)
          rw [if_pos (by have := g1.one; omega), if_pos (by have := g1.one; omega)]; rfl
      · have hli : ¬ (l0.length : Int) = (l1.length : Int) := by omega
        simp only [if_true, hli, hl, if_false, decide_false, Bool.and_true, Bool.and_false, Bool.false_and]
        exact Ev.succ (Ev.some fun _ => rfl)
theorem chg_len (l0 l1 : List (List Int)) (p : Int) : (chg l0 l1 p).1.length ≤ 96 := by
  unfold chg
  split
  · split
    · have h : tablesB l0 l1 = true := by assumption
      simp only [tablesB, Bool.and_eq_true, decide_eq_true_eq] at h
      have g := lev_of h.1.1.1
      have := cellTo_len (l1 := l1) (p := p) g l0.length (Nat.le_refl _)
      have := g.eight
      show (cellTo l0 l1 p l0.length).length ≤ 96
      omega
    · simp
  · simp
theorem sameCells_l0 (xs : List S69) (hn : xs.length ≤ 1000000) (d : Nat) : ∀ i : Nat, i + d = xs.length → Ev (fun k => swashplatelaw08_sameCells.l0 k xs xs (i : Int)) true := by
  induction d with
  | zero =>
    intro i hi
    refine Ev.succ (Ev.some fun k => ?_)
    simp only [swashplatelaw08_sameCells.l0]
    rw [if_neg (by omega)]
  | succ d ih =>
    intro i hi
    refine Ev.succ (Ev.congr (fun k => ?_) (ih (i + 1) (by omega)))
    simp only [swashplatelaw08_sameCells.l0]
    rw [if_pos (by omega), if_pos (by omega), if_pos (by omega), if_neg (by simp), w64s i xs.length (by omega) hn]
theorem sameCells_ev (xs : List S69) (hn : xs.length ≤ 1000000) : Ev (fun k => swashplatelaw08_sameCells.f k xs xs) true := by
  unfold swashplatelaw08_sameCells.f
  simp only [if_true]
  exact sameCells_l0 xs hn xs.length 0 (by omega)
theorem HealthChanges (l0 l1 : List (List Int)) (p : Int) : ∃ k, swashplatelaw08_HealthChanges.f k l0 l1 p = some true := by
  refine Ev.rounds ?_
  unfold swashplatelaw08_HealthChanges.f
  refine Ev.bind (Changed_ev l0 l1 p) ?_
  refine Ev.bind (RChanged_ev l0 l1 p) ?_
  simp only [if_true]
  refine Ev.bind (sameCells_ev _ (Nat.le_trans (chg_len l0 l1 p) (by omega))) ?_
  exact Ev.some fun k => rfl
theorem changes_walk (A0 : Option Addr) (c0 : Nat) (l0 : List (List Int)) (A1 : Option Addr) (c1 : Nat) (l1 : List (List Int)) (p : Int) (w : World) (h0 : Kd.C (Kd.slice 3 (Kd.int .i64)) w A0 l0.length l0) (g0 : l0.length ≤ c0) (h1 : Kd.C (Kd.slice 3 (Kd.int .i64)) w A1 l1.length l1) (g1 : l1.length ≤ c1) :
    Calls Try.prog 6 #[.slice A0 l0.length c0, .slice A1 l1.length c1, .int .i64 p] w fun e w' => e = .returned (.bool true) ∧ Below w.heap.size w w' := by
  obtain ⟨k, h⟩ := HealthChanges l0 l1 p
  exact swashplatelaw08_HealthChanges.calls k A0 c0 l0 A1 c1 l1 p true w h0 g0 h1 g1 h
end Go.Proofs.Ytcmjpcmdgnbbpaa.PE
