/- HealthLoose in plain numbers, and its walk: one loose sensor, and one worn gear, explain what they change. -/
import Derived.Test.YtcmjpcmdgnbbpaaPEx7
import Derived.Test.YtcmjpcmdgnbbpaaEChanged
import Derived.Test.YtcmjpcmdgnbbpaaESets
namespace Go.Proofs.Ytcmjpcmdgnbbpaa.PE
open Go.RowKit Go.Proofs.YtcmjpcmdgnbbpaaW.PrintWords Go.Proofs.YtcmjpcmdgnbbpaaW.PrintLast Go.Proofs.YtcmjpcmdgnbbpaaW.PrintMore
set_option linter.unusedVariables false
set_option linter.unusedSectionVars false
/-- has the level of this cell doubled? -/
def dbl (way a b : Nat) (i g : Nat) : Bool := decide (way = 0 ∧ i = a ∨ way = 1 ∧ g = b)
def nowRow (way a b G i : Nat) : List Int := (List.range G).map fun g => if dbl way a b i g = true then 20 else 10
def nowTab (way a b G S : Nat) : List (List Int) := (List.range S).map (nowRow way a b G)
def wasTab (G S : Nat) : List (List Int) := List.replicate S (List.replicate G 10)
theorem nowTab_get {way a b G S i : Nat} (h : i < S) : (nowTab way a b G S).getD i [] = nowRow way a b G i := by simp [nowTab, List.getD_eq_getElem?_getD, h]
theorem wasTab_get {G S i : Nat} (h : i < S) : (wasTab G S).getD i [] = List.replicate G 10 := by simp [wasTab, List.getD_eq_getElem?_getD, h]
theorem nowRow_get {way a b G i g : Nat} (h : g < G) : (nowRow way a b G i).getD g 0 = if dbl way a b i g = true then 20 else 10 := by simp [nowRow, List.getD_eq_getElem?_getD, h]
theorem nowRow_len (way a b G i : Nat) : (nowRow way a b G i).length = G := by simp [nowRow]
theorem all_of {xs : List Int} (h : ∀ x, x ∈ xs → x = 10 ∨ x = 20) : allB xs 0 1000000 = true := by
  unfold allB
  rw [List.all_eq_true]
  intro x hx
  rcases h x hx with rfl | rfl <;> decide
theorem lev_tab {l : List (List Int)} {G : Nat} (h1 : 1 ≤ l.length) (h8 : l.length ≤ 8) (g1 : 1 ≤ G) (g12 : G ≤ 12) (hr : ∀ row, row ∈ l → row.length = G ∧ ∀ x, x ∈ row → x = 10 ∨ x = 20) : levB l = true ∧ head0 l = G := by
  have hh : head0 l = G := by
    cases l with
    | nil => simp at h1
    | cons a t => exact (hr a (by simp)).1
  refine ⟨?_, hh⟩
  unfold levB
  rw [Bool.and_eq_true, (withinB_iff _ _ _).2 (by omega), Bool.not_eq_true', List.any_eq_false]
  refine ⟨rfl, fun row hm => ?_⟩
  obtain ⟨a1, a2⟩ := hr row hm
  have hh' : (l.headD []).length = G := hh
  rw [badR_rest (by rw [hh', a1]), (withinB_iff _ _ _).2 (by omega), all_of a2]
  simp
section
variable {S G a b : Nat} (hS2 : 2 ≤ S) (hS : S ≤ 8) (hG2 : 2 ≤ G) (hG : G ≤ 12) (ha : a < S) (hb : b < G) (way : Nat)
include hS2 hS hG2 hG
theorem tables_ok : tablesB (wasTab G S) (nowTab way a b G S) = true := by
  have l0 : (wasTab G S).length = S := by simp [wasTab]
  have l1 : (nowTab way a b G S).length = S := by simp [nowTab]
  obtain ⟨e0, h0⟩ := lev_tab (l := wasTab G S) (G := G) (by omega) (by omega) (by omega) hG (fun row hm => by
    have : row = List.replicate G 10 := List.eq_of_mem_replicate hm
    subst this
    exact ⟨by simp, fun x hx => .inl (List.eq_of_mem_replicate hx)⟩)
  obtain ⟨e1, h1⟩ := lev_tab (l := nowTab way a b G S) (G := G) (by omega) (by omega) (by omega) hG (fun row hm => by
    obtain ⟨i, _, rfl⟩ := List.mem_map.1 hm
    refine ⟨nowRow_len _ _ _ _ _, fun x hx => ?_⟩
    obtain ⟨g, _, rfl⟩ := List.mem_map.1 hx
    split
    · exact .inr rfl
    · exact .inl rfl)
  unfold tablesB
  rw [e0, e1, l0, l1, h0, h1]
  simp
theorem hit_eq (s g : Nat) (hs : s < S) (hg : g < G) : hitB2 (wasTab G S) (nowTab way a b G S) 50 s g = dbl way a b s g := by
  unfold hitB2
  rw [nowTab_get hs, wasTab_get hs, nowRow_get hg]
  have e : (List.replicate G (10 : Int)).getD g 0 = 10 := by simp [List.getD_eq_getElem?_getD, hg]
  rw [e]
  cases dbl way a b s g <;> decide +kernel
theorem cell_mem (k : Nat) (hk : k ≤ S) (c : Int × Int) : c ∈ pr (cellTo (wasTab G S) (nowTab way a b G S) 50 k) ↔ ∃ s g : Nat, s < k ∧ g < G ∧ dbl way a b s g = true ∧ c = ((s : Int), (g : Int)) := by
  induction k with
  | zero => simp [cellTo, pr]
  | succ k ih =>
    have hl : ((wasTab G S).getD k []).length = G := by rw [wasTab_get (by omega)]; simp
    simp only [cellTo, pr, List.map_append, List.mem_append]
    have ih' := ih (by omega)
    unfold pr at ih'
    rw [ih', hl]
    unfold rowTo
    simp only [List.map_map, List.mem_map, List.mem_filter, List.mem_range, Function.comp]
    constructor
    · rintro (⟨s, g, h1, h2, h3, rfl⟩ | ⟨g, ⟨h1, h2⟩, rfl⟩)
      · exact ⟨s, g, by omega, h2, h3, rfl⟩
      · rw [hit_eq hS2 hS hG2 hG way k g (by omega) h1] at h2
        exact ⟨k, g, by omega, h1, h2, rfl⟩
    · rintro ⟨s, g, h1, h2, h3, rfl⟩
      by_cases e : s = k
      · subst e
        exact .inr ⟨g, ⟨h2, by rw [hit_eq hS2 hS hG2 hG way s g (by omega) h2]; exact h3⟩, rfl⟩
      · exact .inl ⟨s, g, by omega, h2, h3, rfl⟩
/-! the cells ascend -/
omit hS2 hS hG2 hG in
theorem okFrom_append (s g : Int) : ∀ (xs ys : List (Int × Int)) (prev : Option (Int × Int)), okFrom s g prev xs = true → okFrom s g (match xs.getLast? with | none => prev | some q => some q) ys = true → okFrom s g prev (xs ++ ys) = true
  | [], ys, prev, _, h => h
  | c :: cs, ys, prev, h1, h2 => by
    simp only [okFrom, Bool.and_eq_true, List.cons_append] at h1 ⊢
    refine ⟨h1.1, okFrom_append s g cs ys (some c) h1.2 ?_⟩
    cases cs with
    | nil => simpa using h2
    | cons d t =>
      obtain ⟨q, hq⟩ : ∃ q, (d :: t).getLast? = some q := ⟨_, List.getLast?_eq_some_getLast (by simp)⟩
      rw [List.getLast?_cons_cons, hq] at h2
      rw [hq]; exact h2
omit hS2 hS hG2 hG in
theorem cmp_lt {p c : Int × Int} (h : p.1 < c.1 ∨ p.1 = c.1 ∧ p.2 < c.2) : decide (cmpL [p.1, p.2] [c.1, c.2] < 0) = true := by
  rw [decide_eq_true_eq]
  unfold cmpL cmpL cmpL
  unfold cmpI
  rcases h with h | ⟨h1, h2⟩
  · rw [if_pos h]; simp
  · rw [h1]; simp [h2]
theorem row_ok (s : Nat) (hs : s < S) : ∀ (gs : List Nat) (prev : Option (Int × Int)), (∀ g, g ∈ gs → g < G) → List.Pairwise (· < ·) gs → (∀ p, prev = some p → p.1 < s ∨ p.1 = s ∧ ∀ g, g ∈ gs → p.2 < (g : Int)) →
    okFrom (S : Int) (G : Int) prev (gs.map fun g : Nat => ((s : Int), (g : Int))) = true
  | [], prev, _, _, _ => rfl
  | g :: gs, prev, h1, h2, h3 => by
    have hg := h1 g (by simp)
    rw [List.pairwise_cons] at h2
    simp only [List.map_cons, okFrom, Bool.and_eq_true]
    refine ⟨⟨⟨(withinB_iff _ _ _).2 (by omega), (withinB_iff _ _ _).2 (by omega)⟩, ?_⟩, row_ok s hs gs _ (fun x hx => h1 x (by simp [hx])) h2.2 (fun p hp => ?_)⟩
    · cases prev with
      | none => rfl
      | some p =>
        refine cmp_lt (p := p) (c := ((s : Int), (g : Int))) ?_
        rcases h3 p rfl with h | ⟨h, h'⟩
        · exact .inl h
        · exact .inr ⟨h, h' g (by simp)⟩
    · cases hp
      exact .inr ⟨rfl, fun x hx => by have := h2.1 x hx; omega⟩
theorem cells_ok (k : Nat) (hk : k ≤ S) : okFrom (S : Int) (G : Int) none (pr (cellTo (wasTab G S) (nowTab way a b G S) 50 k)) = true := by
  induction k with
  | zero => rfl
  | succ k ih =>
    have hl : ((wasTab G S).getD k []).length = G := by rw [wasTab_get (by omega)]; simp
    simp only [cellTo, pr, List.map_append]
    have ih' := ih (by omega)
    refine okFrom_append _ _ _ _ _ ih' ?_
    rw [hl]
    unfold rowTo
    rw [List.map_map]
    refine row_ok hS2 hS hG2 hG k (by omega) _ _ (fun g hg => ?_) ?_ (fun p hp => .inl ?_)
    · exact List.mem_range.1 (List.mem_filter.1 hg).1
    · exact List.Pairwise.filter _ List.pairwise_lt_range
    · have hm : p ∈ pr (cellTo (wasTab G S) (nowTab way a b G S) 50 k) := by
        split at hp
        · cases hp
        · cases hp
          rename_i q hq
          exact List.mem_of_getLast? hq
      obtain ⟨s, g, h1, _, _, rfl⟩ := (cell_mem hS2 hS hG2 hG way k (by omega) p).1 hm
      show (s : Int) < k
      omega
theorem chg_eq : chg (wasTab G S) (nowTab way a b G S) 50 = (cellTo (wasTab G S) (nowTab way a b G S) 50 S, 0) := by
  have hw : withinB 50 0 10000 = true := by decide
  unfold chg
  rw [if_pos (tables_ok hS2 hS hG2 hG way), if_pos hw]
  simp [wasTab]
theorem ex_ok : okCells (S : Int) (G : Int) (pr (cellTo (wasTab G S) (nowTab way a b G S) 50 S)) = true := by
  unfold okCells
  rw [(withinB_iff _ _ _).2 (by omega), (withinB_iff _ _ _).2 (by omega), cells_ok hS2 hS hG2 hG way S (Nat.le_refl _)]; rfl
include ha in
theorem ex_way0 : exX (S : Int) (G : Int) (pr (cellTo (wasTab G S) (nowTab 0 a b G S) 50 S)) = ([(a : Int)], [], 0) := by
  unfold exX
  rw [if_pos (ex_ok hS2 hS hG2 hG 0)]
  have := loose_one hS hG2 hG ha (pr (cellTo (wasTab G S) (nowTab 0 a b G S) 50 S)) (fun c => by
    rw [cell_mem hS2 hS hG2 hG 0 S (Nat.le_refl _)]
    constructor
    · rintro ⟨s, g, h1, h2, h3, rfl⟩
      have : s = a := by simpa [dbl] using h3
      exact ⟨g, h2, by rw [this]⟩
    · rintro ⟨g, h1, rfl⟩
      exact ⟨a, g, ha, h1, by simp [dbl], rfl⟩)
  rw [this.1, this.2]
include hb in
theorem ex_way1 : exX (S : Int) (G : Int) (pr (cellTo (wasTab G S) (nowTab 1 a b G S) 50 S)) = ([], [(b : Int)], 0) := by
  unfold exX
  rw [if_pos (ex_ok hS2 hS hG2 hG 1)]
  have := worn_one hS2 hS hG hb (pr (cellTo (wasTab G S) (nowTab 1 a b G S) 50 S)) (fun c => by
    rw [cell_mem hS2 hS hG2 hG 1 S (Nat.le_refl _)]
    constructor
    · rintro ⟨s, g, h1, h2, h3, rfl⟩
      have : g = b := by simpa [dbl] using h3
      exact ⟨s, h1, by rw [this]⟩
    · rintro ⟨s, h1, rfl⟩
      exact ⟨s, b, h1, hb, by simp [dbl], rfl⟩)
  rw [this.1, this.2]
include ha hb
theorem loose_l2 (r : Bool) (i : Nat) (hi : i < S) (hway : way ≤ 1) (hnext : Ev (fun k => swashplatelaw08_HealthLoose.l1 k (a : Int) (b : Int) (way : Int) (wasTab G (i + 1)) (nowTab way a b G (i + 1)) ((i + 1 : Nat) : Int) (S : Int) (G : Int)) r) (d : Nat) :
    ∀ g, g + d = G → Ev (fun k => swashplatelaw08_HealthLoose.l2 k (a : Int) (b : Int) (way : Int) (wasTab G i) (nowTab way a b G i) (i : Int) (List.replicate g 10) ((List.range g).map fun g => if dbl way a b i g = true then (20 : Int) else 10) (g : Int) (S : Int) (G : Int)) r := by
  induction d with
  | zero =>
    intro g hg
    refine Ev.succ (Ev.congr (fun k => ?_) hnext)
    simp only [swashplatelaw08_HealthLoose.l2]
    rw [if_neg (by omega), if_pos (by simp [wasTab]; omega), if_pos (by simp [nowTab]; omega), w64s i S hi (by omega), show g = G by omega]
    have e1 : wasTab G i ++ [List.replicate G 10] = wasTab G (i + 1) := by simp [wasTab, List.replicate_succ']
    have e2 : nowTab way a b G i ++ [(List.range G).map fun g => if dbl way a b i g = true then (20 : Int) else 10] = nowTab way a b G (i + 1) := by simp [nowTab, nowRow, List.range_succ]
    rw [e1, e2]
  | succ d ih =>
    intro g hg
    refine Ev.succ (Ev.congr (fun k => ?_) (ih (g + 1) (by omega)))
    have c1 : (List.replicate g (10 : Int)).length < 17592186044416 := by simp; omega
    have c2 : ((List.range g).map fun g => if dbl way a b i g = true then (20 : Int) else 10).length < 17592186044416 := by simp; omega
    have e1 : List.replicate (g + 1) (10 : Int) = List.replicate g 10 ++ [10] := by simp [List.replicate_succ']
    have e2 : (List.range (g + 1)).map (fun g => if dbl way a b i g = true then (20 : Int) else 10) = (List.range g).map (fun g => if dbl way a b i g = true then (20 : Int) else 10) ++ [if dbl way a b i g = true then (20 : Int) else 10] := by simp [List.range_succ]
    simp only [swashplatelaw08_HealthLoose.l2, if_pos c1, if_pos c2]
    rw [if_pos (by omega), w64s g G (by omega) (by omega), e1, e2]
    by_cases hd : dbl way a b i g = true
    · rw [if_pos hd]
      unfold dbl at hd
      rw [decide_eq_true_eq] at hd
      by_cases h0 : (way : Int) = 0
      · have hia : (i : Int) = (a : Int) := by omega
        rw [if_pos h0, if_pos hia]
      · have h1 : (way : Int) = 1 := by omega
        have hgb : (g : Int) = (b : Int) := by omega
        rw [if_neg h0, if_pos h1, if_pos hgb]
    · rw [if_neg hd]
      unfold dbl at hd
      rw [decide_eq_true_eq] at hd
      by_cases h0 : (way : Int) = 0
      · have hia : ¬ (i : Int) = (a : Int) := by omega
        have h1 : ¬ (way : Int) = 1 := by omega
        rw [if_pos h0, if_neg hia, if_neg h1]
      · have h1 : (way : Int) = 1 := by omega
        have hgb : ¬ (g : Int) = (b : Int) := by omega
        rw [if_neg h0, if_pos h1, if_neg hgb]
theorem loose_l1 (r : Bool) (hway : way ≤ 1) (hend : Ev (fun k => swashplatelaw08_HealthLoose.l1 k (a : Int) (b : Int) (way : Int) (wasTab G S) (nowTab way a b G S) (S : Int) (S : Int) (G : Int)) r) (d : Nat) :
    ∀ i, i + d = S → Ev (fun k => swashplatelaw08_HealthLoose.l1 k (a : Int) (b : Int) (way : Int) (wasTab G i) (nowTab way a b G i) (i : Int) (S : Int) (G : Int)) r := by
  induction d with
  | zero => intro i hi; rw [show i = S by omega]; exact hend
  | succ d ih =>
    intro i hi
    have := loose_l2 hS2 hS hG2 hG ha hb way r i (by omega) hway (ih (i + 1) (by omega)) G 0 (by omega)
    refine Ev.succ (Ev.congr (fun k => ?_) this)
    simp only [swashplatelaw08_HealthLoose.l1]
    rw [if_pos (by omega)]; rfl
theorem sameInts_one (x : Int) : Ev (fun k => swashplatelaw08_sameInts.f k [x] [x]) true := by
  unfold swashplatelaw08_sameInts.f
  simp only [if_true]
  refine Ev.succ ?_
  simp only [swashplatelaw08_sameInts.l0]
  refine Ev.succ (Ev.some fun k => ?_)
  simp only [swashplatelaw08_sameInts.l0]
  have e : wrap64 (0 + 1) = 1 := by decide +kernel
  rw [e]
  simp
theorem loose_way1 : Ev (fun k => swashplatelaw08_HealthLoose.l0 k (a : Int) (b : Int) 1 (S : Int) (G : Int)) true := by
  have hend : Ev (fun k => swashplatelaw08_HealthLoose.l0 k (a : Int) (b : Int) 2 (S : Int) (G : Int)) true := by
    refine Ev.succ (Ev.some fun k => ?_)
    simp [swashplatelaw08_HealthLoose.l0, swashplatelaw08_works.f]
  have h1 : Ev (fun k => swashplatelaw08_HealthLoose.l1 k (a : Int) (b : Int) ((1 : Nat) : Int) (wasTab G S) (nowTab 1 a b G S) (S : Int) (S : Int) (G : Int)) true := by
    refine Ev.succ ?_
    simp only [swashplatelaw08_HealthLoose.l1]
    refine Ev.congr (f := fun k => (health_Changed.f k (wasTab G S) (nowTab 1 a b G S) 50).bind fun bt355 => ((health_Explain.f (S : Int) (G : Int) bt355.1).bind fun bt359 => (if bt355.2 = 0 then (swashplatelaw08_HealthLoose.j4 k (a : Int) (b : Int) 1 bt359.1 bt359.2.1 (bt359.2.2 != 0) (S : Int) (G : Int)) else (swashplatelaw08_HealthLoose.j4 k (a : Int) (b : Int) 1 bt359.1 bt359.2.1 true (S : Int) (G : Int))))) (fun k => by rw [if_neg (by omega)]; rfl) ?_
    refine Ev.bind (Changed_ev _ _ _) ?_
    rw [chg_eq hS2 hS hG2 hG 1]
    simp only [health_Explain.f, Option.bind_some, ex_way1 hS2 hS hG2 hG hb]
    refine Ev.succ ?_
    simp only [swashplatelaw08_HealthLoose.j4]
    refine Ev.congr (f := fun k => (swashplatelaw08_sameInts.f k [(b : Int)] [(b : Int)]).bind fun t377 => (if t377 = true then (if (([] : List Int).length : Int) > 0 then (some false) else (swashplatelaw08_HealthLoose.l0 k (a : Int) (b : Int) (wrap64 (1 + 1)) (S : Int) (G : Int))) else (some false))) (fun k => by simp) ?_
    refine Ev.bind (sameInts_one hS2 hS hG2 hG ha hb (b : Int)) ?_
    have e : wrap64 (1 + 1) = 2 := by decide +kernel
    rw [e]
    exact Ev.congr (fun k => by simp) hend
  have h0 := loose_l1 hS2 hS hG2 hG ha hb 1 true (by omega) h1 S 0 (by omega)
  refine Ev.succ (Ev.congr (fun k => ?_) h0)
  simp only [swashplatelaw08_HealthLoose.l0]
  rw [if_pos (by omega)]; rfl
theorem loose_way0 : Ev (fun k => swashplatelaw08_HealthLoose.l0 k (a : Int) (b : Int) 0 (S : Int) (G : Int)) true := by
  have h1 : Ev (fun k => swashplatelaw08_HealthLoose.l1 k (a : Int) (b : Int) ((0 : Nat) : Int) (wasTab G S) (nowTab 0 a b G S) (S : Int) (S : Int) (G : Int)) true := by
    refine Ev.succ ?_
    simp only [swashplatelaw08_HealthLoose.l1]
    refine Ev.congr (f := fun k => (health_Changed.f k (wasTab G S) (nowTab 0 a b G S) 50).bind fun bt355 => ((health_Explain.f (S : Int) (G : Int) bt355.1).bind fun bt359 => (if bt355.2 = 0 then (swashplatelaw08_HealthLoose.j4 k (a : Int) (b : Int) 0 bt359.1 bt359.2.1 (bt359.2.2 != 0) (S : Int) (G : Int)) else (swashplatelaw08_HealthLoose.j4 k (a : Int) (b : Int) 0 bt359.1 bt359.2.1 true (S : Int) (G : Int))))) (fun k => by rw [if_neg (by omega)]; rfl) ?_
    refine Ev.bind (Changed_ev _ _ _) ?_
    rw [chg_eq hS2 hS hG2 hG 0]
    simp only [health_Explain.f, Option.bind_some, ex_way0 hS2 hS hG2 hG ha]
    refine Ev.succ ?_
    simp only [swashplatelaw08_HealthLoose.j4]
    refine Ev.congr (f := fun k => (swashplatelaw08_sameInts.f k [(a : Int)] [(a : Int)]).bind fun t377 => (if t377 = true then (if (([] : List Int).length : Int) > 0 then (some false) else (swashplatelaw08_HealthLoose.l0 k (a : Int) (b : Int) (wrap64 (0 + 1)) (S : Int) (G : Int))) else (some false))) (fun k => by simp) ?_
    refine Ev.bind (sameInts_one hS2 hS hG2 hG ha hb (a : Int)) ?_
    have e : wrap64 (0 + 1) = 1 := by decide +kernel
    rw [e]
    exact Ev.congr (fun k => by simp) (loose_way1 hS2 hS hG2 hG ha hb)
  have h0 := loose_l1 hS2 hS hG2 hG ha hb 0 true (by omega) h1 S 0 (by omega)
  refine Ev.succ (Ev.congr (fun k => ?_) h0)
  simp only [swashplatelaw08_HealthLoose.l0]
  rw [if_pos (by omega)]; rfl
end
theorem loose_bad (a b S G : Int) : Ev (fun k => swashplatelaw08_HealthLoose.j0 k a b true S G) true := Ev.succ (Ev.some fun k => rfl)
theorem HealthLoose (S G a b : Int) : ∃ k, swashplatelaw08_HealthLoose.f k S G a b = some true := by
  refine Ev.rounds ?_
  unfold swashplatelaw08_HealthLoose.f
  by_cases h1 : S < 2
  · simp only [if_pos h1]; exact loose_bad _ _ _ _
  by_cases h2 : S > 8
  · simp only [if_neg h1, if_pos h2]; exact loose_bad _ _ _ _
  by_cases h3 : G < 2
  · simp only [if_neg h1, if_neg h2, if_pos h3]; exact loose_bad _ _ _ _
  by_cases h4 : G > 12
  · simp only [if_neg h1, if_neg h2, if_neg h3, if_pos h4]; exact loose_bad _ _ _ _
  by_cases h5 : a < 0
  · simp only [if_neg h1, if_neg h2, if_neg h3, if_neg h4, if_pos h5]; exact loose_bad _ _ _ _
  by_cases h6 : a ≥ S
  · simp only [if_neg h1, if_neg h2, if_neg h3, if_neg h4, if_neg h5, if_pos h6]; exact loose_bad _ _ _ _
  by_cases h7 : b < 0
  · simp only [if_neg h1, if_neg h2, if_neg h3, if_neg h4, if_neg h5, if_neg h6, if_pos h7]; exact loose_bad _ _ _ _
  simp only [if_neg h1, if_neg h2, if_neg h3, if_neg h4, if_neg h5, if_neg h6, if_neg h7]
  by_cases h8 : b ≥ G
  · rw [decide_eq_true h8]; exact loose_bad _ _ _ _
  · rw [decide_eq_false h8]
    obtain ⟨S, rfl⟩ := Int.eq_ofNat_of_zero_le (show 0 ≤ S by omega)
    obtain ⟨G, rfl⟩ := Int.eq_ofNat_of_zero_le (show 0 ≤ G by omega)
    obtain ⟨a, rfl⟩ := Int.eq_ofNat_of_zero_le (show 0 ≤ a by omega)
    obtain ⟨b, rfl⟩ := Int.eq_ofNat_of_zero_le (show 0 ≤ b by omega)
    exact Ev.succ (Ev.congr (fun k => by simp [swashplatelaw08_HealthLoose.j0]) (loose_way0 (S := S) (G := G) (a := a) (b := b) (by omega) (by omega) (by omega) (by omega) (by omega) (by omega)))
theorem loose_walk (S G : Int) (a b : Int) (w : World) : Calls Try.prog 7 #[.agg #[.int .i64 S, .int .i64 G], .int .i64 a, .int .i64 b] w fun e w' => e = .returned (.bool true) ∧ Below w.heap.size w w' := by
  obtain ⟨k, h⟩ := HealthLoose S G a b
  exact swashplatelaw08_HealthLoose.calls k S G a b true w h
end Go.Proofs.Ytcmjpcmdgnbbpaa.PE
