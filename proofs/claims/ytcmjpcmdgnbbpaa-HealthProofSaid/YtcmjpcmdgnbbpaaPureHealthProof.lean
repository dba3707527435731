/- HealthProof in plain numbers, and its walk: as many pairs as the smallest explanation has members; what is certain lies in each explanation with as few. -/
import Derived.Test.YtcmjpcmdgnbbpaaPMx4
import Derived.Test.YtcmjpcmdgnbbpaaMRef
namespace Go.Proofs.Ytcmjpcmdgnbbpaa.PE
set_option linter.unusedVariables false
open Go.RowKit Go.Proofs.YtcmjpcmdgnbbpaaW.PrintWords Go.Proofs.YtcmjpcmdgnbbpaaW.PrintLast Go.Proofs.YtcmjpcmdgnbbpaaW.PrintMore
theorem w64b (i n : Nat) (h : i < n) (hn : n ≤ 9223372036854775807) : wrap64 ((i : Int) + 1) = ((i + 1 : Nat) : Int) := by unfold wrap64; omega
theorem hasB_l0 (xs : List Int) (v : Int) (hn : xs.length ≤ 9223372036854775807) (d : Nat) : ∀ i : Nat, i + d = xs.length → Ev (fun k => swashplateref08_has.l0 k xs v (i : Int)) ((xs.drop i).any fun y => y == v) := by
  induction d with
  | zero =>
    intro i hi
    rw [List.drop_eq_nil_of_le (by omega)]
    refine Ev.succ (Ev.some fun k => ?_)
    simp only [swashplateref08_has.l0]
    rw [if_neg (by omega)]; rfl
  | succ d ih =>
    intro i hi
    have hx : xs[i]? = some (xs.getD i 0) := by rw [List.getD_eq_getElem?_getD, List.getElem?_eq_getElem (by omega)]; rfl
    rw [drop_of hx, List.any_cons]
    by_cases he : xs.getD i 0 = v
    · rw [show (xs.getD i 0 == v) = true by simpa using he, Bool.true_or]
      refine Ev.succ (Ev.some fun k => ?_)
      simp only [swashplateref08_has.l0, rd_nat]
      rw [if_pos (by omega), if_pos (by omega), if_pos he]
    · rw [show (xs.getD i 0 == v) = false by simpa using he, Bool.false_or]
      refine Ev.succ (Ev.congr (fun k => ?_) (ih (i + 1) (by omega)))
      simp only [swashplateref08_has.l0, rd_nat]
      rw [if_pos (by omega), if_pos (by omega), if_neg he, w64b i xs.length (by omega) hn]
theorem hasB_ev (xs : List Int) (v : Int) (hn : xs.length ≤ 9223372036854775807) : Ev (fun k => swashplateref08_has.f k xs v) (xs.any fun y => y == v) := by
  have := hasB_l0 xs v hn xs.length 0 (by omega)
  rw [List.drop_zero] at this
  exact this
/-- do these sensors and gears explain these cells? -/
def explB (l : List S69) (X Y : List Int) : Bool := l.all fun c => X.any (fun y => y == c.f0) || Y.any (fun y => y == c.f1)
theorem Explains_l0 (l : List S69) (X Y : List Int) (hl : l.length ≤ 9223372036854775807) (hX : X.length ≤ 9223372036854775807) (hY : Y.length ≤ 9223372036854775807) (d : Nat) : ∀ i : Nat, i + d = l.length → Ev (fun k => swashplateref08_Explains.l0 k l X Y (i : Int)) (explB (l.drop i) X Y) := by
  induction d with
  | zero =>
    intro i hi
    rw [List.drop_eq_nil_of_le (by omega)]
    refine Ev.succ (Ev.some fun k => ?_)
    simp only [swashplateref08_Explains.l0]
    rw [if_neg (by omega)]; rfl
  | succ d ih =>
    intro i hi
    have hx : l[i]? = some (l.getD i z69) := by rw [List.getD_eq_getElem?_getD, List.getElem?_eq_getElem (by omega)]; rfl
    have ih' := ih (i + 1) (by omega)
    rw [drop_of hx]
    simp only [explB, List.all_cons]
    refine Ev.succ ?_
    simp only [swashplateref08_Explains.l0, rdT_nat]
    refine Ev.congr (f := fun k => (swashplateref08_has.f k X ((l.getD i z69).f0)).bind fun t332 => (if t332 = true then (swashplateref08_Explains.l0 k l X Y ((i + 1 : Nat) : Int)) else ((swashplateref08_has.f k Y ((l.getD i z69).f1)).bind fun t334 => (if t334 = true then (swashplateref08_Explains.l0 k l X Y ((i + 1 : Nat) : Int)) else (some false))))) (fun k => ?_) ?_
    · rw [if_pos (by omega), if_pos (by omega), w64b i l.length (by omega) hl]
    · refine Ev.bind (hasB_ev X _ hX) ?_
      cases h1 : X.any fun y => y == (l.getD i z69).f0 with
      | true => simpa [explB] using ih'
      | false =>
        simp only [Bool.false_eq_true, if_false, Bool.false_or]
        refine Ev.bind (hasB_ev Y _ hY) ?_
        cases h2 : Y.any fun y => y == (l.getD i z69).f1 with
        | true => simpa [explB] using ih'
        | false => exact Ev.some fun k => by simp
theorem Explains_ev (l : List S69) (X Y : List Int) (hl : l.length ≤ 9223372036854775807) (hX : X.length ≤ 9223372036854775807) (hY : Y.length ≤ 9223372036854775807) : Ev (fun k => swashplateref08_Explains.f k l X Y) (explB l X Y) := by
  have := Explains_l0 l X Y hl hX hY l.length 0 (by omega)
  rw [List.drop_zero] at this
  exact this
theorem explB_iff {l : List S69} {X Y : List Int} : explB l X Y = true ↔ ∀ c, c ∈ l → c.f0 ∈ X ∨ c.f1 ∈ Y := by
  simp [explB, List.all_eq_true]
/-- has the first all numbers of the second? -/
def allIn (X Y : List Int) : Bool := Y.all fun y => X.any fun x => x == y
theorem allIn_iff {X Y : List Int} : allIn X Y = true ↔ ∀ y, y ∈ Y → y ∈ X := by
  simp [allIn, List.all_eq_true]
theorem all_l1 (X Y : List Int) (hX : X.length ≤ 9223372036854775807) (j : Nat) (hj : j < Y.length) (d : Nat) : ∀ (i : Nat) (b : Bool), i + d = X.length → ∀ r, (Ev (fun k => if (b || (X.drop i).any fun x => x == Y.getD j 0) = true then swashplatelaw08_all.l0 k X Y (wrap64 ((j : Int) + 1)) else some false) r) →
    Ev (fun k => swashplatelaw08_all.l1 k X Y (j : Int) b (i : Int)) r := by
  induction d with
  | zero =>
    intro i b hi r h
    rw [List.drop_eq_nil_of_le (by omega)] at h
    refine Ev.succ (Ev.congr (fun k => ?_) h)
    simp only [swashplatelaw08_all.l1, List.any_nil, Bool.or_false]
    rw [if_neg (by omega)]
  | succ d ih =>
    intro i b hi r h
    have hx : X[i]? = some (X.getD i 0) := by rw [List.getD_eq_getElem?_getD, List.getElem?_eq_getElem (by omega)]; rfl
    rw [drop_of hx, List.any_cons] at h
    cases b with
    | true =>
      refine Ev.succ (Ev.congr (fun k => ?_) (ih (i + 1) true (by omega) r (by simpa using h)))
      simp only [swashplatelaw08_all.l1]
      rw [if_pos (by omega), if_pos trivial, w64b i X.length (by omega) hX]
    | false =>
      refine Ev.succ (Ev.congr (fun k => ?_) (ih (i + 1) (X.getD i 0 == Y.getD j 0) (by omega) r (by rw [Bool.false_or] at h; exact h)))
      simp only [swashplatelaw08_all.l1, rd_nat, Bool.false_eq_true, if_false]
      rw [if_pos (by omega), if_pos (by omega), if_pos (by omega), if_pos (by omega), w64b i X.length (by omega) hX]
theorem all_l0 (X Y : List Int) (hX : X.length ≤ 9223372036854775807) (hY : Y.length ≤ 9223372036854775807) (d : Nat) : ∀ j : Nat, j + d = Y.length → Ev (fun k => swashplatelaw08_all.l0 k X Y (j : Int)) (allIn X (Y.drop j)) := by
  induction d with
  | zero =>
    intro j hj
    rw [List.drop_eq_nil_of_le (by omega)]
    refine Ev.succ (Ev.some fun k => ?_)
    simp only [swashplatelaw08_all.l0]
    rw [if_neg (by omega)]; rfl
  | succ d ih =>
    intro j hj
    have hy : Y[j]? = some (Y.getD j 0) := by rw [List.getD_eq_getElem?_getD, List.getElem?_eq_getElem (by omega)]; rfl
    rw [drop_of hy]
    have ih' := ih (j + 1) (by omega)
    refine Ev.succ (Ev.congr (f := fun k => swashplatelaw08_all.l1 k X Y (j : Int) false ((0 : Nat) : Int)) (fun k => ?_) (all_l1 X Y hX j (by omega) X.length 0 false (by omega) _ ?_))
    · simp only [swashplatelaw08_all.l0]
      rw [if_pos (by omega)]; rfl
    · simp only [allIn, List.all_cons, List.drop_zero, Bool.false_or]
      cases h : X.any fun x => x == Y.getD j 0 with
      | true =>
        simp only [if_true, Bool.true_and]
        rw [w64b j Y.length (by omega) hY]
        exact ih'
      | false => exact Ev.some fun k => by simp
theorem all_ev (X Y : List Int) (hX : X.length ≤ 9223372036854775807) (hY : Y.length ≤ 9223372036854775807) : Ev (fun k => swashplatelaw08_all.f k X Y) (allIn X Y) := by
  have := all_l0 X Y hX hY Y.length 0 (by omega)
  rw [List.drop_zero] at this
  exact this
theorem ascends_l0 (X : List Int) (hX : X.length ≤ 9223372036854775807) (d : Nat) : ∀ j : Nat, 1 ≤ j → j + d = X.length + 1 → ∃ b, Ev (fun k => swashplatelaw08_ascends.l0 k X (j : Int)) b := by
  induction d with
  | zero =>
    intro j h1 hj
    refine ⟨true, Ev.succ (Ev.some fun k => ?_)⟩
    simp only [swashplatelaw08_ascends.l0]
    rw [if_neg (by omega)]
  | succ d ih =>
    intro j h1 hj
    by_cases hlt : j < X.length
    · have e : wrap64 ((j : Int) - 1) = ((j - 1 : Nat) : Int) := by unfold wrap64; omega
      by_cases hle : X.getD j 0 ≤ X.getD (j - 1) 0
      · refine ⟨false, Ev.succ (Ev.some fun k => ?_)⟩
        simp only [swashplatelaw08_ascends.l0, e, rd_nat]
        rw [if_pos (by omega), if_pos (by omega), if_pos (by omega), if_pos (by omega), if_pos hle]
      · obtain ⟨b, hb⟩ := ih (j + 1) (by omega) (by omega)
        refine ⟨b, Ev.succ (Ev.congr (fun k => ?_) hb)⟩
        simp only [swashplatelaw08_ascends.l0, e, rd_nat]
        rw [if_pos (by omega), if_pos (by omega), if_pos (by omega), if_pos (by omega), if_neg hle, w64b j X.length hlt hX]
    · refine ⟨true, Ev.succ (Ev.some fun k => ?_)⟩
      simp only [swashplatelaw08_ascends.l0]
      rw [if_neg (by omega)]
theorem ascends_ev (X : List Int) (hX : X.length ≤ 9223372036854775807) : ∃ b, Ev (fun k => swashplatelaw08_ascends.f k X) b := ascends_l0 X hX X.length 1 (by omega) (by omega)
section
variable (l ps : List S69) (cS cG o0 o1 : List Int) (hl : l.length ≤ 9223372036854775807) (hps : ps.length ≤ 1000000) (hS : cS.length ≤ 1000000) (hG : cG.length ≤ 1000000) (h0 : o0.length ≤ 1152921504606846976) (h1 : o1.length ≤ 1152921504606846976)
/-- is this pair a cell? -/
def isCell (l : List S69) (p : S69) : Bool := l.any fun c => c.f0 == p.f0 && c.f1 == p.f1
include h0 h1 hps hS hG in
theorem j4_ev (b : Bool) (hge : b = false → ps.length ≤ o0.length + o1.length) (heq : b = false → o0.length + o1.length = ps.length → allIn o0 cS = true ∧ allIn o1 cG = true) :
    Ev (fun k => swashplatelaw08_HealthProof.j4 k ps cS cG b o0 o1) true := by
  refine Ev.succ ?_
  simp only [swashplatelaw08_HealthProof.j4]
  cases b with
  | true => exact Ev.some fun k => rfl
  | false =>
    simp only [Bool.false_eq_true, if_false]
    have hge := hge rfl
    have heq := heq rfl
    have e : wrap64 ((o0.length : Int) + (o1.length : Int)) = ((o0.length + o1.length : Nat) : Int) := by unfold wrap64; omega
    simp only [e]
    by_cases hgt : ps.length < o0.length + o1.length
    · refine Ev.some fun k => ?_
      rw [if_pos (by omega), if_pos (by omega)]; rfl
    · obtain ⟨a1, a2⟩ := heq (by omega)
      have b1 := all_ev o0 cS (by omega) (by omega)
      have b2 := all_ev o1 cG (by omega) (by omega)
      rw [a1] at b1
      rw [a2] at b2
      refine Ev.congr (f := fun k => (swashplatelaw08_all.f k o0 cS).bind fun t375 => (if t375 = true then ((swashplatelaw08_all.f k o1 cG).bind fun t376 => (if t376 = true then ((swashplatelaw08_works.f).bind fun t377 => (some t377)) else (some false))) else (some false))) (fun k => ?_) ?_
      · rw [if_pos (by omega), if_neg (by omega)]
      · refine Ev.bind b1 ?_
        simp only [if_true]
        refine Ev.bind b2 ?_
        exact Ev.some fun k => rfl
include hl h0 h1 hps hS hG in
theorem fin_ev (hge : explB l o0 o1 = true → ps.length ≤ o0.length + o1.length) (heq : explB l o0 o1 = true → o0.length + o1.length = ps.length → allIn o0 cS = true ∧ allIn o1 cG = true) :
    Ev (fun k => (swashplateref08_Explains.f k l o0 o1).bind fun t370 => (if t370 = true then ((swashplatelaw08_ascends.f k o0).bind fun t371 => (if t371 = true then ((swashplatelaw08_ascends.f k o1).bind fun t372 => (swashplatelaw08_HealthProof.j4 k ps cS cG (!t372) o0 o1)) else (swashplatelaw08_HealthProof.j4 k ps cS cG true o0 o1))) else (swashplatelaw08_HealthProof.j4 k ps cS cG true o0 o1))) true := by
  have hj := j4_ev ps cS cG o0 o1 hps hS hG h0 h1 true (fun h => by cases h) (fun h => by cases h)
  refine Ev.bind (Explains_ev l o0 o1 hl (by omega) (by omega)) ?_
  cases he : explB l o0 o1 with
  | false => simpa using hj
  | true =>
    simp only [if_true]
    obtain ⟨b1, e1⟩ := ascends_ev o0 (by omega)
    refine Ev.bind e1 ?_
    cases b1 with
    | false => simpa using hj
    | true =>
      simp only [if_true]
      obtain ⟨b2, e2⟩ := ascends_ev o1 (by omega)
      refine Ev.bind e2 ?_
      exact j4_ev ps cS cG o0 o1 hps hS hG h0 h1 (!b2) (fun _ => hge he) (fun _ => heq he)
include hl in
theorem pl1 (i : Nat) (hi : i < ps.length) (d : Nat) : ∀ (j : Nat) (b : Bool), j + d = l.length → ∀ r, Ev (fun k => swashplatelaw08_HealthProof.l2 k l ps cS cG (i : Int) (b || isCell (l.drop j) (ps.getD i z69)) 0 o0 o1) r →
    Ev (fun k => swashplatelaw08_HealthProof.l1 k l ps cS cG (i : Int) b (j : Int) o0 o1) r := by
  induction d with
  | zero =>
    intro j b hj r h
    rw [List.drop_eq_nil_of_le (by omega)] at h
    refine Ev.succ (Ev.congr (fun k => ?_) h)
    simp only [swashplatelaw08_HealthProof.l1, isCell, List.any_nil, Bool.or_false]
    rw [if_neg (by omega)]
  | succ d ih =>
    intro j b hj r h
    have hx : l[j]? = some (l.getD j z69) := by rw [List.getD_eq_getElem?_getD, List.getElem?_eq_getElem (by omega)]; rfl
    rw [drop_of hx] at h
    simp only [isCell, List.any_cons] at h
    cases b with
    | true =>
      refine Ev.succ (Ev.congr (fun k => ?_) (ih (j + 1) true (by omega) r (by simpa [isCell] using h)))
      simp only [swashplatelaw08_HealthProof.l1]
      rw [if_pos (by omega), if_pos trivial, w64b j l.length (by omega) hl]
    | false =>
      refine Ev.succ (Ev.congr (fun k => ?_) (ih (j + 1) ((l.getD j z69).f0 == (ps.getD i z69).f0 && (l.getD j z69).f1 == (ps.getD i z69).f1) (by omega) r (by rw [Bool.false_or] at h; exact h)))
      simp only [swashplatelaw08_HealthProof.l1, rdT_nat, Bool.false_eq_true, if_false]
      rw [if_pos (by omega), if_pos (by omega), if_pos (by omega), if_pos (by omega), w64b j l.length (by omega) hl]
include hps in
theorem pl2 (i : Nat) (hi : i < ps.length) (hd : ∀ j, j < i → (ps.getD j z69).f0 ≠ (ps.getD i z69).f0 ∧ (ps.getD j z69).f1 ≠ (ps.getD i z69).f1) (d : Nat) : ∀ (j : Nat), j + d = i → ∀ r, Ev (fun k => swashplatelaw08_HealthProof.l0 k l ps cS cG ((i + 1 : Nat) : Int) o0 o1) r →
    Ev (fun k => swashplatelaw08_HealthProof.l2 k l ps cS cG (i : Int) true (j : Int) o0 o1) r := by
  induction d with
  | zero =>
    intro j hj r h
    refine Ev.succ (Ev.congr (fun k => ?_) h)
    simp only [swashplatelaw08_HealthProof.l2]
    rw [if_neg (by omega), if_pos trivial, w64b i ps.length hi (by omega)]
  | succ d ih =>
    intro j hj r h
    obtain ⟨n1, n2⟩ := hd j (by omega)
    refine Ev.succ (Ev.congr (fun k => ?_) (ih (j + 1) (by omega) r h))
    simp only [swashplatelaw08_HealthProof.l2, rdT_nat]
    rw [if_pos (by omega), if_pos trivial, if_pos (by omega), if_pos (by omega), if_pos (by omega), if_pos (by omega), if_neg n1, w64b j ps.length (by omega) (by omega), show ((ps.getD j z69).f1 != (ps.getD i z69).f1) = true by simpa using n2]
include hl hps in
theorem pl0 (hc : ∀ i, i < ps.length → isCell l (ps.getD i z69) = true) (hd : ∀ j i, j < i → i < ps.length → (ps.getD j z69).f0 ≠ (ps.getD i z69).f0 ∧ (ps.getD j z69).f1 ≠ (ps.getD i z69).f1) (r : Bool)
    (hf : Ev (fun k => (swashplateref08_Explains.f k l o0 o1).bind fun t370 => (if t370 = true then ((swashplatelaw08_ascends.f k o0).bind fun t371 => (if t371 = true then ((swashplatelaw08_ascends.f k o1).bind fun t372 => (swashplatelaw08_HealthProof.j4 k ps cS cG (!t372) o0 o1)) else (swashplatelaw08_HealthProof.j4 k ps cS cG true o0 o1))) else (swashplatelaw08_HealthProof.j4 k ps cS cG true o0 o1))) r) (d : Nat) :
    ∀ i : Nat, i + d = ps.length → Ev (fun k => swashplatelaw08_HealthProof.l0 k l ps cS cG (i : Int) o0 o1) r := by
  induction d with
  | zero =>
    intro i hi
    refine Ev.succ (Ev.congr (fun k => ?_) hf)
    simp only [swashplatelaw08_HealthProof.l0]
    rw [if_neg (by omega)]
  | succ d ih =>
    intro i hi
    have e2 := pl2 l ps cS cG o0 o1 hps i (by omega) (fun j hj => hd j i hj (by omega)) i 0 (by omega) r (ih (i + 1) (by omega))
    have e1 := pl1 l ps cS cG o0 o1 hl i (by omega) l.length 0 false (by omega) r (by rw [List.drop_zero, hc i (by omega), Bool.false_or]; exact e2)
    refine Ev.succ (Ev.congr (fun k => ?_) e1)
    simp only [swashplatelaw08_HealthProof.l0]
    rw [if_pos (by omega)]; rfl
end
theorem mask_of (p : Nat → Bool) (n : Nat) : ∃ l, l < 2 ^ n ∧ ∀ i, i < n → l.testBit i = p i := by
  induction n with
  | zero => exact ⟨0, by simp, fun i hi => by omega⟩
  | succ n ih =>
    obtain ⟨l, h1, h2⟩ := ih
    cases hp : p n with
    | false =>
      refine ⟨l, Nat.lt_trans h1 (Nat.pow_lt_pow_right (by omega) (by omega)), fun i hi => ?_⟩
      by_cases e : i = n
      · subst e; rw [hp]; exact testBit_lt h1 i (Nat.le_refl _)
      · exact h2 i (by omega)
    | true =>
      refine ⟨l ||| 2 ^ n, Nat.or_lt_two_pow (Nat.lt_trans h1 (Nat.pow_lt_pow_right (by omega) (by omega))) (Nat.pow_lt_pow_right (by omega) (by omega)), fun i hi => ?_⟩
      rw [or_bit]
      by_cases e : i = n
      · subst e; rw [hp]; simp
      · rw [h2 i (by omega), decide_eq_false (by omega), Bool.or_false]
theorem com_mem {sel : Bool} {bys ls : List Nat} {v : Int} (h : v ∈ comL sel bys ls) : ∀ x, x ∈ ls → v ∈ fieldX sel bys x := by
  intro x hx
  unfold comL comTo at h
  have h2 := (List.mem_filter.1 h).2
  cases hc : (fieldX sel bys x).any fun y => v == y with
  | true =>
    obtain ⟨y, hy, e⟩ := List.any_eq_true.1 hc
    rw [beq_iff_eq] at e
    subst e
    exact hy
  | false =>
    exfalso
    have h3 : (ls.any fun l => !((fieldX sel bys l).any fun y => v == y)) = true := List.any_eq_true.2 ⟨x, hx, by rw [hc]; rfl⟩
    rw [h3] at h2
    cases h2
theorem core_adj {S G : Nat} (hS : 1 ≤ S ∧ S ≤ 8) (hG : 1 ≤ G ∧ G ≤ 12) {l : List S69} (hok : okCells (S : Int) (G : Int) (pr l) = true) : Adj S G (bysX (S : Int) (pr l)) := adj_of hok hG.2
theorem core_bit {S G : Nat} (hS : 1 ≤ S ∧ S ≤ 8) (hG : 1 ≤ G ∧ G ≤ 12) {l : List S69} (hok : okCells (S : Int) (G : Int) (pr l) = true) (s g : Nat) (hs : s < S) : ((bysX (S : Int) (pr l)).getD s 0).testBit g = true ↔ ∃ c, c ∈ l ∧ c.f0 = (s : Int) ∧ c.f1 = (g : Int) := by
  have hsm := ok_small hok
  unfold bysX
  rw [bys_bit _ _ _ hsm _ (Nat.le_refl _) _ _ hs, List.take_length]
  simp only [pr, List.mem_map, Prod.mk.injEq]
theorem core_cell {S G : Nat} (hS : 1 ≤ S ∧ S ≤ 8) (hG : 1 ≤ G ∧ G ≤ 12) {l : List S69} (hok : okCells (S : Int) (G : Int) (pr l) = true) (c : S69) (hc : c ∈ l) : ∃ s g : Nat, s < S ∧ g < G ∧ c.f0 = (s : Int) ∧ c.f1 = (g : Int) := by
  obtain ⟨a, b, e, ha, hb⟩ := ok_small hok (c.f0, c.f1) (List.mem_map.2 ⟨c, hc, rfl⟩)
  exact ⟨a, b, by simpa using ha, by simpa using hb, (Prod.mk.inj e).1, (Prod.mk.inj e).2⟩
/-- a set of sensors and what then has to be worn explain all cells -/
theorem core_cover {S G : Nat} (hS : 1 ≤ S ∧ S ≤ 8) (hG : 1 ≤ G ∧ G ≤ 12) {l : List S69} (hok : okCells (S : Int) (G : Int) (pr l) = true) (x s g : Nat) (hs : s < S) (hg : g < G) (hb : ((bysX (S : Int) (pr l)).getD s 0).testBit g = true) : (s : Int) ∈ mem x ∨ (g : Int) ∈ mem (wornS (bysX (S : Int) (pr l)) x) := by
  cases hx : x.testBit s with
  | true => exact .inl ((mem_iff _ _).2 ⟨s, by omega, hx, rfl⟩)
  | false => exact .inr ((mem_iff _ _).2 ⟨g, by omega, (worn_bit_iff _ _ _).2 ⟨s, by rw [(core_adj hS hG hok).len]; exact hs, hx, hb⟩, rfl⟩)
theorem core_expl {S G : Nat} (hS : 1 ≤ S ∧ S ≤ 8) (hG : 1 ≤ G ∧ G ≤ 12) {l : List S69} (hok : okCells (S : Int) (G : Int) (pr l) = true) (x : Nat) : explB l (mem x) (mem (wornS (bysX (S : Int) (pr l)) x)) = true := by
  rw [explB_iff]
  intro c hc
  obtain ⟨s, g, hs, hg, e0, e1⟩ := core_cell hS hG hok c hc
  rw [e0, e1]
  exact core_cover hS hG hok x s g hs hg ((core_bit hS hG hok s g hs).2 ⟨c, hc, e0, e1⟩)
theorem core_le {S G : Nat} (hS : 1 ≤ S ∧ S ≤ 8) (hG : 1 ≤ G ∧ G ≤ 12) {l : List S69} (hok : okCells (S : Int) (G : Int) (pr l) = true) (X Y : List Int) (h : explB l X Y = true) : (used (runTo (bysX (S : Int) (pr l)) G S)).length ≤ X.length + Y.length := by
  obtain ⟨T, hi⟩ := run_inv (core_adj hS hG hok) S (Nat.le_refl _)
  refine hi.le X Y fun s g hs hg hb => ?_
  obtain ⟨c, hc, e0, e1⟩ := (core_bit hS hG hok s g hs).1 hb
  have := explB_iff.1 h c hc
  rwa [e0, e1] at this
theorem core_loose {S G : Nat} (hS : 1 ≤ S ∧ S ≤ 8) (hG : 1 ≤ G ∧ G ≤ 12) {l : List S69} (hok : okCells (S : Int) (G : Int) (pr l) = true) : looseX (S : Int) (pr l) ∈ setsX (S : Int) (pr l) := by
  have hset : setsX (S : Int) (pr l) = explTo (szX (bysX S (pr l))) (2 ^ S) := by unfold setsX; rw [Int.toNat_natCast]
  have hpos : 1 ≤ (setsX (S : Int) (pr l)).length := by
    obtain ⟨j, hj⟩ : ∃ j, 2 ^ S = j + 1 := ⟨2 ^ S - 1, by have := Nat.two_pow_pos S; omega⟩
    rw [hset, hj]; exact explTo_pos _ _
  obtain ⟨l0, lt, hls⟩ : ∃ l0 lt, setsX (S : Int) (pr l) = l0 :: lt := by
    cases h : setsX (S : Int) (pr l) with
    | nil => rw [h] at hpos; simp at hpos
    | cons a b => exact ⟨a, b, rfl⟩
  have e : looseX (S : Int) (pr l) = minX (setsX (S : Int) (pr l)) := rfl
  rw [e, hls]; exact minX_mem _ _
theorem core_min {S G : Nat} (hS : 1 ≤ S ∧ S ≤ 8) (hG : 1 ≤ G ∧ G ≤ 12) {l : List S69} (hok : okCells (S : Int) (G : Int) (pr l) = true) : (∀ x, x < 2 ^ S → szX (bysX (S : Int) (pr l)) (looseX (S : Int) (pr l)) ≤ szX (bysX (S : Int) (pr l)) x) ∧ ∀ x, x < 2 ^ S → szX (bysX (S : Int) (pr l)) x = szX (bysX (S : Int) (pr l)) (looseX (S : Int) (pr l)) → x ∈ setsX (S : Int) (pr l) := by
  have hset : setsX (S : Int) (pr l) = explTo (szX (bysX S (pr l))) (2 ^ S) := by unfold setsX; rw [Int.toNat_natCast]
  have h := core_loose hS hG hok
  rw [hset] at h ⊢
  exact explTo_mem _ _ _ h
theorem core_size {S G : Nat} (hS : 1 ≤ S ∧ S ≤ 8) (hG : 1 ≤ G ∧ G ≤ 12) {l : List S69} (hok : okCells (S : Int) (G : Int) (pr l) = true) : (used (runTo (bysX (S : Int) (pr l)) G S)).length = szX (bysX (S : Int) (pr l)) (looseX (S : Int) (pr l)) := by
  have ha := core_adj hS hG hok
  obtain ⟨T, hi⟩ := run_inv ha S (Nat.le_refl _)
  refine Nat.le_antisymm ?_ ?_
  · have := core_le hS hG hok _ _ (core_expl hS hG hok (looseX (S : Int) (pr l)))
    exact this
  · obtain ⟨x, hx1, hx2⟩ := mask_of (outB (runTo (bysX (S : Int) (pr l)) G S) T) S
    refine Nat.le_trans ((core_min hS hG hok).1 x hx1) ?_
    exact hi.ge ha x hx2 hx1
theorem core_eq {S G : Nat} (hS : 1 ≤ S ∧ S ≤ 8) (hG : 1 ≤ G ∧ G ≤ 12) {l : List S69} (hok : okCells (S : Int) (G : Int) (pr l) = true) (X Y : List Int) (h : explB l X Y = true) (hn : X.length + Y.length = (used (runTo (bysX (S : Int) (pr l)) G S)).length) :
    allIn X (comL true (bysX (S : Int) (pr l)) (setsX (S : Int) (pr l))) = true ∧ allIn Y (comL false (bysX (S : Int) (pr l)) (setsX (S : Int) (pr l))) = true := by
  obtain ⟨x, hx1, hx2⟩ := mask_of (fun i => decide ((i : Int) ∈ X)) S
  have hmX : ∀ v, v ∈ mem x → v ∈ X := fun v hv => by
    obtain ⟨i, _, hb, rfl⟩ := (mem_iff _ _).1 hv
    have hi : i < S := by
      rcases Nat.lt_or_ge i S with h' | h'
      · exact h'
      · rw [testBit_lt hx1 i h'] at hb; cases hb
    rw [hx2 i hi] at hb
    exact of_decide_eq_true hb
  have hmY : ∀ v, v ∈ mem (wornS (bysX (S : Int) (pr l)) x) → v ∈ Y := fun v hv => by
    obtain ⟨g, _, hb, rfl⟩ := (mem_iff _ _).1 hv
    obtain ⟨s, hs, hxs, hbit⟩ := (worn_bit_iff _ _ _).1 hb
    rw [(core_adj hS hG hok).len] at hs
    obtain ⟨c, hc, e0, e1⟩ := (core_bit hS hG hok s g hs).1 hbit
    rcases explB_iff.1 h c hc with h' | h'
    · rw [e0] at h'
      rw [hx2 s hs, decide_eq_true h'] at hxs; cases hxs
    · rw [e1] at h'; exact h'
  have l1 := nodup_le _ _ (mem_nodup x) hmX
  have l2 := nodup_le _ _ (mem_nodup _) hmY
  have hmin := core_min hS hG hok
  have hle := hmin.1 x hx1
  have hsz := core_size hS hG hok
  have hxm : x ∈ setsX (S : Int) (pr l) := hmin.2 x hx1 (Nat.le_antisymm (by rw [← hsz, ← hn]; exact Nat.add_le_add l1 l2) hle)
  exact ⟨allIn_iff.2 fun y hy => hmX y (com_mem hy x hxm), allIn_iff.2 fun y hy => hmY y (com_mem hy x hxm)⟩
theorem core_all {S G : Nat} (hS : 1 ≤ S ∧ S ≤ 8) (hG : 1 ≤ G ∧ G ≤ 12) {l : List S69} (hok : okCells (S : Int) (G : Int) (pr l) = true) : allIn (mem (looseX (S : Int) (pr l))) (comL true (bysX (S : Int) (pr l)) (setsX (S : Int) (pr l))) = true ∧ allIn (mem (wornS (bysX (S : Int) (pr l)) (looseX (S : Int) (pr l)))) (comL false (bysX (S : Int) (pr l)) (setsX (S : Int) (pr l))) = true :=
  ⟨allIn_iff.2 fun y hy => com_mem hy _ (core_loose hS hG hok), allIn_iff.2 fun y hy => com_mem hy _ (core_loose hS hG hok)⟩
theorem core_pairs {S G : Nat} (hS : 1 ≤ S ∧ S ≤ 8) (hG : 1 ≤ G ∧ G ≤ 12) {l : List S69} (hok : okCells (S : Int) (G : Int) (pr l) = true) : (outL (runTo (bysX (S : Int) (pr l)) G S) G).length = (used (runTo (bysX (S : Int) (pr l)) G S)).length ∧
    (∀ i, i < (outL (runTo (bysX (S : Int) (pr l)) G S) G).length → isCell l ((outL (runTo (bysX (S : Int) (pr l)) G S) G).getD i z69) = true) ∧
    ∀ j i, j < i → i < (outL (runTo (bysX (S : Int) (pr l)) G S) G).length → ((outL (runTo (bysX (S : Int) (pr l)) G S) G).getD j z69).f0 ≠ ((outL (runTo (bysX (S : Int) (pr l)) G S) G).getD i z69).f0 ∧ ((outL (runTo (bysX (S : Int) (pr l)) G S) G).getD j z69).f1 ≠ ((outL (runTo (bysX (S : Int) (pr l)) G S) G).getD i z69).f1 := by
  have ha := core_adj hS hG hok
  obtain ⟨T, hi⟩ := run_inv ha S (Nat.le_refl _)
  have hbit := fun s g hs => (core_bit hS hG hok s g hs).1
  generalize runTo (bysX (S : Int) (pr l)) G S = m at *
  have hml := hi.ok.len
  have e : outL m G = (used m).map fun g : Nat => (⟨m.getD g 0, (g : Int)⟩ : S69) := by unfold outL used; rw [hml]
  have hget : ∀ i, i < (used m).length → ∃ g, (used m)[i]? = some g ∧ g ∈ used m ∧ (outL m G).getD i z69 = ⟨m.getD g 0, (g : Int)⟩ := fun i hi => by
    refine ⟨(used m)[i], List.getElem?_eq_getElem hi, List.getElem_mem _, ?_⟩
    rw [e, List.getD_eq_getElem?_getD, List.getElem?_map, List.getElem?_eq_getElem hi]; rfl
  have hlen : (outL m G).length = (used m).length := by rw [e, List.length_map]
  refine ⟨hlen, fun i hi' => ?_, fun j i hji hi' => ?_⟩
  · obtain ⟨g, _, hg, eg⟩ := hget i (by omega)
    rw [eg]
    obtain ⟨g1, g2⟩ := used_mem.1 hg
    rcases hi.ok.rng g (by omega) with h' | ⟨s, hs, h'⟩
    · omega
    · obtain ⟨c, hc, e0, e1⟩ := hbit s g hs (hi.edge g (by omega) s h')
      exact List.any_eq_true.2 ⟨c, hc, by show (c.f0 == m.getD g 0 && c.f1 == (g : Int)) = true; rw [e0, e1, h']; simp⟩
  · obtain ⟨g, hgi, hg, eg⟩ := hget i (by omega)
    obtain ⟨g', hgj, hg', eg'⟩ := hget j (by omega)
    rw [eg, eg']
    have hne : g' ≠ g := by
      intro e'
      subst e'
      obtain ⟨q1, q2⟩ := List.getElem?_eq_some_iff.1 hgi
      obtain ⟨p1, p2⟩ := List.getElem?_eq_some_iff.1 hgj
      exact (List.pairwise_iff_getElem.1 (used_nodup m)) j i p1 q1 hji (p2.trans q2.symm)
    exact ⟨fun h' => hne (hi.inj hg' hg h'), fun h' => hne (by have h2 : ((g' : Nat) : Int) = (g : Int) := h'; omega)⟩
theorem HealthProof (s g : Int) (l : List S69) (o0 o1 : List Int) (hn : l.length ≤ 9223372036854775807) (h0 : o0.length ≤ 1152921504606846976) (h1 : o1.length ≤ 1152921504606846976) : ∃ k, swashplatelaw08_HealthProof.f k s g l o0 o1 = some true := by
  refine Ev.rounds ?_
  unfold swashplatelaw08_HealthProof.f
  refine Ev.bind (CheckCells_ev s g l hn) ?_
  cases hok : okCells s g (pr l) with
  | false => exact Ev.some fun k => by simp [swashplatelaw08_works.f]
  | true =>
    have h18 : (1 ≤ s ∧ s ≤ 8) ∧ (1 ≤ g ∧ g ≤ 12) := by
      have h := hok
      simp only [okCells, Bool.and_eq_true] at h
      exact ⟨(withinB_iff _ _ _).1 h.1.1, (withinB_iff _ _ _).1 h.1.2⟩
    obtain ⟨S, rfl⟩ := Int.eq_ofNat_of_zero_le (show 0 ≤ s by omega)
    obtain ⟨G, rfl⟩ := Int.eq_ofNat_of_zero_le (show 0 ≤ g by omega)
    have hS : 1 ≤ S ∧ S ≤ 8 := by omega
    have hG : 1 ≤ G ∧ G ≤ 12 := by omega
    have hsz := core_size hS hG hok
    obtain ⟨p1, p2, p3⟩ := core_pairs hS hG hok
    obtain ⟨a1, a2⟩ := core_all hS hG hok
    have hle := core_le hS hG hok o0 o1
    have heq := core_eq hS hG hok o0 o1
    have hex := core_expl hS hG hok (looseX (S : Int) (pr l))
    have f1 : health_Explain.f (S : Int) (G : Int) l = some (mem (looseX (S : Int) (pr l)), mem (wornS (bysX (S : Int) (pr l)) (looseX (S : Int) (pr l))), 0) := by unfold health_Explain.f exX; rw [if_pos hok]
    have f2 : health_Proof.f (S : Int) (G : Int) l = some (outL (runTo (bysX (S : Int) (pr l)) G S) G, 0) := by unfold health_Proof.f prX; rw [if_pos hok]; rfl
    have f3 : health_Certain.f (S : Int) (G : Int) l = some (comL true (bysX (S : Int) (pr l)) (setsX (S : Int) (pr l)), comL false (bysX (S : Int) (pr l)) (setsX (S : Int) (pr l)), 0) := by unfold health_Certain.f ceX; rw [if_pos hok]
    rw [szX] at hsz
    have m1 := mem_len (looseX (S : Int) (pr l))
    have m2 := mem_len (wornS (bysX (S : Int) (pr l)) (looseX (S : Int) (pr l)))
    have comL_len : ∀ (sel : Bool) (bys ls : List Nat), (comL sel bys ls).length ≤ 16 := fun _ _ _ => Nat.le_trans (comTo_len _ _ _ _ _) (fieldX_len _ _ _)
    have k1 := comL_len true (bysX (S : Int) (pr l)) (setsX (S : Int) (pr l))
    have k2 := comL_len false (bysX (S : Int) (pr l)) (setsX (S : Int) (pr l))
    rw [← p1] at hsz hle heq
    generalize outL (runTo (bysX (S : Int) (pr l)) G S) G = ps at *
    generalize mem (looseX (S : Int) (pr l)) = X at *
    generalize mem (wornS (bysX (S : Int) (pr l)) (looseX (S : Int) (pr l))) = Y at *
    generalize comL true (bysX (S : Int) (pr l)) (setsX (S : Int) (pr l)) = cS at *
    generalize comL false (bysX (S : Int) (pr l)) (setsX (S : Int) (pr l)) = cG at *
    rw [if_pos rfl]
    have hps : ps.length ≤ 32 := by omega
    have hps6 : ps.length ≤ 1000000 := Nat.le_trans hps (by decide)
    have hX : X.length ≤ 9223372036854775807 := Nat.le_trans m1 (by decide)
    have hY : Y.length ≤ 9223372036854775807 := Nat.le_trans m2 (by decide)
    have hcS : cS.length ≤ 1000000 := Nat.le_trans k1 (by decide)
    have hcG : cG.length ≤ 1000000 := Nat.le_trans k2 (by decide)
    have hcS' : cS.length ≤ 9223372036854775807 := Nat.le_trans k1 (by decide)
    have hcG' : cG.length ≤ 9223372036854775807 := Nat.le_trans k2 (by decide)
    have e : wrap64 ((X.length : Int) + (Y.length : Int)) = (ps.length : Int) := (w64 _ (by omega) (by omega)).trans (by rw [hsz]; simp)
    have b0 := Explains_ev l X Y hn hX hY
    rw [hex] at b0
    have b1 := all_ev X cS hX hcS'
    have b2 := all_ev Y cG hY hcG'
    rw [a1] at b1
    rw [a2] at b2
    refine Ev.congr (fun k => if_pos rfl) ?_
    refine Ev.bind (Ev.some fun _ => f1) ?_
    refine Ev.bind (Ev.some fun _ => f2) ?_
    refine Ev.bind (Ev.some fun _ => f3) ?_
    refine Ev.congr (fun k => if_pos rfl) ?_
    refine Ev.congr (fun k => if_pos rfl) ?_
    refine Ev.congr (fun k => if_pos rfl) ?_
    refine Ev.congr (fun k => if_pos e.symm) ?_
    refine Ev.bind b0 ?_
    refine Ev.congr (fun k => if_pos rfl) ?_
    refine Ev.bind b1 ?_
    refine Ev.congr (fun k => if_pos rfl) ?_
    refine Ev.bind b2 ?_
    refine Ev.succ ?_
    have hfin := pl0 l ps cS cG o0 o1 hn hps6 p2 p3 true (fin_ev l ps cS cG o0 o1 hn hps6 hcS hcG h0 h1 hle (fun h h' => heq h h')) ps.length 0 (Nat.zero_add _)
    refine Ev.congr (fun k => ?_) hfin
    simp only [swashplatelaw08_HealthProof.j0, Bool.not_true, Bool.false_eq_true, if_false]
    rfl
theorem proof_walk (s g : Int) (A1 : Option Addr) (c1 : Nat) (l1 : List S69) (A2 : Option Addr) (c2 : Nat) (l2 : List Int) (A3 : Option Addr) (c3 : Nat) (l3 : List Int) (w : World) (hr1 : Kd.C k69 w A1 l1.length l1) (hc1 : l1.length ≤ c1) (hr2 : Kd.C (Kd.int .i64) w A2 l2.length l2) (hc2 : l2.length ≤ c2) (hr3 : Kd.C (Kd.int .i64) w A3 l3.length l3) (hc3 : l3.length ≤ c3)
    (h2 : l2.length ≤ 1152921504606846976) (h3 : l3.length ≤ 1152921504606846976) :
    Calls Try.prog 14 #[.agg #[.int .i64 s, .int .i64 g], .slice A1 l1.length c1, .agg #[.slice A2 l2.length c2, .slice A3 l3.length c3]] w fun e w' => e = .returned (.bool true) ∧ Below w.heap.size w w' := by
  obtain ⟨k, hk⟩ := HealthProof s g l1 l2 l3 hr1.2.1 h2 h3
  exact swashplatelaw08_HealthProof.calls k s g A1 c1 l1 A2 c2 l2 A3 c3 l3 true w hr1 hc1 hr2 hc2 hr3 hc3 hk
end Go.Proofs.Ytcmjpcmdgnbbpaa.PE
