/- Sets of sensors and gears, bit by bit: what lies in them, and which explanations there are, in plain numbers. -/
import Derived.Test.YtcmjpcmdgnbbpaaExplain
namespace Go.Proofs.Ytcmjpcmdgnbbpaa.PE
open Go.RowKit
theorem mem_iff (s : Nat) (x : Int) : x ∈ mem s ↔ ∃ i : Nat, i < 16 ∧ s.testBit i = true ∧ x = i := by
  unfold mem
  simp only [List.mem_map, List.mem_filter, List.mem_range]
  constructor
  · rintro ⟨i, ⟨h1, h2⟩, rfl⟩; exact ⟨i, h1, h2, rfl⟩
  · rintro ⟨i, h1, h2, rfl⟩; exact ⟨i, ⟨h1, h2⟩, rfl⟩
theorem mem_nil {s : Nat} (h : ∀ i, i < 16 → s.testBit i = false) : mem s = [] := by
  unfold mem
  rw [List.filter_eq_nil_iff.2 (fun i hi => by simp [h i (List.mem_range.1 hi)])]; rfl
theorem two_le {α : Type} {L : List α} {a b : α} (ha : a ∈ L) (hb : b ∈ L) (h : a ≠ b) : 2 ≤ L.length := by
  match L, ha, hb with
  | [x], ha, hb => simp at ha hb; exact absurd (ha.trans hb.symm) h
  | _ :: _ :: _, _, _ => simp
theorem filter_one {n i : Nat} (hi : i < n) : (List.range n).filter (fun j => j == i) = [i] := by
  induction n with
  | zero => omega
  | succ n ih =>
    rw [List.range_succ, List.filter_append]
    by_cases e : i = n
    · subst e
      have : (List.range i).filter (fun j => j == i) = [] := List.filter_eq_nil_iff.2 (fun j hj => by have := List.mem_range.1 hj; simp; omega)
      rw [this]; simp
    · rw [ih (by omega)]; simp; omega
theorem mem_pow {i : Nat} (hi : i < 16) : mem (2 ^ i) = [(i : Int)] := by
  unfold mem
  have : (List.range 16).filter (fun j => (2 ^ i).testBit j) = [i] := by
    rw [← filter_one hi]
    refine List.filter_congr fun j _ => ?_
    rw [Nat.testBit_two_pow]
    by_cases e : i = j <;> simp [e]
    exact fun h => e h.symm
  rw [this]; rfl
/-- the gears that have to be worn -/
theorem worn_bit (bys : List Nat) (l k g : Nat) : (wornTo bys l k).testBit g = (List.range k).any fun s => !l.testBit s && (bys.getD s 0).testBit g := by
  induction k with
  | zero => simp [wornTo]
  | succ k ih =>
    rw [wornTo_succ, List.range_succ, List.any_append, ← ih]
    cases h : l.testBit k
    · simp [h]
    · simp [h]
theorem worn_bit_iff (bys : List Nat) (l g : Nat) : (wornS bys l).testBit g = true ↔ ∃ s, s < bys.length ∧ l.testBit s = false ∧ (bys.getD s 0).testBit g = true := by
  unfold wornS
  rw [worn_bit, List.any_eq_true]
  simp only [List.mem_range, Bool.and_eq_true, Bool.not_eq_true']
/-- these cells are pairs of small numbers -/
def Small2 (s g : Nat) (cells : List (Int × Int)) : Prop := ∀ c, c ∈ cells → ∃ a b : Nat, c = ((a : Int), (b : Int)) ∧ a < s ∧ b < g
theorem bys_bit (s g0 : Nat) (cells : List (Int × Int)) (h : Small2 s g0 cells) (k : Nat) (hk : k ≤ cells.length) (i g : Nat) (hi : i < s) :
    ((bysTo s cells k).getD i 0).testBit g = true ↔ ((i : Int), (g : Int)) ∈ cells.take k := by
  induction k with
  | zero => simp [bysTo, List.getD_eq_getElem?_getD, hi]
  | succ k ih =>
    have ih := ih (by omega)
    have hget := List.getElem?_eq_getElem (l := cells) (i := k) (by omega)
    obtain ⟨a, b, hc, ha, hb⟩ := h _ (List.getElem_mem (l := cells) (n := k) (by omega))
    rw [hc] at hget
    rw [bysTo_succ hget, take_succ_of hget, List.mem_append, List.mem_singleton, ← ih]
    simp only [Int.toNat_natCast]
    have hlen : (bysTo s cells k).length = s := bysTo_len _ _ _
    rw [List.getD_eq_getElem?_getD, List.getElem?_set]
    by_cases e : a = i
    · subst e
      rw [if_pos rfl, if_pos (by omega), Option.getD_some, Nat.testBit_or, Nat.testBit_two_pow, Bool.or_eq_true, decide_eq_true_eq]
      constructor
      · rintro (h | rfl)
        · exact .inl h
        · exact .inr rfl
      · rintro (h | h)
        · exact .inl h
        · refine .inr ?_
          have := (Prod.mk.inj h).2
          omega
    · rw [if_neg e, ← List.getD_eq_getElem?_getD]
      constructor
      · exact .inl
      · rintro (h | h)
        · exact h
        · have := (Prod.mk.inj h).1
          omega
theorem okFrom_small (s g : Int) : ∀ (prev : Option (Int × Int)) (cells : List (Int × Int)), okFrom s g prev cells = true → Small2 s.toNat g.toNat cells
  | _, [], _ => fun c hc => by cases hc
  | prev, c :: cs, h => by
    simp only [okFrom, Bool.and_eq_true] at h
    obtain ⟨⟨⟨h1, h2⟩, _⟩, h4⟩ := h
    have g1 := (withinB_iff _ _ _).1 h1
    have g2 := (withinB_iff _ _ _).1 h2
    intro d hd
    rcases List.mem_cons.1 hd with rfl | hd
    · exact ⟨d.1.toNat, d.2.toNat, by ext <;> simp <;> omega, by omega, by omega⟩
    · exact okFrom_small s g _ cs h4 d hd
theorem ok_small {s g : Int} {cells : List (Int × Int)} (h : okCells s g cells = true) : Small2 s.toNat g.toNat cells := by
  simp only [okCells, Bool.and_eq_true] at h
  exact okFrom_small _ _ _ _ h.2
/-- which gears have to be worn, if some sensors are loose -/
theorem wornX_bit {s : Int} {g0 : Nat} {cells : List (Int × Int)} (h : Small2 s.toNat g0 cells) (l g : Nat) :
    (wornS (bysX s cells) l).testBit g = true ↔ ∃ i : Nat, i < s.toNat ∧ l.testBit i = false ∧ ((i : Int), (g : Int)) ∈ cells := by
  rw [worn_bit_iff]
  unfold bysX
  rw [bysTo_len]
  constructor
  · rintro ⟨i, h1, h2, h3⟩
    rw [bys_bit _ _ _ h _ (Nat.le_refl _) _ _ h1, List.take_length] at h3
    exact ⟨i, h1, h2, h3⟩
  · rintro ⟨i, h1, h2, h3⟩
    refine ⟨i, h1, h2, ?_⟩
    rw [bys_bit _ _ _ h _ (Nat.le_refl _) _ _ h1, List.take_length]
    exact h3
/-! ### the explanations with the fewest members -/
theorem explTo_lt (sz : Nat → Nat) (k : Nat) : ∀ l, l ∈ explTo sz k → l < k := by
  induction k with
  | zero => intro l hl; cases hl
  | succ k ih =>
    intro l hl
    unfold explTo at hl
    split at hl
    · rw [List.mem_singleton.1 hl]; omega
    · rename_i h t he
      split at hl
      · have := ih l (by rw [he]; exact hl); omega
      · split at hl
        · rw [List.mem_singleton.1 hl]; omega
        · rcases List.mem_append.1 hl with hl | hl
          · have := ih l (by rw [he]; exact hl); omega
          · rw [List.mem_singleton.1 hl]; omega
theorem explTo_one (sz : Nat → Nat) (m : Nat) (k : Nat) (hm : m < k) (h : ∀ l, l < k → l ≠ m → sz m < sz l) : explTo sz k = [m] := by
  induction k with
  | zero => omega
  | succ k ih =>
    by_cases e : m = k
    · subst e
      unfold explTo
      split
      · rfl
      · rename_i a t he
        have ha : a < m := explTo_lt sz m a (by rw [he]; simp)
        have := h a (by omega) (by omega)
        rw [if_neg (by omega), if_pos this]
    · have h1 := ih (by omega) (fun l hl hne => h l (by omega) hne)
      have h2 := h k (by omega) (Ne.symm e)
      unfold explTo
      rw [h1]
      simp only []
      rw [if_pos h2]
theorem testBit_lt {l s : Nat} (h : l < 2 ^ s) (i : Nat) (hi : s ≤ i) : l.testBit i = false := Nat.testBit_lt_two_pow (Nat.lt_of_lt_of_le h (Nat.pow_le_pow_right (by omega) hi))
/-- one sensor is loose -/
theorem loose_one {S G sensor : Nat} (hS : S ≤ 8) (hG2 : 2 ≤ G) (hG : G ≤ 12) (hs : sensor < S) (cells : List (Int × Int)) (hc : ∀ c, c ∈ cells ↔ ∃ g : Nat, g < G ∧ c = ((sensor : Int), (g : Int))) :
    mem (looseX (S : Int) cells) = [(sensor : Int)] ∧ mem (wornS (bysX (S : Int) cells) (looseX (S : Int) cells)) = [] := by
  have hsm : Small2 (S : Int).toNat G cells := fun c h => by
    obtain ⟨g, hg, rfl⟩ := (hc c).1 h
    exact ⟨sensor, g, rfl, by simpa using hs, hg⟩
  have hw : ∀ l g, (wornS (bysX (S : Int) cells) l).testBit g = true ↔ l.testBit sensor = false ∧ g < G := fun l g => by
    rw [wornX_bit hsm]
    constructor
    · rintro ⟨i, h1, h2, h3⟩
      obtain ⟨g', hg', e⟩ := (hc _).1 h3
      have e1 := (Prod.mk.inj e).1
      have e2 := (Prod.mk.inj e).2
      have : i = sensor := by omega
      subst this
      exact ⟨h2, by omega⟩
    · rintro ⟨h1, h2⟩
      exact ⟨sensor, by simpa using hs, h1, (hc _).2 ⟨g, h2, rfl⟩⟩
  have hone : mem (wornS (bysX (S : Int) cells) (2 ^ sensor)) = [] := mem_nil fun i _ => by
    rw [Bool.eq_false_iff]
    intro h
    have := ((hw _ _).1 h).1
    rw [Nat.testBit_two_pow_self] at this
    cases this
  have hx : explTo (szX (bysX (S : Int) cells)) (2 ^ S) = [2 ^ sensor] := by
    refine explTo_one _ _ _ (Nat.pow_lt_pow_right (by omega) hs) fun l hl hne => ?_
    unfold szX
    rw [hone, mem_pow (by omega)]
    cases hb : l.testBit sensor with
    | true =>
      obtain ⟨j, hj⟩ : ∃ j, l.testBit j ≠ (2 ^ sensor).testBit j := by
        apply Classical.byContradiction
        intro hn
        exact hne (Nat.eq_of_testBit_eq fun i => Classical.byContradiction fun hi => hn ⟨i, hi⟩)
      have hjs : j ≠ sensor := by rintro rfl; rw [hb, Nat.testBit_two_pow_self] at hj; exact hj rfl
      rw [Nat.testBit_two_pow, decide_eq_false (Ne.symm hjs)] at hj
      have hjt : l.testBit j = true := by cases h : l.testBit j <;> simp_all
      have hj16 : j < 16 := by
        rcases Nat.lt_or_ge j 16 with h | h
        · exact h
        · rw [testBit_lt hl j (by omega)] at hjt; cases hjt
      have := two_le (L := mem l) (a := (j : Int)) (b := (sensor : Int)) ((mem_iff _ _).2 ⟨j, hj16, hjt, rfl⟩) ((mem_iff _ _).2 ⟨sensor, by omega, hb, rfl⟩) (by omega)
      simp only [List.length_cons, List.length_nil]; omega
    | false =>
      have h0 := (hw l 0).2 ⟨hb, by omega⟩
      have h1 := (hw l 1).2 ⟨hb, by omega⟩
      have := two_le (L := mem (wornS (bysX (S : Int) cells) l)) (a := ((0 : Nat) : Int)) (b := ((1 : Nat) : Int)) ((mem_iff _ _).2 ⟨0, by omega, h0, rfl⟩) ((mem_iff _ _).2 ⟨1, by omega, h1, rfl⟩) (by omega)
      simp only [List.length_cons, List.length_nil]; omega
  have hlo : looseX (S : Int) cells = 2 ^ sensor := by unfold looseX; rw [Int.toNat_natCast, hx]; rfl
  rw [hlo]
  exact ⟨mem_pow (by omega), hone⟩
/-- one gear is worn -/
theorem worn_one {S G gear : Nat} (hS2 : 2 ≤ S) (hS : S ≤ 8) (hG : G ≤ 12) (hg : gear < G) (cells : List (Int × Int)) (hc : ∀ c, c ∈ cells ↔ ∃ s : Nat, s < S ∧ c = ((s : Int), (gear : Int))) :
    mem (looseX (S : Int) cells) = [] ∧ mem (wornS (bysX (S : Int) cells) (looseX (S : Int) cells)) = [(gear : Int)] := by
  have hsm : Small2 (S : Int).toNat G cells := fun c h => by
    obtain ⟨s, hs, rfl⟩ := (hc c).1 h
    exact ⟨s, gear, rfl, by simpa using hs, hg⟩
  have hw : ∀ l g, (wornS (bysX (S : Int) cells) l).testBit g = true ↔ g = gear ∧ ∃ i, i < S ∧ l.testBit i = false := fun l g => by
    rw [wornX_bit hsm]
    constructor
    · rintro ⟨i, h1, h2, h3⟩
      obtain ⟨s', hs', e⟩ := (hc _).1 h3
      have e2 := (Prod.mk.inj e).2
      exact ⟨by omega, i, by simpa using h1, h2⟩
    · rintro ⟨rfl, i, h1, h2⟩
      exact ⟨i, by simpa using h1, h2, (hc _).2 ⟨i, h1, rfl⟩⟩
  have hgear : ∀ l, (∃ i, i < S ∧ l.testBit i = false) → mem (wornS (bysX (S : Int) cells) l) = [(gear : Int)] := fun l hex => by
    have e : wornS (bysX (S : Int) cells) l = 2 ^ gear := Nat.eq_of_testBit_eq fun i => by
      rw [Bool.eq_iff_iff, hw, Nat.testBit_two_pow, decide_eq_true_eq]
      exact ⟨fun h => h.1.symm, fun h => ⟨h.symm, hex⟩⟩
    rw [e]; exact mem_pow (by omega)
  have h0 : ∃ i, i < S ∧ (0 : Nat).testBit i = false := ⟨0, by omega, by simp⟩
  have hm0 : mem 0 = [] := mem_nil fun i _ => by simp
  have hx : explTo (szX (bysX (S : Int) cells)) (2 ^ S) = [0] := by
    refine explTo_one _ _ _ (Nat.two_pow_pos _) fun l hl hne => ?_
    unfold szX
    rw [hgear 0 h0, hm0]
    by_cases hex : ∃ i, i < S ∧ l.testBit i = false
    · rw [hgear l hex]
      obtain ⟨j, hj⟩ := Nat.exists_testBit_of_ne_zero hne
      have hj16 : j < 16 := by
        rcases Nat.lt_or_ge j 16 with h | h
        · exact h
        · rw [testBit_lt hl j (by omega)] at hj; cases hj
      have hmem : ((j : Int)) ∈ mem l := (mem_iff _ _).2 ⟨j, hj16, hj, rfl⟩
      have : 1 ≤ (mem l).length := List.length_pos_of_mem hmem
      simp only [List.length_cons, List.length_nil]; omega
    · have hall : ∀ i, i < S → l.testBit i = true := fun i hi => by
        cases h : l.testBit i
        · exact absurd ⟨i, hi, h⟩ hex
        · rfl
      have := two_le (L := mem l) (a := ((0 : Nat) : Int)) (b := ((1 : Nat) : Int)) ((mem_iff _ _).2 ⟨0, by omega, hall 0 (by omega), rfl⟩) ((mem_iff _ _).2 ⟨1, by omega, hall 1 (by omega), rfl⟩) (by omega)
      simp only [List.length_cons, List.length_nil]; omega
  have hlo : looseX (S : Int) cells = 0 := by unfold looseX; rw [Int.toNat_natCast, hx]; rfl
  rw [hlo]
  exact ⟨hm0, hgear 0 h0⟩
end Go.Proofs.Ytcmjpcmdgnbbpaa.PE
