/- The reference's Certain in plain numbers: what is in all explanations with the fewest members. -/
import Derived.Test.YtcmjpcmdgnbbpaaPEx10
import Derived.Test.YtcmjpcmdgnbbpaaERef
import Derived.Test.YtcmjpcmdgnbbpaaECertain
namespace Go.Proofs.Ytcmjpcmdgnbbpaa.PE
open Go.RowKit Go.Proofs.YtcmjpcmdgnbbpaaW.PrintWords Go.Proofs.YtcmjpcmdgnbbpaaW.PrintLast Go.Proofs.YtcmjpcmdgnbbpaaW.PrintMore
set_option linter.unusedVariables false
set_option linter.unusedSectionVars false
def rowF (n : Nat) (f : Nat → Int) : List Int := (List.range n).map f
theorem rowF_len (n : Nat) (f : Nat → Int) : (rowF n f).length = n := by simp [rowF]
theorem rowF_get {n k : Nat} (f : Nat → Int) (h : k < n) : (rowF n f).getD k 0 = f k := by simp [rowF, List.getD_eq_getElem?_getD, h]
theorem rowF_congr {n : Nat} {f g : Nat → Int} (h : ∀ i, i < n → f i = g i) : rowF n f = rowF n g := by
  unfold rowF; exact List.map_congr_left fun i hi => h i (List.mem_range.1 hi)
theorem rowF_set {n k : Nat} (f : Nat → Int) (v : Int) : (rowF n f).set k v = rowF n (fun i => if i = k then v else f i) := by
  apply List.ext_getElem?
  intro i
  rw [List.getElem?_set]
  unfold rowF
  simp only [List.length_map, List.length_range, List.getElem?_map]
  by_cases hi : i < n
  · rw [List.getElem?_range hi]
    by_cases e : k = i
    · subst e; simp [hi]
    · simp [e, Ne.symm e]
  · rw [List.getElem?_eq_none (by simpa using hi)]
    by_cases e : k = i
    · subst e; simp [hi]
    · simp [e]
theorem rowF_zero (n : Nat) : rowF n (fun _ => 0) = List.replicate n 0 := by simp [rowF, List.map_const']
/-- how many of the first t numbers have a property -/
def cnt (p : Nat → Bool) (t : Nat) : Nat := ((List.range t).filter p).length
theorem cnt_succ (p : Nat → Bool) (t : Nat) : cnt p (t + 1) = cnt p t + if p t = true then 1 else 0 := by
  unfold cnt
  rw [List.range_succ, List.filter_append, List.length_append]
  cases h : p t <;> simp [h]
theorem cnt_le (p : Nat → Bool) (t : Nat) : cnt p t ≤ t := by
  unfold cnt
  have := List.length_filter_le p (List.range t)
  simpa using this
theorem cnt_wrap (p : Nat → Bool) (t : Nat) (ht : t ≤ 256) (hp : p t = true) : wrap64 (((cnt p t : Nat) : Int) + 1) = ((cnt p (t + 1) : Nat) : Int) := by
  have h := cnt_le p t
  rw [cnt_succ, hp]
  generalize cnt p t = q at *
  rw [w64 _ (by omega) (by omega)]; simp
theorem cnt_all (p q : Nat → Bool) (t : Nat) : cnt (fun l => p l && q l) t = cnt p t ↔ ∀ l, l < t → p l = true → q l = true := by
  induction t with
  | zero => simp [cnt]
  | succ t ih =>
    have hle : cnt (fun l => p l && q l) t ≤ cnt p t := by
      clear ih
      induction t with
      | zero => simp [cnt]
      | succ t ih => rw [cnt_succ, cnt_succ]; cases p t <;> cases q t <;> simp <;> omega
    rw [cnt_succ, cnt_succ]
    constructor
    · intro h l hl hp
      have h1 : cnt (fun l => p l && q l) t = cnt p t := by
        cases hpt : p t <;> cases hqt : q t <;> simp [hpt, hqt] at h <;> omega
      by_cases e : l = t
      · subst e
        rw [h1] at h
        cases hqt : q l
        · simp [hp, hqt] at h
        · rfl
      · exact ih.1 h1 l (by omega) hp
    · intro h
      rw [ih.2 (fun l hl => h l (by omega))]
      cases hpt : p t
      · simp
      · simp [h t (by omega) hpt]
theorem explTo_mem (sz : Nat → Nat) (k : Nat) : ∀ b, b ∈ explTo sz k → (∀ l, l < k → sz b ≤ sz l) ∧ ∀ l, l < k → sz l = sz b → l ∈ explTo sz k := by
  induction k with
  | zero => intro b hb; cases hb
  | succ k ih =>
    intro b hb
    have hu : explTo sz (k + 1) = match explTo sz k with
        | [] => [k]
        | h :: t => if sz h < sz k then h :: t else if sz k < sz h then [k] else h :: t ++ [k] := rfl
    cases he : explTo sz k with
    | nil =>
      rw [he] at hu
      simp only [] at hu
      have hk : k = 0 := by
        cases k with
        | zero => rfl
        | succ j => have := explTo_pos sz j; rw [he] at this; simp at this
      subst hk
      rw [hu] at hb ⊢
      rw [List.mem_singleton.1 hb]
      exact ⟨fun l hl => by rw [show l = 0 by omega]; omega, fun l hl _ => by rw [show l = 0 by omega]; simp⟩
    | cons h t =>
      rw [he] at hu ih
      simp only [] at hu
      have ihh := ih h (by simp)
      by_cases h1 : sz h < sz k
      · rw [if_pos h1] at hu
        rw [hu] at hb ⊢
        have := ih b hb
        have hbh : sz b = sz h := explTo_same sz k b h (by rw [he]; exact hb) (by rw [he]; simp)
        refine ⟨fun l hl => ?_, fun l hl e => ?_⟩
        · by_cases e : l = k
          · subst e; omega
          · exact this.1 l (by omega)
        · by_cases e2 : l = k
          · subst e2; omega
          · exact this.2 l (by omega) e
      · rw [if_neg h1] at hu
        by_cases h2 : sz k < sz h
        · rw [if_pos h2] at hu
          rw [hu] at hb ⊢
          rw [List.mem_singleton.1 hb]
          refine ⟨fun l hl => ?_, fun l hl e => ?_⟩
          · by_cases e : l = k
            · subst e; omega
            · have := ihh.1 l (by omega); omega
          · by_cases e2 : l = k
            · subst e2; simp
            · have := ihh.1 l (by omega); omega
        · rw [if_neg h2] at hu
          rw [hu] at hb ⊢
          have hbh : sz b = sz h := by
            rcases List.mem_append.1 hb with hb | hb
            · exact explTo_same sz k b h (by rw [he]; exact hb) (by rw [he]; simp)
            · rw [List.mem_singleton.1 hb]; omega
          refine ⟨fun l hl => ?_, fun l hl e => ?_⟩
          · by_cases e : l = k
            · subst e; omega
            · have := ihh.1 l (by omega); omega
          · by_cases e2 : l = k
            · subst e2; simp
            · exact List.mem_append.2 (.inl (ihh.2 l (by omega) (by omega)))
/-- the set of an explanation's list -/
def bitsX (sel : Bool) (bys : List Nat) (l : Nat) : Nat := if sel then l else wornS bys l
theorem fieldX_eq (sel : Bool) (bys : List Nat) (l : Nat) : fieldX sel bys l = mem (bitsX sel bys l) := by cases sel <;> rfl
def sureL (sel : Bool) (bys ls : List Nat) (n : Nat) : List Int := ((List.range n).filter fun i => ls.all fun l => (bitsX sel bys l).testBit i).map fun i : Nat => (i : Int)
theorem any_mem (s i : Nat) (hi : i < 16) : ((mem s).any fun y => (i : Int) == y) = s.testBit i := by
  rw [Bool.eq_iff_iff, List.any_eq_true]
  constructor
  · rintro ⟨y, hy, e⟩
    obtain ⟨j, _, hj, e'⟩ := (mem_iff _ _).1 hy
    have : i = j := by have := eq_of_beq e; omega
    rw [this]; exact hj
  · intro h; exact ⟨i, (mem_iff _ _).2 ⟨i, hi, h, rfl⟩, by simp⟩
theorem com_eq (sel : Bool) (bys : List Nat) (l0 : Nat) (lt : List Nat) (n : Nat) (hn : n ≤ 16) (hb : ∀ i, n ≤ i → i < 16 → (bitsX sel bys l0).testBit i = false) : comL sel bys (l0 :: lt) = sureL sel bys (l0 :: lt) n := by
  unfold comL comTo sureL
  rw [List.take_length]
  simp only [List.headD_cons, fieldX_eq]
  have e1 : ((mem (bitsX sel bys l0)).filter fun v => !(l0 :: lt).any fun l => !((mem (bitsX sel bys l)).any fun y => v == y)) = ((List.range 16).filter fun i => (l0 :: lt).all fun l => (bitsX sel bys l).testBit i).map fun i : Nat => (i : Int) := by
    unfold mem
    rw [List.filter_map, List.filter_filter]
    congr 1
    refine List.filter_congr fun i hi => ?_
    rw [List.mem_range] at hi
    have hh : ∀ s : Nat, ((List.map (fun i : Nat => (i : Int)) (List.filter (fun i => s.testBit i) (List.range 16))).any fun y => (i : Int) == y) = s.testBit i := fun s => any_mem s i hi
    simp only [Function.comp, hh]
    rw [Bool.eq_iff_iff]
    simp only [List.any_cons, List.all_cons, Bool.and_eq_true, Bool.not_eq_true', Bool.or_eq_false_iff, Bool.not_eq_false', List.any_eq_false, List.all_eq_true]
    constructor
    · rintro ⟨⟨h1, h2⟩, h3⟩
      exact ⟨h1, fun x hx => by have := h2 x hx; simpa using this⟩
    · rintro ⟨h1, h2⟩
      exact ⟨⟨h1, fun x hx => by simpa using h2 x hx⟩, h1⟩
  rw [e1]
  obtain ⟨d, hd⟩ : ∃ d, 16 = n + d := ⟨16 - n, by omega⟩
  rw [hd, List.range_add, List.filter_append]
  have : List.filter (fun i => (l0 :: lt).all fun l => (bitsX sel bys l).testBit i) (List.map (n + ·) (List.range d)) = [] := by
    rw [List.filter_eq_nil_iff]
    intro j hj
    obtain ⟨i, hi, rfl⟩ := List.mem_map.1 hj
    rw [List.mem_range] at hi
    simp [hb (n + i) (by omega) (by omega)]
  rw [this, List.append_nil]
section
variable {S G : Nat} (hS1 : 1 ≤ S) (hS : S ≤ 8) (hG1 : 1 ≤ G) (hG : G ≤ 12) (l : List S69) (hn : l.length ≤ 9223372036854775807) (hsm : Small2 S G (pr l))
include hS1 hS hG1 hG hn hsm
/-- the sets with the fewest members -/
def fewB (bys : List Nat) (m : Nat) (x : Nat) : Bool := szX bys x == m
def inRow (sel : Bool) (bys : List Nat) (m t : Nat) (i : Nat) : Int := (cnt (fun x => fewB bys m x && (bitsX sel bys x).testBit i) t : Nat)
/-- while a list's members are counted -/
def inPart (sel : Bool) (bys : List Nat) (m t : Nat) (xs : List Int) (j : Nat) (i : Nat) : Int := inRow sel bys m t i + if (i : Int) ∈ xs.take j then 1 else 0
omit hS1 hS hG1 hG hn hsm in
theorem mem_nodup (s : Nat) : (mem s).Nodup := by
  unfold mem
  exact List.Pairwise.map _ (fun a b h e => h (by have e' : (a : Int) = (b : Int) := e; omega)) (List.Pairwise.filter _ List.nodup_range)
omit hS1 hS hG1 hG hn hsm in
theorem part_step (sel : Bool) (bys : List Nat) (m t n : Nat) (s : Nat) (j : Nat) (x : Nat) (hx : (mem s)[j]? = some (x : Int)) :
    (rowF n (inPart sel bys m t (mem s) j)).set x (inPart sel bys m t (mem s) j x + 1) = rowF n (inPart sel bys m t (mem s) (j + 1)) := by
  rw [rowF_set]
  refine rowF_congr fun i hi => ?_
  have hj := (List.getElem?_eq_some_iff.1 hx).1
  have hnot : (x : Int) ∉ (mem s).take j := by
    intro hm
    obtain ⟨q, hq, e⟩ := List.getElem_of_mem hm
    rw [List.getElem_take] at e
    have hq' : q < j := by simp at hq; omega
    have hx' : (mem s)[j] = (x : Int) := (List.getElem?_eq_some_iff.1 hx).2
    have := (List.pairwise_iff_getElem.1 (mem_nodup s)) q j (by omega) hj hq'
    exact this (e.trans hx'.symm)
  unfold inPart
  rw [take_succ_of hx]
  by_cases e : i = x
  · subst e
    rw [if_pos rfl, if_neg hnot, if_pos (by simp)]; omega
  · rw [if_neg e]
    have : ((i : Int) ∈ (mem s).take j ++ [(x : Int)]) ↔ (i : Int) ∈ (mem s).take j := by
      rw [List.mem_append, List.mem_singleton]
      constructor
      · rintro (h | h)
        · exact h
        · omega
      · exact .inl
    by_cases h : (i : Int) ∈ (mem s).take j
    · rw [if_pos h, if_pos (this.2 h)]
    · rw [if_neg h, if_neg (fun hh => h (this.1 hh))]
omit hS1 hS hG1 hG hn hsm in
theorem part_end (sel : Bool) (bys : List Nat) (m t n : Nat) (hn : n ≤ 16) (hf : fewB bys m t = true) : rowF n (inPart sel bys m t (mem (bitsX sel bys t)) (mem (bitsX sel bys t)).length) = rowF n (inRow sel bys m (t + 1)) := by
  refine rowF_congr fun i hi => ?_
  unfold inPart inRow
  rw [List.take_length, cnt_succ, hf, Bool.true_and]
  cases hb : (bitsX sel bys t).testBit i with
  | true => rw [if_pos ((mem_iff _ _).2 ⟨i, by omega, hb, rfl⟩)]; simp
  | false =>
    rw [if_neg]
    · simp
    · intro hm
      obtain ⟨j, _, hj, e⟩ := (mem_iff _ _).1 hm
      have : i = j := by omega
      rw [this, hj] at hb; cases hb
omit hS1 hS hG1 hG hn hsm in
theorem part_none (sel : Bool) (bys : List Nat) (m t n : Nat) (hf : fewB bys m t = false) : rowF n (inRow sel bys m t) = rowF n (inRow sel bys m (t + 1)) := by
  refine rowF_congr fun i hi => ?_
  unfold inRow
  rw [cnt_succ, hf, Bool.false_and]; simp
omit hS1 hS hG1 hG hn hsm in
theorem part_zero (sel : Bool) (bys : List Nat) (m t n : Nat) (xs : List Int) : rowF n (inPart sel bys m t xs 0) = rowF n (inRow sel bys m t) := by
  refine rowF_congr fun i hi => ?_
  unfold inPart; simp
omit hS1 hS hG1 hG hn hsm in
theorem inPart_bd (sel : Bool) (bys : List Nat) (m t : Nat) (xs : List Int) (j i : Nat) : 0 ≤ inPart sel bys m t xs j i ∧ inPart sel bys m t xs j i ≤ t + 1 := by
  have := cnt_le (fun x => fewB bys m x && (bitsX sel bys x).testBit i) t
  unfold inPart inRow
  split <;> omega
theorem bits_lt (sel : Bool) (t : Nat) (ht : t < 2 ^ S) (i : Nat) (hi : (bitsX sel (bysX S (pr l)) t).testBit i = true) : i < (if sel then S else G) := by
  cases sel with
  | true =>
    simp only [bitsX, if_true] at hi ⊢
    rcases Nat.lt_or_ge i S with h | h
    · exact h
    · rw [testBit_lt ht i h] at hi; cases hi
  | false =>
    simp only [bitsX] at hi ⊢
    obtain ⟨a, _, _, hm⟩ := (wornX_bit (g0 := G) (by simpa using hsm) t i).1 hi
    obtain ⟨x, y, e, _, hy⟩ := hsm _ hm
    have := (Prod.mk.inj e).2
    show i < G
    omega
/-- the next number of a list -/
theorem mem_at (sel : Bool) (t : Nat) (ht : t < 2 ^ S) (j : Nat) (hj : j < (mem (bitsX sel (bysX S (pr l)) t)).length) : ∃ x : Nat, (mem (bitsX sel (bysX S (pr l)) t))[j]? = some (x : Int) ∧ x < (if sel then S else G) := by
  have hg := List.getElem?_eq_getElem hj
  obtain ⟨i, h1, h2, h3⟩ := (mem_iff _ _).1 (List.getElem_mem hj)
  exact ⟨i, by rw [hg, h3], bits_lt hS1 hS hG1 hG l hn hsm sel t ht i h2⟩
theorem certain_l2 (m : Nat) (t : Nat) (ht : t < 2 ^ S) (sen : List Int) (all : Int) (r : List Int × List Int × Int) (hf : fewB (bysX S (pr l)) m t = true)
    (hnext : Ev (fun k => swashplateref08_Certain.l0 k (S : Int) (G : Int) l (m : Int) sen (rowF G (inRow false (bysX S (pr l)) m (t + 1))) all ((t + 1 : Nat) : Int)) r) (d : Nat) :
    ∀ j, j + d = (mem (bitsX false (bysX S (pr l)) t)).length → Ev (fun k => swashplateref08_Certain.l2 k (S : Int) (G : Int) l (m : Int) sen (rowF G (inPart false (bysX S (pr l)) m t (mem (bitsX false (bysX S (pr l)) t)) j)) all (t : Int) (mem (bitsX false (bysX S (pr l)) t)) (j : Int)) r := by
  have h256 : 2 ^ S ≤ 256 := Nat.pow_le_pow_right (n := 2) (by omega) hS
  have hml := mem_len (bitsX false (bysX S (pr l)) t)
  have ewt : wrap64 ((t : Int) + 1) = ((t + 1 : Nat) : Int) := by unfold wrap64; omega
  induction d with
  | zero =>
    intro j hj
    refine Ev.succ (Ev.congr (fun k => ?_) hnext)
    simp only [swashplateref08_Certain.l2]
    rw [if_neg (by omega), show j = (mem (bitsX false (bysX S (pr l)) t)).length by omega, part_end false _ m t G (by omega) hf, ewt]
  | succ d ih =>
    intro j hj
    obtain ⟨x, hx, hxG⟩ := mem_at hS1 hS hG1 hG l hn hsm false t ht j (by omega)
    have hxG' : x < G := hxG
    have hxv : (mem (bitsX false (bysX S (pr l)) t)).getD j 0 = (x : Int) := by rw [List.getD_eq_getElem?_getD, hx]; rfl
    have hbd := inPart_bd false (bysX S (pr l)) m t (mem (bitsX false (bysX S (pr l)) t)) j x
    refine Ev.succ (Ev.congr (fun k => ?_) (ih (j + 1) (by omega)))
    simp only [swashplateref08_Certain.l2, rd_nat, hxv, rowF_len, rowF_get _ hxG', Int.toNat_natCast]
    rw [if_pos (by omega), if_pos (by omega), if_pos (by omega), if_pos (by omega), w64 _ (by omega) (by omega), part_step false _ m t G _ j x hx, w64s j 17 (by omega) (by omega)]
theorem certain_l1 (m : Nat) (t : Nat) (ht : t < 2 ^ S) (gea : List Int) (all : Int) (r : List Int × List Int × Int) (hf : fewB (bysX S (pr l)) m t = true)
    (hnext : Ev (fun k => swashplateref08_Certain.l2 k (S : Int) (G : Int) l (m : Int) (rowF S (inRow true (bysX S (pr l)) m (t + 1))) gea all (t : Int) (mem (bitsX false (bysX S (pr l)) t)) 0) r) (d : Nat) :
    ∀ j, j + d = (mem (bitsX true (bysX S (pr l)) t)).length → Ev (fun k => swashplateref08_Certain.l1 k (S : Int) (G : Int) l (m : Int) (rowF S (inPart true (bysX S (pr l)) m t (mem (bitsX true (bysX S (pr l)) t)) j)) gea all (t : Int) (mem (bitsX true (bysX S (pr l)) t)) (mem (bitsX false (bysX S (pr l)) t)) (j : Int)) r := by
  have h256 : 2 ^ S ≤ 256 := Nat.pow_le_pow_right (n := 2) (by omega) hS
  have hml := mem_len (bitsX true (bysX S (pr l)) t)
  induction d with
  | zero =>
    intro j hj
    refine Ev.succ (Ev.congr (fun k => ?_) hnext)
    simp only [swashplateref08_Certain.l1]
    rw [if_neg (by omega), show j = (mem (bitsX true (bysX S (pr l)) t)).length by omega, part_end true _ m t S (by omega) hf]
  | succ d ih =>
    intro j hj
    obtain ⟨x, hx, hxG⟩ := mem_at hS1 hS hG1 hG l hn hsm true t ht j (by omega)
    have hxG' : x < S := hxG
    have hxv : (mem (bitsX true (bysX S (pr l)) t)).getD j 0 = (x : Int) := by rw [List.getD_eq_getElem?_getD, hx]; rfl
    have hbd := inPart_bd true (bysX S (pr l)) m t (mem (bitsX true (bysX S (pr l)) t)) j x
    refine Ev.succ (Ev.congr (fun k => ?_) (ih (j + 1) (by omega)))
    simp only [swashplateref08_Certain.l1, rd_nat, hxv, rowF_len, rowF_get _ hxG', Int.toNat_natCast]
    rw [if_pos (by omega), if_pos (by omega), if_pos (by omega), if_pos (by omega), w64 _ (by omega) (by omega), part_step true _ m t S _ j x hx, w64s j 17 (by omega) (by omega)]
theorem certain_l0 (m : Nat) (hm : m ≤ 32) (r : List Int × List Int × Int) (hend : Ev (fun k => swashplateref08_Certain.l3 k (S : Int) (G : Int) (rowF S (inRow true (bysX S (pr l)) m (2 ^ S))) (rowF G (inRow false (bysX S (pr l)) m (2 ^ S))) ((cnt (fewB (bysX S (pr l)) m) (2 ^ S) : Nat) : Int) [] 0) r) (d : Nat) : ∀ t, t + d = 2 ^ S →
    Ev (fun k => swashplateref08_Certain.l0 k (S : Int) (G : Int) l (m : Int) (rowF S (inRow true (bysX S (pr l)) m t)) (rowF G (inRow false (bysX S (pr l)) m t)) ((cnt (fewB (bysX S (pr l)) m) t : Nat) : Int) (t : Int)) r := by
  have h256 : 2 ^ S ≤ 256 := Nat.pow_le_pow_right (n := 2) (by omega) hS
  obtain ⟨hs1, hs2⟩ := shl_eq hS1 hS hG1 hG l hn hsm
  induction d with
  | zero =>
    intro t ht
    obtain rfl : t = 2 ^ S := by omega
    refine Ev.succ (Ev.congr (fun k => ?_) hend)
    simp only [swashplateref08_Certain.l0]
    rw [if_pos hs1, hs2, if_neg (by omega)]
  | succ d ih =>
    intro t ht
    have htS : t < 2 ^ S := by omega
    have hx := explanation_ev hS1 hS hG1 hG l hn hsm t htS
    have hlt : (t : Int) < ((2 ^ S : Nat) : Int) := by omega
    have a1 := mem_len t
    have a2 := mem_len (wornS (bysX S (pr l)) t)
    have ew : wrap64 (((mem t).length : Int) + ((mem (wornS (bysX S (pr l)) t)).length : Int)) = ((szX (bysX S (pr l)) t : Nat) : Int) := by
      unfold szX
      generalize (mem t).length = a at *
      generalize (mem (wornS (bysX S (pr l)) t)).length = b at *
      rw [w64 _ (by omega) (by omega)]; simp
    have ewt : wrap64 ((t : Int) + 1) = ((t + 1 : Nat) : Int) := by unfold wrap64; omega
    have ih' := ih (t + 1) (by omega)
    refine Ev.succ ?_
    simp only [swashplateref08_Certain.l0, if_pos hs1, hs2, if_pos hlt]
    refine Ev.bind hx ?_
    simp only [ew, ewt]
    by_cases hf : szX (bysX S (pr l)) t = m
    · have hfb : fewB (bysX S (pr l)) m t = true := by simp [fewB, hf]
      have hc : ((szX (bysX S (pr l)) t : Nat) : Int) = (m : Int) := by rw [hf]
      have ec := cnt_wrap (fewB (bysX S (pr l)) m) t (Nat.le_of_lt (Nat.lt_of_lt_of_le htS h256)) hfb
      simp only [if_pos hc, ec]
      have h2 := certain_l2 hS1 hS hG1 hG l hn hsm m t htS (rowF S (inRow true (bysX S (pr l)) m (t + 1))) ((cnt (fewB (bysX S (pr l)) m) (t + 1) : Nat) : Int) r hfb ih' (mem (bitsX false (bysX S (pr l)) t)).length 0 (Nat.zero_add _)
      rw [part_zero] at h2
      have h1 := certain_l1 hS1 hS hG1 hG l hn hsm m t htS (rowF G (inRow false (bysX S (pr l)) m t)) ((cnt (fewB (bysX S (pr l)) m) (t + 1) : Nat) : Int) r hfb h2 (mem (bitsX true (bysX S (pr l)) t)).length 0 (Nat.zero_add _)
      rw [part_zero] at h1
      exact h1
    · have hfb : fewB (bysX S (pr l)) m t = false := by simp [fewB, hf]
      have hc : ¬ ((szX (bysX S (pr l)) t : Nat) : Int) = (m : Int) := fun h => hf (Int.ofNat.inj h)
      have ec : cnt (fewB (bysX S (pr l)) m) (t + 1) = cnt (fewB (bysX S (pr l)) m) t := by rw [cnt_succ, hfb]; simp
      simp only [if_neg hc]
      rw [← part_none true _ m t S hfb, ← part_none false _ m t G hfb, ec] at ih'
      exact ih'
/-- is this number in all? -/
def sureB (sel : Bool) (bys : List Nat) (m T : Nat) (i : Nat) : Bool := decide (inRow sel bys m T i = ((cnt (fewB bys m) T : Nat) : Int))
def sureTo (sel : Bool) (bys : List Nat) (m T k : Nat) : List Int := ((List.range k).filter (sureB sel bys m T)).map fun i : Nat => (i : Int)
omit hS1 hS hG1 hG hn hsm in
theorem sureTo_succ (sel : Bool) (bys : List Nat) (m T k : Nat) : sureTo sel bys m T (k + 1) = sureTo sel bys m T k ++ if sureB sel bys m T k = true then [(k : Int)] else [] := by
  unfold sureTo
  rw [List.range_succ, List.filter_append, List.map_append]
  cases h : sureB sel bys m T k <;> simp [h]
omit hS1 hS hG1 hG hn hsm in
theorem sureTo_len (sel : Bool) (bys : List Nat) (m T k : Nat) : (sureTo sel bys m T k).length ≤ k := by
  unfold sureTo
  have h := List.length_filter_le (sureB sel bys m T) (List.range k)
  simp at h ⊢; exact h
theorem certain_l4 (m T : Nat) (lo : List Int) (d : Nat) : ∀ g, g + d = G → Ev (fun k => swashplateref08_Certain.l4 k (G : Int) (rowF G (inRow false (bysX S (pr l)) m T)) ((cnt (fewB (bysX S (pr l)) m) T : Nat) : Int) lo (sureTo false (bysX S (pr l)) m T g) (g : Int)) (lo, sureTo false (bysX S (pr l)) m T G, 0) := by
  induction d with
  | zero =>
    intro g hg
    refine Ev.succ (Ev.some fun k => ?_)
    simp only [swashplateref08_Certain.l4]
    rw [if_neg (by omega), show g = G by omega]
  | succ d ih =>
    intro g hg
    have hgG : g < G := by omega
    have hl := sureTo_len false (bysX S (pr l)) m T g
    have ih' := ih (g + 1) (by omega)
    rw [sureTo_succ] at ih'
    refine Ev.succ (Ev.congr (fun k => ?_) ih')
    simp only [swashplateref08_Certain.l4, rd_nat, rowF_len, rowF_get _ hgG]
    rw [if_pos (by omega), if_pos (by omega), if_pos (by omega), w64s g G hgG (by omega)]
    by_cases hb : inRow false (bysX S (pr l)) m T g = ((cnt (fewB (bysX S (pr l)) m) T : Nat) : Int)
    · rw [if_pos hb, if_pos (by omega), if_pos (show sureB false (bysX S (pr l)) m T g = true from decide_eq_true hb)]
    · rw [if_neg hb, if_neg (by unfold sureB; rw [decide_eq_false hb]; simp), List.append_nil]
theorem certain_l3 (m T : Nat) (d : Nat) : ∀ s, s + d = S → Ev (fun k => swashplateref08_Certain.l3 k (S : Int) (G : Int) (rowF S (inRow true (bysX S (pr l)) m T)) (rowF G (inRow false (bysX S (pr l)) m T)) ((cnt (fewB (bysX S (pr l)) m) T : Nat) : Int) (sureTo true (bysX S (pr l)) m T s) (s : Int)) (sureTo true (bysX S (pr l)) m T S, sureTo false (bysX S (pr l)) m T G, 0) := by
  induction d with
  | zero =>
    intro s hs
    have := certain_l4 hS1 hS hG1 hG l hn hsm m T (sureTo true (bysX S (pr l)) m T S) G 0 (by omega)
    refine Ev.succ (Ev.congr (fun k => ?_) this)
    simp only [swashplateref08_Certain.l3]
    rw [if_neg (by omega), show s = S by omega]; rfl
  | succ d ih =>
    intro s hs
    have hsS : s < S := by omega
    have hl := sureTo_len true (bysX S (pr l)) m T s
    have ih' := ih (s + 1) (by omega)
    rw [sureTo_succ] at ih'
    refine Ev.succ (Ev.congr (fun k => ?_) ih')
    simp only [swashplateref08_Certain.l3, rd_nat, rowF_len, rowF_get _ hsS]
    rw [if_pos (by omega), if_pos (by omega), if_pos (by omega), w64s s S hsS (by omega)]
    by_cases hb : inRow true (bysX S (pr l)) m T s = ((cnt (fewB (bysX S (pr l)) m) T : Nat) : Int)
    · rw [if_pos hb, if_pos (by omega), if_pos (show sureB true (bysX S (pr l)) m T s = true from decide_eq_true hb)]
    · rw [if_neg hb, if_neg (by unfold sureB; rw [decide_eq_false hb]; simp), List.append_nil]
theorem sure_eq (sel : Bool) (n : Nat) (hnS : n = if sel then S else G) : sureTo sel (bysX S (pr l)) (szX (bysX S (pr l)) (looseX S (pr l))) (2 ^ S) n = comL sel (bysX S (pr l)) (setsX S (pr l)) := by
  have hset : setsX S (pr l) = explTo (szX (bysX S (pr l))) (2 ^ S) := by unfold setsX; rw [Int.toNat_natCast]
  have hpos : 1 ≤ (setsX S (pr l)).length := by
    obtain ⟨j, hj⟩ : ∃ j, 2 ^ S = j + 1 := ⟨2 ^ S - 1, by have := Nat.two_pow_pos S; omega⟩
    rw [hset, hj]; exact explTo_pos _ _
  obtain ⟨l0, lt, hls⟩ : ∃ l0 lt, setsX S (pr l) = l0 :: lt := by
    cases h : setsX S (pr l) with
    | nil => rw [h] at hpos; simp at hpos
    | cons a b => exact ⟨a, b, rfl⟩
  have hloose : looseX S (pr l) ∈ setsX S (pr l) := by
    have e : looseX S (pr l) = minX (setsX S (pr l)) := rfl
    rw [e, hls]; exact minX_mem _ _
  have hlt : ∀ x, x ∈ setsX S (pr l) → x < 2 ^ S := fun x hx => explTo_lt (szX (bysX S (pr l))) _ x (by rw [← hset]; exact hx)
  have hl0 : l0 ∈ setsX S (pr l) := by rw [hls]; simp
  have hmem : ∀ x, x < 2 ^ S → (fewB (bysX S (pr l)) (szX (bysX S (pr l)) (looseX S (pr l))) x = true ↔ x ∈ setsX S (pr l)) := fun x hx => by
    unfold fewB
    rw [beq_iff_eq]
    have := explTo_mem (szX (bysX S (pr l))) (2 ^ S) (looseX S (pr l)) (by rw [← hset]; exact hloose)
    constructor
    · intro e; rw [hset]; exact this.2 x hx e
    · intro hx2; rw [hset] at hx2 hloose; exact explTo_same _ _ _ _ hx2 hloose
  have hn16 : n ≤ 16 := by rw [hnS]; split <;> omega
  rw [hls, com_eq sel (bysX S (pr l)) l0 lt n hn16 (fun i hi _ => by
    rw [Bool.eq_false_iff]
    intro h
    have := bits_lt hS1 hS hG1 hG l hn hsm sel l0 (hlt l0 hl0) i h
    rw [← hnS] at this
    omega), ← hls]
  unfold sureTo sureL
  congr 1
  refine List.filter_congr fun i hi => ?_
  unfold sureB inRow
  rw [Bool.eq_iff_iff, decide_eq_true_eq, List.all_eq_true]
  have hc := cnt_all (fewB (bysX S (pr l)) (szX (bysX S (pr l)) (looseX S (pr l)))) (fun x => (bitsX sel (bysX S (pr l)) x).testBit i) (2 ^ S)
  constructor
  · intro h x hx
    exact hc.1 (by omega) x (hlt x hx) ((hmem x (hlt x hx)).2 hx)
  · intro h
    have := hc.2 (fun x hx hf => h x ((hmem x hx).1 hf))
    omega
end
theorem RCertain_ev (s g : Int) (l : List S69) (hn : l.length ≤ 9223372036854775807) : Ev (fun k => swashplateref08_Certain.f k s g l) (ceX s g (pr l)) := by
  unfold swashplateref08_Certain.f ceX
  refine Ev.bind (CheckCells_ev s g l hn) ?_
  have hx := RExplain_ev s g l hn
  unfold exX at hx
  by_cases h : okCells s g (pr l) = true
  · obtain ⟨S, G, rfl, rfl, hS1, hS, hG1, hG, hsm⟩ := small_of h
    simp only [h, if_true] at hx ⊢
    refine Ev.bind hx ?_
    have a1 := mem_len (looseX S (pr l))
    have a2 := mem_len (wornS (bysX S (pr l)) (looseX S (pr l)))
    have hm32 : szX (bysX S (pr l)) (looseX S (pr l)) ≤ 32 := by unfold szX; omega
    have c1 : (0 : Int) ≤ (S : Int) := Int.natCast_nonneg _
    have c2 : S ≤ 35184372088832 := by omega
    have c3 : (0 : Int) ≤ (G : Int) := Int.natCast_nonneg _
    have c4 : G ≤ 35184372088832 := by omega
    have z0 : 0 + 2 ^ S = 2 ^ S := Nat.zero_add _
    have ew : wrap64 (((mem (looseX S (pr l))).length : Int) + ((mem (wornS (bysX S (pr l)) (looseX S (pr l)))).length : Int)) = ((szX (bysX S (pr l)) (looseX S (pr l)) : Nat) : Int) := by
      unfold szX
      generalize (mem (looseX S (pr l))).length = a at *
      generalize (mem (wornS (bysX S (pr l)) (looseX S (pr l)))).length = b at *
      rw [w64 _ (by omega) (by omega)]; simp
    have h3 := certain_l3 hS1 hS hG1 hG l hn hsm (szX (bysX S (pr l)) (looseX S (pr l))) (2 ^ S) S 0 (Nat.zero_add _)
    rw [sure_eq hS1 hS hG1 hG l hn hsm true S rfl, sure_eq hS1 hS hG1 hG l hn hsm false G rfl] at h3
    have h0 := certain_l0 hS1 hS hG1 hG l hn hsm (szX (bysX S (pr l)) (looseX S (pr l))) hm32 _ h3 (2 ^ S) 0 z0
    have z : ∀ (sel : Bool) (n : Nat), rowF n (inRow sel (bysX S (pr l)) (szX (bysX S (pr l)) (looseX S (pr l))) 0) = List.replicate n 0 := fun sel n => by
      rw [← rowF_zero]; exact rowF_congr fun i _ => by simp [inRow, cnt]
    rw [z, z] at h0
    refine Ev.congr (fun k => ?_) h0
    simp only [Int.toNat_natCast, ew]
    rw [if_pos c1, if_pos c2, if_pos c3, if_pos c4]
    simp [cnt]
  · simp only [h]
    exact Ev.some fun _ => rfl
end Go.Proofs.Ytcmjpcmdgnbbpaa.PE
