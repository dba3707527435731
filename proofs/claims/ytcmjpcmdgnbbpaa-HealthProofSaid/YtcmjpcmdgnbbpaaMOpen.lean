/- Opening a law's arguments: slices of slices of numbers, and slices of pairs, read. -/
import Derived.Test.YtcmjpcmdgnbbpaaHOpen
import Derived.Test.YtcmjpcmdgnbbpaaPMx0
import Derived.Deep.Matrix
import Derived.Deep.Slices
import Derived.Deep.Fields
import Derived.ChangeSame
import Derived.Laws.IdiomArrays
namespace Go.Proofs.Ytcmjpcmdgnbbpaa.PE
open Go.ChangeShapes Go.WideShapes Go.ChangeAt Go.RowKit Go.Proofs.YtcmjpcmdgnbbpaaW.PrintWords Go.Proofs.YtcmjpcmdgnbbpaaW.PrintLast Go.Deep
theorem rowsC_open {H : Type} {P : Program} {enc : TypeId × Value → H} {W : World} {base : Nat} {held : Bool} {t e q : TypeId} {v : Value} {fuel : Nat} {x : DataW H × List MemPlace} (ht : P.underlying t = some (.slice e)) (he : P.underlying e = some (.slice q)) (hq : P.underlying q = some (.int .i64)) (ce : P.cellsOf e = 1) (cq : P.cellsOf q = 1)
    (h : DataW.trod enc P W base (fun _ => true) held fuel t [v] = some x) : ∃ (A : Option Addr) (c : Nat) (l : List (List Int)), v = .slice A l.length c ∧ Kd.C (Kd.slice 3 (Kd.int .i64)) W A l.length l ∧ l.length ≤ c := by
  rcases open_int_rows ht he hq ce cq h with ⟨hcs, _⟩ | ⟨a, len, cap, A, L, C, Z, hcs, _, hl, hm, _, hrow⟩
  · simp at hcs
    exact ⟨none, 0, [], hcs, ⟨rfl, by simp, fun hn => by simp at hn⟩, Nat.le_refl _⟩
  · simp at hcs
    have hex : ∀ r, ∃ lr : List Int, r < cap → L r = lr.length ∧ Kd.C (Kd.int .i64) W (A r) lr.length lr ∧ lr.length ≤ C r := fun r => by
      by_cases hr : r < cap
      · obtain ⟨g1, g2, g3, g4, g5, g6, g7⟩ := hrow r hr
        have hd : (A r = none ∧ L r = 0 ∧ C r = 0 ∧ Z r = []) ∨ ∃ x, A r = some x ∧ L r ≤ C r ∧ C r ≤ maxLen ∧ (Z r).length = C r ∧ (∀ i, i < (Z r).length → W.cell? (x.add i) = some (.int .i64 ((Z r).getD i 0))) ∧ ∀ n ∈ Z r, (Lit.int .i64 n).wf = true := by
          cases hA : A r with
          | none =>
            have h0 := g6 hA
            exact .inl ⟨rfl, by omega, h0, List.eq_nil_of_length_eq_zero (by omega)⟩
          | some x => exact .inr ⟨x, rfl, g2, g3, g4, fun i hi => (g7 x hA).2 i (by omega), g5⟩
        obtain ⟨l0, e0, hr0, hm0, hw0, hc0⟩ := ReadsInt.ofRowC hd
        exact ⟨l0, fun _ => ⟨e0, Kd.C_of_reads (d := (0 : Int)) (h1 := fun _ => rfl) hr0, hc0⟩⟩
      · exact ⟨[], fun h => absurd h hr⟩
    obtain ⟨f, hf⟩ := Classical.axiomOfChoice hex
    have hlen : ((List.range len).map f).length = len := by simp
    have h9 := PH.maxLen_le'
    refine ⟨some a, cap, (List.range len).map f, by rw [hcs, hlen], ⟨rfl, by rw [hlen]; omega, fun _ => ⟨a, rfl, fun j p hj => ?_⟩⟩, by rw [hlen]; exact hl⟩
    have hjl : j < len := by have := (List.getElem?_eq_some_iff.1 hj).1; simpa using this
    obtain rfl : f j = p := by
      rw [List.getElem?_map, List.getElem?_range hjl] at hj
      exact Option.some.inj hj
    obtain ⟨e1, e2, e3⟩ := hf j (by omega)
    obtain ⟨g1, _⟩ := hrow j (by omega)
    refine ⟨[.slice (A j) (f j).length (C j)], rfl, ⟨A j, C j, rfl, e3, e2⟩, fun i u hu => ?_⟩
    obtain rfl : i = 0 := by
      have := (List.getElem?_eq_some_iff.1 hu).1
      simpa using this
    obtain rfl : Value.slice (A j) (f j).length (C j) = u := by simpa using hu
    have esz : (Kd.slice 3 (Kd.int .i64)).sz = 1 := rfl
    rw [esz, Nat.mul_one, Nat.add_zero, g1, e1]
theorem pairsC_open {H : Type} {P : Program} {enc : TypeId × Value → H} {W : World} {base : Nat} {held : Bool} {t e q : TypeId} {v : Value} {fuel : Nat} {x : DataW H × List MemPlace} (ht : P.underlying t = some (.slice e)) (he : P.underlying e = some (.array 2 q)) (hq : P.underlying q = some (.int .i64)) (ce : P.cellsOf e = 2) (cq : P.cellsOf q = 1)
    (h : DataW.trod enc P W base (fun _ => true) held fuel t [v] = some x) : ∃ (A : Option Addr) (c : Nat) (l : List S69), v = .slice A l.length c ∧ Kd.C k69 W A l.length l ∧ l.length ≤ c := by
  rcases open_slice ht h with ⟨hcs, _⟩ | ⟨a, len, cap, m, n, D, Pl, hcs, _, hl, hm, hmm, _, hi⟩
  · simp at hcs
    exact ⟨none, 0, [], hcs, ⟨rfl, by simp, fun hn => by simp at hn⟩, Nat.le_refl _⟩
  · simp at hcs
    simp only [if_true] at hmm
    have hex : ∀ i, ∃ s : S69, i < len → W.cell? (a.add (i * 2 + 0)) = some (.int .i64 s.f0) ∧ W.cell? (a.add (i * 2 + 1)) = some (.int .i64 s.f1) := fun i => by
      by_cases hil : i < len
      · obtain ⟨cs', hc, htr⟩ := hi i (by omega)
        rw [ce] at hc
        obtain ⟨_, hcl, hat⟩ := World.cells?_some hc
        obtain ⟨xs, m', _, _, _, hx2, hxi⟩ := DataW.trod_array he htr
        have h0 := hxi 0 (by omega)
        have h1 := hxi 1 (by omega)
        rw [cq, List.getElem?_eq_getElem (by omega)] at h0 h1
        match cs', hcl with
        | [c0, c1], _ =>
          simp only [Nat.zero_mul, List.drop_zero, List.take_succ_cons, List.take_zero, Nat.one_mul, List.drop_succ_cons] at h0 h1
          obtain ⟨n0, e0, _, _⟩ := DataW.trod_int hq h0
          obtain ⟨n1, e1, _, _⟩ := DataW.trod_int hq h1
          obtain rfl : c0 = .int .i64 n0 := by simpa using e0
          obtain rfl : c1 = .int .i64 n1 := by simpa using e1
          have a0 := hat 0 (by omega)
          have a1 := hat 1 (by omega)
          rw [Go.Deep.add_add] at a0 a1
          exact ⟨⟨n0, n1⟩, fun _ => ⟨by simpa using a0, by simpa using a1⟩⟩
      · exact ⟨z69, fun h => absurd h hil⟩
    obtain ⟨f, hf⟩ := Classical.axiomOfChoice hex
    have hlen : ((List.range len).map f).length = len := by simp
    have h9 := PH.maxLen_le'
    refine ⟨some a, cap, (List.range len).map f, by rw [hcs, hlen], ⟨rfl, by rw [hlen]; omega, fun _ => ⟨a, rfl, fun j p hj => ?_⟩⟩, by rw [hlen]; exact hl⟩
    have hjl : j < len := by have := (List.getElem?_eq_some_iff.1 hj).1; simpa using this
    obtain rfl : f j = p := by
      rw [List.getElem?_map, List.getElem?_range hjl] at hj
      exact Option.some.inj hj
    obtain ⟨e1, e2⟩ := hf j hjl
    refine ⟨[.int .i64 (f j).f0, .int .i64 (f j).f1], rfl, k69_mk _ _, fun i u hu => ?_⟩
    have esz : k69.sz = 2 := rfl
    rw [esz]
    match i, hu with
    | 0, hu => obtain rfl : Value.int .i64 (f j).f0 = u := by simpa using hu
               exact e1
    | 1, hu => obtain rfl : Value.int .i64 (f j).f1 = u := by simpa using hu
               exact e2
end Go.Proofs.Ytcmjpcmdgnbbpaa.PE
