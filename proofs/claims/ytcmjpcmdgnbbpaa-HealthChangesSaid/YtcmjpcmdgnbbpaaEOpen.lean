/- Opening a law's arguments: slices of slices of numbers, and slices of pairs, read. -/
import Derived.Test.YtcmjpcmdgnbbpaaHOpen
import Derived.Test.YtcmjpcmdgnbbpaaPEx0
import Derived.Deep.Matrix
namespace Go.Proofs.Ytcmjpcmdgnbbpaa.PE
open Go.ChangeShapes Go.WideShapes Go.ChangeAt Go.RowKit Go.Proofs.YtcmjpcmdgnbbpaaW.PrintWords Go.Proofs.YtcmjpcmdgnbbpaaW.PrintLast Go.Deep
theorem rowsC_open {H : Type} {P : Program} {enc : TypeId × Value → H} {W : World} {base : Nat} {held : Bool} {t e q : TypeId} {v : Value} {fuel : Nat} {x : DataW H × List MemPlace} (ht : P.underlying t = some (.slice e)) (he : P.underlying e = some (.slice q)) (hq : P.underlying q = some (.int .i64)) (ce : P.cellsOf e = 1) (cq : P.cellsOf q = 1)
    (h : DataW.trod enc P W base (fun _ => true) held fuel t [v] = some x) : ∃ (A : Option Addr) (c : Nat) (l : List (List Int)), v = .slice A l.length c ∧ Kd.C (Kd.slice 3 (Kd.int .i64)) W A l.length l ∧ l.length ≤ c := by
  rcases open_int_rows ht he hq ce cq h with ⟨hcs, _⟩ | ⟨a, len, cap, A, L, C, Z, hcs, _, hl, hm, _, hrow⟩
  · simp at hcs
    exact ⟨none, 0, [], hcs, ⟨rfl, by simp, fun hn => by simp at hn⟩, Nat.le_refl _⟩
  · simp at hcs
    have hex : ∀ r, ∃ lr : List Int, r < cap → L r = lr.length ∧ Kd.C (Kd.int .i64) W (A r) lr.length lr ∧ lr.length ≤ C r := fun r => by
      by_cases hr : r < cap
      · obtain ⟨g1, g2, g3, g4, g5, g6, g7⟩ := hrow r hr
        have hd : (A r = none ∧ L r = 0 ∧ C r = 0 ∧ Z r = []) ∨ ∃ x, A r = some x ∧ L r ≤ C r ∧ C r ≤ maxLen ∧ (Z r).length = C r ∧ (∀ i, i < (Z r).length → W.cell? (x.add i) = some (.int .i64 ((Z r).getD i 0))) ∧ ∀ n ∈ Z r, (Lit.int .i64 n).wf = true := by
          cases hA : A r with
          | none =>
            have h0 := g6 hA
            exact .inl ⟨rfl, by omega, h0, List.eq_nil_of_length_eq_zero (by omega)⟩
          | some x => exact .inr ⟨x, rfl, g2, g3, g4, fun i hi => (g7 x hA).2 i (by omega), g5⟩
        obtain ⟨l0, e0, hr0, hm0, hw0, hc0⟩ := ReadsInt.ofRowC hd
        exact ⟨l0, fun _ => ⟨e0, Kd.C_of_reads (d := (0 : Int)) (h1 := fun _ => rfl) hr0, hc0⟩⟩
      · exact ⟨[], fun h => absurd h hr⟩
    obtain ⟨f, hf⟩ := Classical.axiomOfChoice hex
    have hlen : ((List.range len).map f).length = len := by simp
    have h9 := PH.maxLen_le'
    refine ⟨some a, cap, (List.range len).map f, by rw [hcs, hlen], ⟨rfl, by rw [hlen]; omega, fun _ => ⟨a, rfl, fun j p hj => ?_⟩⟩, by rw [hlen]; exact hl⟩
    have hjl : j < len := by have := (List.getElem?_eq_some_iff.1 hj).1; simpa using this
    obtain rfl : f j = p := by
      rw [List.getElem?_map, List.getElem?_range hjl] at hj
      exact Option.some.inj hj
    obtain ⟨e1, e2, e3⟩ := hf j (by omega)
    obtain ⟨g1, _⟩ := hrow j (by omega)
    refine ⟨[.slice (A j) (f j).length (C j)], rfl, ⟨A j, C j, rfl, e3, e2⟩, fun i u hu => ?_⟩
    obtain rfl : i = 0 := by
      have := (List.getElem?_eq_some_iff.1 hu).1
      simpa using this
    obtain rfl : Value.slice (A j) (f j).length (C j) = u := by simpa using hu
    have esz : (Kd.slice 3 (Kd.int .i64)).sz = 1 := rfl
    rw [esz, Nat.mul_one, Nat.add_zero, g1, e1]
end Go.Proofs.Ytcmjpcmdgnbbpaa.PE
