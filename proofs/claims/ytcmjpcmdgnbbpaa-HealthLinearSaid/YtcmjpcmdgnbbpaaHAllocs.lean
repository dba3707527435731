/- Four structs that one statement lays, in whatever order: what follows is shown once. -/
import Derived.Test.YtcmjpcmdgnbbpaaWLast
import Derived.Test.YtcmjpcmdgnbbpaaBase
namespace Go.Proofs.Ytcmjpcmdgnbbpaa
open Go.RowKit Go.Proofs.YtcmjpcmdgnbbpaaW.PrintLast
set_option linter.unusedVariables false
def ptr (p : Nat) : Value := .pointer (some ⟨p, 0, none⟩)
def pif (b : Bool) (d : Tmp) (p : Nat) (a : Act) : Act := if b = true then a.put (some d) (ptr p) else a
def A4 (d0 d1 d2 d3 : Tmp) (b0 b1 b2 b3 : Bool) (p0 p1 p2 p3 : Nat) (a : Act) : Act := pif b3 d3 p3 (pif b2 d2 p2 (pif b1 d1 p1 (pif b0 d0 p0 a)))
theorem put_comm {d e : Tmp} (h : d ≠ e) (u v : Value) (a : Act) : (a.put (some d) u).put (some e) v = (a.put (some e) v).put (some d) u := by
  simp only [Act.put]
  rw [Array.setIfInBounds_comm _ _ h]
theorem pif_put {b : Bool} {d e : Tmp} (h : d ≠ e) (p : Nat) (v : Value) (a : Act) : (pif b d p a).put (some e) v = pif b d p (a.put (some e) v) := by
  unfold pif
  split
  · exact put_comm h _ _ _
  · rfl
structure St4 (w0 : World) (Z : Obj) (b0 b1 b2 b3 : Bool) (p0 p1 p2 p3 : Nat) (w : World) : Prop where
  bel : Below w0.heap.size w0 w
  h0 : b0 = true → w0.heap.size ≤ p0 ∧ w.heap[p0]? = some Z
  h1 : b1 = true → w0.heap.size ≤ p1 ∧ w.heap[p1]? = some Z
  h2 : b2 = true → w0.heap.size ≤ p2 ∧ w.heap[p2]? = some Z
  h3 : b3 = true → w0.heap.size ≤ p3 ∧ w.heap[p3]? = some Z
  n01 : b0 = true → b1 = true → p0 ≠ p1
  n02 : b0 = true → b2 = true → p0 ≠ p2
  n03 : b0 = true → b3 = true → p0 ≠ p3
  n12 : b1 = true → b2 = true → p1 ≠ p2
  n13 : b1 = true → b3 = true → p1 ≠ p3
  n23 : b2 = true → b3 = true → p2 ≠ p3
theorem old_of {w : World} {Z Y : Obj} {p : Nat} (h : w.heap[p]? = some Z) : (w.alloc Y).heap[p]? = some Z ∧ p ≠ w.heap.size := by
  have := (Array.getElem?_eq_some_iff.1 h).1
  exact ⟨by rw [(below_a1 w Y).block p this]; exact h, by omega⟩
section
variable {P : Program} {ops : Array Oper} {Q : Exit → Act → World → Prop} {md : Region.Mode} {S : World → Prop} {ds : List Nat}
theorem allocs4 {a0 : Act} {w0 : World} {fuel : Nat} (L : Bool → Bool → Bool → Bool → Array Bool) (i0 i1 i2 i3 : Nat) (d0 d1 d2 d3 : Tmp) (Z : Obj)
    (hne : d0 ≠ d1 ∧ d0 ≠ d2 ∧ d0 ≠ d3 ∧ d1 ≠ d2 ∧ d1 ≠ d3 ∧ d2 ≠ d3)
    (hR : ∀ b0 b1 b2 b3 : Bool, (b0 && b1 && b2 && b3) = false → Region.ready md ops (L b0 b1 b2 b3) = (if b0 = true then [] else [i0]) ++ ((if b1 = true then [] else [i1]) ++ ((if b2 = true then [] else [i2]) ++ (if b3 = true then [] else [i3]))))
    (hL0 : ∀ b1 b2 b3, (L false b1 b2 b3).setIfInBounds i0 true = L true b1 b2 b3) (hL1 : ∀ b0 b2 b3, (L b0 false b2 b3).setIfInBounds i1 true = L b0 true b2 b3)
    (hL2 : ∀ b0 b1 b3, (L b0 b1 false b3).setIfInBounds i2 true = L b0 b1 true b3) (hL3 : ∀ b0 b1 b2, (L b0 b1 b2 false).setIfInBounds i3 true = L b0 b1 b2 true)
    (s0 : ∀ K a w, K (a.put (some d0) (ptr w.heap.size)) (w.alloc Z) → wpOp P ops Q i0 K a w) (s1 : ∀ K a w, K (a.put (some d1) (ptr w.heap.size)) (w.alloc Z) → wpOp P ops Q i1 K a w)
    (s2 : ∀ K a w, K (a.put (some d2) (ptr w.heap.size)) (w.alloc Z) → wpOp P ops Q i2 K a w) (s3 : ∀ K a w, K (a.put (some d3) (ptr w.heap.size)) (w.alloc Z) → wpOp P ops Q i3 K a w)
    (hS : ∀ w, Below w0.heap.size w0 w → S w)
    (hfin : ∀ p0 p1 p2 p3 w, St4 w0 Z true true true true p0 p1 p2 p3 w → wpAnyLast P md ops Q S ds fuel (L true true true true) (A4 d0 d1 d2 d3 true true true true p0 p1 p2 p3 a0) w) :
    wpAnyLast P md ops Q S ds (fuel + 4) (L false false false false) a0 w0 := by
  have key : ∀ c b0 b1 b2 b3 p0 p1 p2 p3 w, (!b0).toNat + (!b1).toNat + (!b2).toNat + (!b3).toNat = c → St4 w0 Z b0 b1 b2 b3 p0 p1 p2 p3 w → wpAnyLast P md ops Q S ds (fuel + c) (L b0 b1 b2 b3) (A4 d0 d1 d2 d3 b0 b1 b2 b3 p0 p1 p2 p3 a0) w := by
    intro c
    induction c with
    | zero =>
      intro b0 b1 b2 b3 p0 p1 p2 p3 w hc hst
      cases b0 <;> cases b1 <;> cases b2 <;> cases b3 <;> simp at hc
      exact hfin p0 p1 p2 p3 w hst
    | succ c ih =>
      intro b0 b1 b2 b3 p0 p1 p2 p3 w hc hst
      have hnot : (b0 && b1 && b2 && b3) = false := by cases b0 <;> cases b1 <;> cases b2 <;> cases b3 <;> simp at hc ⊢
      have hrs := hR b0 b1 b2 b3 hnot
      refine wpAnyLast_all hrs (by cases b0 <;> cases b1 <;> cases b2 <;> cases b3 <;> simp at hnot ⊢) ?_
      intro i hi
      have hbel : Below w0.heap.size w0 (w.alloc Z) := below_alloc hst.bel Z
      have hnew : w0.heap.size ≤ w.heap.size ∧ (w.alloc Z).heap[w.heap.size]? = some Z := ⟨hst.bel.size, heap_alloc_new w Z⟩
      have mv : ∀ {b : Bool} {p : Nat}, (b = true → w0.heap.size ≤ p ∧ w.heap[p]? = some Z) → (b = true → w0.heap.size ≤ p ∧ (w.alloc Z).heap[p]? = some Z) := fun h hb => ⟨(h hb).1, (old_of (h hb).2).1⟩
      have ne1 : ∀ {b : Bool} {p : Nat}, (b = true → w0.heap.size ≤ p ∧ w.heap[p]? = some Z) → (b = true → w.heap.size ≠ p) := fun h hb => (old_of (Y := Z) (h hb).2).2.symm
      simp only [List.mem_append] at hi
      rcases hi with hi | hi | hi | hi
      · cases b0
        · obtain rfl : i = i0 := by simpa using hi
          refine s0 _ _ _ ⟨fun _ _ => hS _ hbel, ?_⟩
          rw [hL0]
          have e : (A4 d0 d1 d2 d3 false b1 b2 b3 p0 p1 p2 p3 a0).put (some d0) (ptr w.heap.size) = A4 d0 d1 d2 d3 true b1 b2 b3 w.heap.size p1 p2 p3 a0 := by
            unfold A4
            rw [pif_put hne.2.2.1.symm, pif_put hne.2.1.symm, pif_put hne.1.symm]
            rfl
          rw [e]
          exact ih _ _ _ _ _ _ _ _ _ (by simp at hc ⊢; omega) ⟨hbel, fun _ => hnew, mv hst.h1, mv hst.h2, mv hst.h3, fun _ => ne1 hst.h1, fun _ => ne1 hst.h2, fun _ => ne1 hst.h3, hst.n12, hst.n13, hst.n23⟩
        · simp at hi
      · cases b1
        · obtain rfl : i = i1 := by simpa using hi
          refine s1 _ _ _ ⟨fun _ _ => hS _ hbel, ?_⟩
          rw [hL1]
          have e : (A4 d0 d1 d2 d3 b0 false b2 b3 p0 p1 p2 p3 a0).put (some d1) (ptr w.heap.size) = A4 d0 d1 d2 d3 b0 true b2 b3 p0 w.heap.size p2 p3 a0 := by
            unfold A4
            rw [pif_put hne.2.2.2.2.1.symm, pif_put hne.2.2.2.1.symm]
            rfl
          rw [e]
          exact ih _ _ _ _ _ _ _ _ _ (by simp at hc ⊢; omega) ⟨hbel, mv hst.h0, fun _ => hnew, mv hst.h2, mv hst.h3, fun h _ => (ne1 hst.h0 h).symm, hst.n02, hst.n03, fun _ => ne1 hst.h2, fun _ => ne1 hst.h3, hst.n23⟩
        · simp at hi
      · cases b2
        · obtain rfl : i = i2 := by simpa using hi
          refine s2 _ _ _ ⟨fun _ _ => hS _ hbel, ?_⟩
          rw [hL2]
          have e : (A4 d0 d1 d2 d3 b0 b1 false b3 p0 p1 p2 p3 a0).put (some d2) (ptr w.heap.size) = A4 d0 d1 d2 d3 b0 b1 true b3 p0 p1 w.heap.size p3 a0 := by
            unfold A4
            rw [pif_put hne.2.2.2.2.2.symm]
            rfl
          rw [e]
          exact ih _ _ _ _ _ _ _ _ _ (by simp at hc ⊢; omega) ⟨hbel, mv hst.h0, mv hst.h1, fun _ => hnew, mv hst.h3, hst.n01, fun h _ => (ne1 hst.h0 h).symm, hst.n03, fun h _ => (ne1 hst.h1 h).symm, hst.n13, fun _ => ne1 hst.h3⟩
        · simp at hi
      · cases b3
        · obtain rfl : i = i3 := by simpa using hi
          refine s3 _ _ _ ⟨fun _ _ => hS _ hbel, ?_⟩
          rw [hL3]
          have e : (A4 d0 d1 d2 d3 b0 b1 b2 false p0 p1 p2 p3 a0).put (some d3) (ptr w.heap.size) = A4 d0 d1 d2 d3 b0 b1 b2 true p0 p1 p2 w.heap.size a0 := rfl
          rw [e]
          exact ih _ _ _ _ _ _ _ _ _ (by simp at hc ⊢; omega) ⟨hbel, mv hst.h0, mv hst.h1, mv hst.h2, fun _ => hnew, hst.n01, hst.n02, fun h _ => (ne1 hst.h0 h).symm, hst.n12, fun h _ => (ne1 hst.h1 h).symm, fun h _ => (ne1 hst.h2 h).symm⟩
        · simp at hi
  exact key 4 false false false false 0 0 0 0 w0 rfl ⟨Below.refl _ _, by simp, by simp, by simp, by simp, by simp, by simp, by simp, by simp, by simp, by simp⟩
end
end Go.Proofs.Ytcmjpcmdgnbbpaa
