/- Four slices of numbers that a call makes side by side, each in a field of a struct of its own: what an append to one of them leaves; and what the call of Average answers for a vibration that may be. -/
import Derived.Test.YtcmjpcmdgnbbpaaHLinP
namespace Go.Proofs.Ytcmjpcmdgnbbpaa.PH
open Go.RowKit Go.Proofs.YtcmjpcmdgnbbpaaW.PrintWords Go.Proofs.YtcmjpcmdgnbbpaaW.PrintLast Go.Proofs.YtcmjpcmdgnbbpaaW.PrintMore
set_option linter.unusedVariables false
/-- four slices, no two of which share their cells -/
structure Four (B : Nat) (w : World) (a b c d : Value) (la lb lc ld : List Int) : Prop where
  ra : Kd.R (Kd.int .i64) 3 w B (fun k => some k ≠ b.ownBlock ∧ some k ≠ c.ownBlock ∧ some k ≠ d.ownBlock) a la
  rb : Kd.R (Kd.int .i64) 3 w B (fun k => some k ≠ c.ownBlock ∧ some k ≠ d.ownBlock ∧ some k ≠ a.ownBlock) b lb
  rc : Kd.R (Kd.int .i64) 3 w B (fun k => some k ≠ d.ownBlock ∧ some k ≠ a.ownBlock ∧ some k ≠ b.ownBlock) c lc
  rd : Kd.R (Kd.int .i64) 3 w B (fun k => some k ≠ a.ownBlock ∧ some k ≠ b.ownBlock ∧ some k ≠ c.ownBlock) d ld
section
variable {B : Nat} {W w1 : World} {a b c d a1 : Value} {la lb lc ld la1 : List Int}
theorem Four.rot (h : Four B W a b c d la lb lc ld) : Four B W b c d a lb lc ld la := ⟨h.rb, h.rc, h.rd, h.ra⟩
theorem Four.grow (h : Four B W a b c d la lb lc ld) (hr : Kd.R (Kd.int .i64) 3 w1 B (fun k => some k ≠ b.ownBlock ∧ some k ≠ c.ownBlock ∧ some k ≠ d.ownBlock) a1 la1)
    (hg : W.grownBy w1 a.ownBlock) (hat : a1.ownBlock = a.ownBlock ∨ ∃ b, a1.ownBlock = some b ∧ W.heap.size ≤ b) : Four B w1 a1 b c d la1 lb lc ld := by
  refine ⟨hr, ?_, ?_, ?_⟩
  · exact Kd.R_mono (Kd.R_after (Kd.R_mono h.rb (ok' := fun k => (some k ≠ c.ownBlock ∧ some k ≠ d.ownBlock) ∧ some k ≠ a.ownBlock) (fun k hk => ⟨⟨hk.1, hk.2.1⟩, hk.2.2⟩)) hg hat) (fun k hk => ⟨hk.1.1, hk.1.2, hk.2⟩)
  · exact Kd.R_mono (Kd.R_after (Kd.R_mono h.rc (ok' := fun k => (some k ≠ d.ownBlock ∧ some k ≠ b.ownBlock) ∧ some k ≠ a.ownBlock) (fun k hk => ⟨⟨hk.1, hk.2.2⟩, hk.2.1⟩)) hg hat) (fun k hk => ⟨hk.1.1, hk.2, hk.1.2⟩)
  · exact Kd.R_mono (Kd.R_after (Kd.R_mono h.rd (ok' := fun k => (some k ≠ b.ownBlock ∧ some k ≠ c.ownBlock) ∧ some k ≠ a.ownBlock) (fun k hk => ⟨hk.2, hk.1⟩)) hg hat) (fun k hk => ⟨hk.2, hk.1.1, hk.1.2⟩)
theorem Four.move (h : Four B W a b c d la lb lc ld) (hm : ∀ {ok : Nat → Prop} {v : Value} {l : List Int}, Kd.R (Kd.int .i64) 3 W B ok v l → Kd.R (Kd.int .i64) 3 w1 B ok v l) : Four B w1 a b c d la lb lc ld := ⟨hm h.ra, hm h.rb, hm h.rc, hm h.rd⟩
theorem Four.fresh (h : Four B W a b c d la lb lc ld) {k : Nat} (hk : W.heap.size ≤ k) : some k ≠ b.ownBlock ∧ some k ≠ c.ownBlock ∧ some k ≠ d.ownBlock :=
  ⟨fun e => by have := Kd.R_lt h.rb k e.symm; omega, fun e => by have := Kd.R_lt h.rc k e.symm; omega, fun e => by have := Kd.R_lt h.rd k e.symm; omega⟩
end
/-- the state of the loop: g the vibration's struct, p q r s those of the four new ones -/
structure Lin (w : World) (g p q r s : Nat) (S M : Value) (wr : World) (a b c d : Value) (la lb lc ld : List Int) : Prop where
  four : Four w.heap.size wr a b c d la lb lc ld
  bel : Below w.heap.size w wr
  hg : wr.heap[g]? = some (.cells #[S, M] 52 (0, 0))
  hp : wr.heap[p]? = some (.cells #[a, M] 52 (0, 0))
  hq : wr.heap[q]? = some (.cells #[b, M] 52 (0, 0))
  hr : wr.heap[r]? = some (.cells #[c, M] 52 (0, 0))
  hs : wr.heap[s]? = some (.cells #[d, M] 52 (0, 0))
structure Blocks (B g p q r s : Nat) : Prop where
  pg : p ≠ g
  pq : p ≠ q
  pr : p ≠ r
  ps : p ≠ s
  pB : B ≤ p
section
variable {w wr : World} {g p q r s : Nat} {S M a b c d : Value} {la lb lc ld : List Int}
theorem Lin.rot (h : Lin w g p q r s S M wr a b c d la lb lc ld) : Lin w g q r s p S M wr b c d a lb lc ld la := ⟨h.four.rot, h.bel, h.hg, h.hq, h.hr, h.hs, h.hp⟩
theorem heap_set0 {W : World} {p : Nat} {a M v : Value} (h : W.heap[p]? = some (.cells #[a, M] 52 (0, 0))) : (W.setCell ⟨p, 0, none⟩ v).heap[p]? = some (.cells #[v, M] 52 (0, 0)) := by
  have := blk_set h 0 v
  simpa using this
theorem Lin.app (h : Lin w g p q r s S M wr a b c d la lb lc ld) (hb : Blocks w.heap.size g p q r s) {W w1 : World} {v1 : Value} {l1 : List Int} (hW : W.heap = wr.heap)
    (hr1 : Kd.R (Kd.int .i64) 3 w1 w.heap.size (fun k => some k ≠ b.ownBlock ∧ some k ≠ c.ownBlock ∧ some k ≠ d.ownBlock) v1 l1) (hbl : Below w.heap.size w w1)
    (hgr : W.grownBy w1 a.ownBlock) (hat : v1.ownBlock = a.ownBlock ∨ ∃ b, v1.ownBlock = some b ∧ W.heap.size ≤ b) : Lin w g p q r s S M (w1.setCell ⟨p, 0, none⟩ v1) v1 b c d l1 lb lc ld := by
  have mv : ∀ {ok : Nat → Prop} {v : Value} {l : List Int}, Kd.R (Kd.int .i64) 3 wr w.heap.size ok v l → Kd.R (Kd.int .i64) 3 W w.heap.size ok v l := fun hh => Kd.R_move hh (fun _ _ => by rw [hW])
  have f1 := (h.four.move (w1 := W) mv).grow hr1 hgr hat
  have old : ∀ {k : Nat} {x y : Value}, wr.heap[k]? = some (.cells #[x, y] 52 (0, 0)) → w1.heap[k]? = some (.cells #[x, y] 52 (0, 0)) := fun {k x y} hk => by
    have hk' : W.heap[k]? = some (.cells #[x, y] 52 (0, 0)) := by rw [hW]; exact hk
    rw [hgr.block k (Array.getElem?_eq_some_iff.1 hk').1 (Kd.R_ne (mv h.four.ra) hk' (by decide))]
    exact hk'
  have hp1 := old h.hp
  refine ⟨f1.move (fun hh => Kd.R_set hh hp1 (fun q hq => by simp [Kd.int, Kd.scalar] at hq; subst hq; decide) 0 v1), hbl.setCell (by exact hb.pB) _, ?_, heap_set0 hp1, ?_, ?_, ?_⟩
  · rw [Below.heap_setCell _ _ _ _ (Ne.symm hb.pg)]; exact old h.hg
  · rw [Below.heap_setCell _ _ _ _ (Ne.symm hb.pq)]; exact old h.hq
  · rw [Below.heap_setCell _ _ _ _ (Ne.symm hb.pr)]; exact old h.hr
  · rw [Below.heap_setCell _ _ _ _ (Ne.symm hb.ps)]; exact old h.hs
end
section
variable {w wr : World} {g p q r s : Nat} {S M a b c d : Value} {la lb lc ld : List Int}
theorem Lin.drew (h : Lin w g p q r s S M wr a b c d la lb lc ld) : Lin w g p q r s S M wr.drew a b c d la lb lc ld := ⟨h.four.move (fun hh => Kd.R_drew hh), h.bel.drew, h.hg, h.hp, h.hq, h.hr, h.hs⟩
theorem Lin.old (h : Lin w g p q r s S M wr a b c d la lb lc ld) {W w1 : World} (hW : W.heap = wr.heap) (hgr : W.grownBy w1 a.ownBlock) : w1.heap[p]? = some (.cells #[a, M] 52 (0, 0)) := by
  have hk' : W.heap[p]? = some (.cells #[a, M] 52 (0, 0)) := by rw [hW]; exact h.hp
  rw [hgr.block p (Array.getElem?_eq_some_iff.1 hk').1 (Kd.R_ne (Kd.R_move h.four.ra (fun _ _ => by rw [hW])) hk' (by decide))]
  exact hk'
theorem Lin.oldg (h : Lin w g p q r s S M wr a b c d la lb lc ld) {W w1 : World} (hW : W.heap = wr.heap) (hgr : W.grownBy w1 a.ownBlock) : w1.heap[g]? = some (.cells #[S, M] 52 (0, 0)) := by
  have hk' : W.heap[g]? = some (.cells #[S, M] 52 (0, 0)) := by rw [hW]; exact h.hg
  rw [hgr.block g (Array.getElem?_eq_some_iff.1 hk').1 (Kd.R_ne (Kd.R_move h.four.ra (fun _ _ => by rw [hW])) hk' (by decide))]
  exact hk'
end
/-- what Average answers for a vibration that may be -/
theorem avg_any {xs ms : List Int} (h : vibB xs ms = true) {n : Nat} (h1 : 1 ≤ n) (h2 : n ≤ 24) {n0 n1 : Nat} (hl0 : xs.length = n0) (hl1 : ms.length = n1) (A0 : Option Addr) (c0 : Nat) (A1 : Option Addr) (c1 : Nat) (w : World)
    (r0 : Kd.C (Kd.int .i64) w A0 n0 xs) (g0 : n0 ≤ c0) (r1 : Kd.C (Kd.int .i64) w A1 n1 ms) (g1 : n1 ≤ c1) :
    Calls Try.prog 37 #[.agg #[.slice A0 n0 c0, .slice A1 n1 c1], .int .i64 n] w fun e w' => ∃ A c, e = .returned (.tuple #[.slice A n c, .int .i64 ((n * (n1 - 1) : Nat) : Int), .int .i64 0]) ∧ RdW w' A n (avgL xs ms n) ∧ Below w.heap.size w w' := by
  subst hl0 hl1
  obtain ⟨k, hk⟩ := Average_ev xs ms n
  have e : avg xs ms n = (avgL xs ms n, ((n * (ms.length - 1) : Nat) : Int), 0) := by
    unfold avg
    rw [if_pos h, if_pos (by rw [withinB_iff]; omega), Int.toNat_natCast]
  rw [e] at hk
  refine (health_Average.calls k A0 c0 xs A1 c1 ms n _ _ _ w r0 g0 r1 g1 (hk k (Nat.le_refl _))).mono ?_
  rintro e w' ⟨v, rfl, hv, hb⟩
  obtain ⟨A, c, rfl, _, hc⟩ := Kd.R_reads hv
  have hlen : (avgL xs ms n).length = n := by unfold avgL; exact rowF_len _ _
  have hw := RdW.of hc
  rw [hlen] at hw ⊢
  exact ⟨A, c, rfl, hw, hb⟩
end Go.Proofs.Ytcmjpcmdgnbbpaa.PH
