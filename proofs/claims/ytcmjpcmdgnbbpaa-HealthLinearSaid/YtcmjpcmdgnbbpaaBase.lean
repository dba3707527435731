/- Words for the walks: how a slice of numbers reads in a world, and how that lives on. -/
import Derived.Test.YtcmjpcmdgnbbpaaProg
import Derived.WalkKit
import Derived.WalkSpells
import Derived.WalkLawsBesides
import Derived.Lib.Hide
import Derived.Deep.QuietTactic
import Derived.BigQuiet
import Derived.Shelf.Abstract
import Derived.Deep.DeepMust
import Derived.Deep.LoopGhost
import Derived.Deep.DeepCutAuto
import Derived.Deep.RegionWith
import Derived.Deep.DeepFit
import Derived.StillTailTactics
import Derived.Deep.RegionHeld3
import Derived.Deep.Light
import Derived.Handy
import Derived.PlainAid
import Derived.Outline
namespace Go.Proofs.Ytcmjpcmdgnbbpaa
open Go.RowKit

/-- A slice's value reads as these numbers. -/
structure RdI (w : World) (A : Option Addr) (n c : Nat) (xs : List Int) : Prop where
  len : xs.length = n
  cap : n ≤ c
  big : c ≤ 9223372036854775807
  nil : A = none → c = 0
  cells : ∀ k x, xs[k]? = some x → ∃ b off, A = some ⟨b, off, none⟩ ∧ w.cell? ⟨b, off + k, none⟩ = some (.int .i64 x)

theorem RdI.at {w : World} {A : Option Addr} {n c : Nat} {xs : List Int} (h : RdI w A n c xs) {k : Nat} (hk : k < n) :
    ∃ b off x, A = some ⟨b, off, none⟩ ∧ xs[k]? = some x ∧ w.cell? ⟨b, off + k, none⟩ = some (.int .i64 x) := by
  have hk' : k < xs.length := by rw [h.len]; exact hk
  obtain ⟨b, off, hA, hc⟩ := h.cells k xs[k] (List.getElem?_eq_getElem hk')
  exact ⟨b, off, xs[k], hA, List.getElem?_eq_getElem hk', hc⟩
theorem RdI.size {w : World} {A : Option Addr} {n c : Nat} {xs : List Int} (h : RdI w A n c xs) : n ≤ 9223372036854775807 := Nat.le_trans h.cap h.big

theorem cell_below {w w1 : World} (h : Below w.heap.size w w1) {a : Addr} {v : Value} (hc : w.cell? a = some v) : w1.cell? a = some v :=
  (h.cell (World.block_lt_of_cell? w a hc)).trans hc

theorem RdI.below {w w1 : World} {A : Option Addr} {n c : Nat} {xs : List Int} (h : RdI w A n c xs) (hb : Below w.heap.size w w1) : RdI w1 A n c xs :=
  ⟨h.len, h.cap, h.big, h.nil, fun k x hx => by obtain ⟨b, off, hA, hc⟩ := h.cells k x hx; exact ⟨b, off, hA, cell_below hb hc⟩⟩

theorem RdI.empty (w : World) : RdI w none 0 0 [] := ⟨rfl, by omega, by omega, fun _ => rfl, fun k x hx => by simp at hx⟩

theorem RdI.take {w : World} {A : Option Addr} {n c : Nat} {xs : List Int} (h : RdI w A n c xs) (i : Nat) (hi : i ≤ n) : RdI w A i c (xs.take i) :=
  ⟨by simp [h.len]; omega, by have := h.cap; omega, h.big, h.nil, fun k x hx => by
    rw [List.getElem?_take] at hx
    split at hx
    · exact h.cells k x hx
    · simp at hx⟩

/-- The address behind a cut at the front: as the walk has it. -/
theorem RdI.drop {w : World} {A : Option Addr} {n c : Nat} {xs : List Int} (h : RdI w A n c xs) (i : Nat) (hi : i ≤ n) (A' : Option Addr)
    (hA' : i < n → ∀ b off, A = some ⟨b, off, none⟩ → A' = some ⟨b, off + i, none⟩) (hn : A' = none → A = none) : RdI w A' (n - i) (c - i) (xs.drop i) :=
  ⟨by simp [h.len], by have := h.cap; omega, by have := h.big; omega, fun e => by have := h.nil (hn e); omega, fun k x hx => by
    rw [List.getElem?_drop] at hx
    obtain ⟨b, off, hA, hc⟩ := h.cells (i + k) x hx
    have hlt : i + k < xs.length := by
      have := (List.getElem?_eq_some_iff.1 hx).1
      exact this
    refine ⟨b, off + i, hA' (by have := h.len; omega) b off hA, ?_⟩
    rw [Nat.add_assoc]; exact hc⟩

theorem below_alloc {w W : World} (h : Below w.heap.size w W) (o : Obj) : Below w.heap.size w (W.alloc o) := h.alloc h.size o
theorem below_then {B : Nat} {w w1 w2 : World} (h : Below B w w1) (hB : B ≤ w1.heap.size) (k : Below w1.heap.size w1 w2) : Below B w w2 :=
  h.trans ⟨k.os, k.tape, k.output, k.size, fun i hi => k.block i (Nat.lt_of_lt_of_le hi hB)⟩
theorem below_trans {w w1 w2 : World} (h : Below w.heap.size w w1) (k : Below w1.heap.size w1 w2) : Below w.heap.size w w2 := below_then h h.size k
theorem below_drewN {B : Nat} {w W : World} (h : Below B w W) (n : Nat) : Below B w (W.drewN n) := ⟨h.os, h.tape, h.output, h.size, h.block⟩

theorem below_a1 (w : World) (o : Obj) : Below w.heap.size w (w.alloc o) := (Below.refl _ _).alloc (Nat.le_refl _) o
theorem below_a2 (w : World) (o p : Obj) : Below w.heap.size w ((w.alloc o).alloc p) := (below_a1 w o).alloc (by simp) p
theorem below_a3 (w : World) (o p q : Obj) : Below w.heap.size w (((w.alloc o).alloc p).alloc q) := (below_a2 w o p).alloc (by simp; omega) q

theorem ret_int {k : IntKind} {a b : Int} (h : a = b) : Ending.returned (.int k a) = .returned (.int k b) := by rw [h]
theorem ret_bool {a b : Bool} (h : a = b) : Ending.returned (.bool a) = .returned (.bool b) := by rw [h]

theorem take_succ_of {α : Type} {xs : List α} {k : Nat} {x : α} (h : xs[k]? = some x) : xs.take (k + 1) = xs.take k ++ [x] := by
  obtain ⟨hk, rfl⟩ := List.getElem?_eq_some_iff.1 h
  exact List.take_succ_eq_append_getElem hk

/-- One cell is seen as it was. -/
theorem drop_of {α : Type} {xs : List α} {k : Nat} {x : α} (h : xs[k]? = some x) : xs.drop k = x :: xs.drop (k + 1) := by
  obtain ⟨hk, rfl⟩ := List.getElem?_eq_some_iff.1 h
  exact List.drop_eq_getElem_cons hk
end Go.Proofs.Ytcmjpcmdgnbbpaa
