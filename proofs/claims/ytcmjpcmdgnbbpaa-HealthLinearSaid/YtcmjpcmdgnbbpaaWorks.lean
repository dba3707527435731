/- The check inside every law of Health: the program works at all. -/
import Derived.Test.YtcmjpcmdgnbbpaaExplain
namespace Go.Proofs.Ytcmjpcmdgnbbpaa
open Go.RowKit
def pairs5 : List (Int × Int) := [(0, 0), (0, 1), (0, 2), (1, 1), (2, 1)]
theorem w_ok : okCells 3 3 pairs5 = true := by decide +kernel
theorem w_loose : mem (looseX 3 pairs5) = [0] := by decide +kernel
theorem w_worn : mem (wornS (bysX 3 pairs5) (looseX 3 pairs5)) = [1] := by decide +kernel
theorem w_ch : cA [3, 5, 4, 6] = 1 ∧ cB [3, 5, 4, 6] = 6 ∧ cE [3, 5, 4, 6] = 0 := by decide +kernel
set_option maxRecDepth 100000 in
set_option maxHeartbeats 8000000 in
theorem works_any (w : World) : Calls Try.prog 20 #[] w fun e w' => e = .returned (.bool true) ∧ Below w.heap.size w w' := by
  have HC : Hid (Calls Try.prog 21 #[.slice (some ⟨w.heap.size, 0, none⟩) 4 4] (w.alloc (.cells #[.int .i64 3, .int .i64 5, .int .i64 4, .int .i64 6] 3)) fun e w' => e = .returned (.tuple #[.int .i64 1, .int .i64 6, .int .i64 0]) ∧ Below w.heap.size w w') := by
    show Calls _ _ _ _ _
    have h := Chance_any (some ⟨w.heap.size, 0, none⟩) 4 4 [3, 5, 4, 6] (w.alloc (.cells #[.int .i64 3, .int .i64 5, .int .i64 4, .int .i64 6] 3)) ?_
    · rw [w_ch.1, w_ch.2.1, w_ch.2.2] at h
      exact h.mono fun e w' ⟨h1, h2⟩ => ⟨h1, below_trans (below_a1 _ _) h2⟩
    · refine ⟨rfl, by decide, by decide, by simp, fun k x hx => ⟨w.heap.size, 0, rfl, ?_⟩⟩
      match k with
      | 0 => cases hx; exact cell_new rfl
      | 1 => cases hx; exact cell_new rfl
      | 2 => cases hx; exact cell_new rfl
      | 3 => cases hx; exact cell_new rfl
      | k + 4 => simp at hx
  have HX : Hid (∀ w1 : World, Calls Try.prog 30 #[.int .i64 3, .int .i64 3, .slice (some ⟨w1.heap.size, 0, none⟩) 5 5] (w1.alloc (.cells #[.int .i64 0, .int .i64 0, .int .i64 0, .int .i64 1, .int .i64 0, .int .i64 2, .int .i64 1, .int .i64 1, .int .i64 2, .int .i64 1] 69)) fun e w' =>
      ∃ A1 n1 c1 A2 n2 c2, e = .returned (.tuple #[.slice A1 n1 c1, .slice A2 n2 c2, .int .i64 0]) ∧ RdI w' A1 n1 c1 [0] ∧ RdI w' A2 n2 c2 [1] ∧ Below w1.heap.size w1 w') := by
    show ∀ w1 : World, _
    intro w1
    refine (Explain_any 3 3 (some ⟨w1.heap.size, 0, none⟩) 5 5 pairs5 _ ?_).mono ?_
    · refine ⟨rfl, by decide, fun k x hx => ⟨w1.heap.size, 0, rfl, ?_⟩⟩
      match k with
      | 0 => cases hx; exact ⟨cell_new rfl, cell_new rfl⟩
      | 1 => cases hx; exact ⟨cell_new rfl, cell_new rfl⟩
      | 2 => cases hx; exact ⟨cell_new rfl, cell_new rfl⟩
      | 3 => cases hx; exact ⟨cell_new rfl, cell_new rfl⟩
      | 4 => cases hx; exact ⟨cell_new rfl, cell_new rfl⟩
      | k + 5 => simp [pairs5] at hx
    · rintro e w' ⟨hb, hh⟩
      rcases hh with ⟨h1, _⟩ | ⟨_, A1, n1, c1, A2, n2, c2, rfl, h1, h2, _⟩
      · rw [w_ok] at h1; cases h1
      · rw [w_loose] at h1
        rw [w_worn] at h2
        exact ⟨A1, n1, c1, A2, n2, c2, rfl, h1, h2, below_trans (below_a1 _ _) hb⟩
  have HS : Hid (∀ (A B : Option Addr) (n c m d : Nat) (x : Int) (w : World), RdI w A n c [x] → RdI w B m d [x] → Calls Try.prog 31 #[.slice A n c, .slice B m d] w fun e w' => e = .returned (.bool true) ∧ Below w.heap.size w w') :=
    (show ∀ (A B : Option Addr), _ from fun A B n c m d x w h1 h2 => (sameInts_any A B n c m d [x] [x] w h1 h2).mono fun e w' ⟨h3, h4⟩ => ⟨by rw [h3]; simp [sameB], h4⟩)
  go_enter Try.func20, Try.ntmps20
  go_wp2_with (first
    | (go_at_call 21; refine HC.out.mono ?_; rintro e w1 ⟨rfl, hb1⟩; have HB1 := Lib.hid hb1; clear hb1)
    | (go_at_call 30; refine (HX.out _).mono ?_; rintro e w2 ⟨A1, n1, c1, A2, n2, c2, rfl, hr1, hr2, hb2⟩; have HB2 := Lib.hid hb2; have HR := Lib.hid (And.intro hr1 hr2); clear hb2 hr1 hr2))
  refine (HS.out _ _ _ _ _ _ _ _ (HR.out.1.below (below_a1 _ _)) (RdI.one _ 0)).mono ?_
  rintro e w3 ⟨rfl, hb3⟩
  have HB3 := Lib.hid hb3
  clear hb3
  go_wp2_with fail
  refine (HS.out _ _ _ _ _ _ _ _ ((HR.out.2.below (below_trans (below_a1 _ _) HB3.out)).below (below_a1 _ _)) (RdI.one _ 1)).mono ?_
  rintro e w4 ⟨rfl, hb4⟩
  have HB4 := Lib.hid hb4
  clear hb4
  go_wp2_with fail
  go_ret
  refine ⟨rfl, ?_⟩
  exact below_trans (below_trans (below_trans (below_trans HB1.out HB2.out) (below_trans (below_a1 _ _) HB3.out)) (below_a1 _ _)) HB4.out
end Go.Proofs.Ytcmjpcmdgnbbpaa
