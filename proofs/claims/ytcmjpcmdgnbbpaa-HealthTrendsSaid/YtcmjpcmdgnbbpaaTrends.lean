/- HealthTrends: the walk of the law. -/
import Derived.Test.YtcmjpcmdgnbbpaaWorks
namespace Go.Proofs.Ytcmjpcmdgnbbpaa
open Go.RowKit
set_option maxHeartbeats 1000000 in
theorem long_any (A : Option Addr) (n c : Nat) (w : World) : Calls Try.prog 19 #[.slice A n c] w fun e w' => e = .returned (.bool (decide (6 < n ∧ n ≤ 8))) ∧ w = w' := by
  cases hd : decide (6 < n ∧ n ≤ 8) with
  | true =>
    have h : 6 < n ∧ n ≤ 8 := of_decide_eq_true hd
    have h1 : (6 : Int) < n := by omega
    have h2 : (n : Int) ≤ 8 := by omega
    clear hd
    go_enter Try.func19, Try.ntmps19
    go_wp2_with fail
    go_ret
    exact ⟨rfl, rfl⟩
  | false =>
    have h : ¬ (6 < n ∧ n ≤ 8) := of_decide_eq_false hd
    clear hd
    by_cases h1 : (6 : Int) < n
    · have h2 : ¬ (n : Int) ≤ 8 := by omega
      go_enter Try.func19, Try.ntmps19
      go_wp2_with fail
      go_ret
      exact ⟨rfl, rfl⟩
    · go_enter Try.func19, Try.ntmps19
      go_wp2_with fail
      go_ret
      exact ⟨rfl, rfl⟩
set_option maxRecDepth 100000 in
set_option maxHeartbeats 8000000 in
theorem trends_walk (A : Option Addr) (n c : Nat) (xs : List Int) (w : World) (h : RdI w A n c xs) : Calls Try.prog 3 #[.slice A n c] w fun e w' => e = .returned (.bool true) ∧ Below w.heap.size w w' := by
  have HT := Lib.hid (Trend_any A n c xs w h)
  have HTR : Hid (∀ w1, Below w.heap.size w w1 → Calls Try.prog 18 #[.slice A n c] w1 fun e w' => e = .returned (.tuple #[.int .i64 (tA xs), .int .i64 (cE xs)]) ∧ Below w.heap.size w w') :=
    (show ∀ w1, _ → _ from fun w1 hb => (Trend_ref A n c xs w1 (h.below hb)).mono fun e w' ⟨h1, h2⟩ => ⟨h1, below_trans hb h2⟩)
  have HC : Hid (∀ w1, Below w.heap.size w w1 → Calls Try.prog 21 #[.slice A n c] w1 fun e w' => e = .returned (.tuple #[.int .i64 (cA xs), .int .i64 (cB xs), .int .i64 (cE xs)]) ∧ Below w.heap.size w w') :=
    (show ∀ w1, _ → _ from fun w1 hb => (Chance_any A n c xs w1 (h.below hb)).mono fun e w' ⟨h1, h2⟩ => ⟨h1, below_trans hb h2⟩)
  have HCR : Hid (∀ w1, Below w.heap.size w w1 → Calls Try.prog 22 #[.slice A n c] w1 fun e w' => e = .returned (.tuple #[.int .i64 (cA xs), .int .i64 (cB xs), .int .i64 (cE xs)]) ∧ Below w.heap.size w w') :=
    (show ∀ w1, _ → _ from fun w1 hb => (Chance_ref A n c xs w1 (h.below hb)).mono fun e w' ⟨h1, h2⟩ => ⟨h1, below_trans hb h2⟩)
  have HW : Hid (∀ w1, Below w.heap.size w w1 → Calls Try.prog 20 #[] w1 fun e w' => e = .returned (.bool true) ∧ Below w.heap.size w w') :=
    (show ∀ w1, _ → _ from fun w1 hb => (works_any w1).mono fun e w' ⟨h1, h2⟩ => ⟨h1, below_trans hb h2⟩)
  have HL : Hid (∀ w1, Calls Try.prog 19 #[.slice A n c] w1 fun e w' => e = .returned (.bool (decide (6 < n ∧ n ≤ 8))) ∧ w1 = w') := (show ∀ w1, _ from fun w1 => long_any A n c w1)
  clear h
  generalize tA xs = t at *
  generalize cA xs = a at *
  generalize cB xs = b at *
  generalize cE xs = e0 at *
  cases hl : decide (6 < n ∧ n ≤ 8)
  all_goals
    rw [hl] at HL
    clear hl
    go_enter Try.func3, Try.ntmps3
    go_wp2_with (first
      | (go_at_call 17; refine HT.out.mono ?_; rintro e w1 ⟨rfl, hb1⟩; have HB := Lib.hid hb1; clear hb1 HT)
      | (go_at_call 18; refine (HTR.out _ HB.out).mono ?_; clear HB; rintro e w1 ⟨rfl, hb1⟩; have HB := Lib.hid hb1; clear hb1)
      | (go_at_call 19; refine (HL.out _).mono ?_; rintro e w1 ⟨rfl, rfl⟩)
      | (go_at_call 20; refine (HW.out _ HB.out).mono ?_; clear HB; rintro e w1 ⟨rfl, hb1⟩; have HB := Lib.hid hb1; clear hb1)
      | (go_at_call 21; refine (HC.out _ HB.out).mono ?_; clear HB; rintro e w1 ⟨rfl, hb1⟩; have HB := Lib.hid hb1; clear hb1)
      | (go_at_call 22; refine (HCR.out _ HB.out).mono ?_; clear HB; rintro e w1 ⟨rfl, hb1⟩; have HB := Lib.hid hb1; clear hb1))
  all_goals
    go_ret
    exact ⟨rfl, HB.out⟩
end Go.Proofs.Ytcmjpcmdgnbbpaa
