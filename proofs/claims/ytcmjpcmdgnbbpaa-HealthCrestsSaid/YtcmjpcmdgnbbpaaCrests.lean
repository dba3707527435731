/- HealthCrests: the walk of the law. -/
import Derived.Test.YtcmjpcmdgnbbpaaCrest
namespace Go.Proofs.Ytcmjpcmdgnbbpaa
open Go.RowKit
theorem low_between {p s n : Int} (hs : 0 < s) (h1 : s ≤ p) (h2 : p ≤ n * s) : 0 < lowD p s ∧ lowD p s ≤ s ∧ lowD p s ≤ lowN p s ∧ lowN p s ≤ n * lowD p s := by
  obtain ⟨g, hg⟩ : ∃ g : Nat, Int.gcd p s = g := ⟨_, rfl⟩
  have hg0 : 0 < g := by rw [← hg]; exact Int.gcd_pos_of_ne_zero_right _ (by omega)
  have hp : (g : Int) ∣ p := by rw [← hg]; exact Int.gcd_dvd_left _ _
  have hd : (g : Int) ∣ s := by rw [← hg]; exact Int.gcd_dvd_right _ _
  obtain ⟨a, rfl⟩ := hp
  obtain ⟨b, rfl⟩ := hd
  unfold lowN lowD
  rw [hg, Int.mul_tdiv_cancel_left _ (by omega), Int.mul_tdiv_cancel_left _ (by omega)]
  have hgi : (0 : Int) < g := by omega
  have hb : 0 < b := by
    rcases Int.lt_or_le 0 b with h | h
    · exact h
    · have := Int.mul_nonpos_of_nonneg_of_nonpos (show (0 : Int) ≤ g by omega) h
      omega
  refine ⟨hb, ?_, Int.le_of_mul_le_mul_left h1 hgi, ?_⟩
  · have := Int.mul_le_mul_of_nonneg_right (show (1 : Int) ≤ g by omega) (show 0 ≤ b by omega)
    omega
  · refine Int.le_of_mul_le_mul_left (a := (g : Int)) ?_ hgi
    rw [Int.mul_left_comm]
    exact h2
theorem cr_facts (pk s n : Int) (h : crOk pk s n = true) : (1 ≤ n ∧ n ≤ 24) ∧ (s = 0 ∨ 0 < s ∧ (0 < crB pk s n ∧ crB pk s n ≤ 1152000000) ∧ crB pk s n ≤ crA pk s n ∧ crA pk s n ≤ n * crB pk s n) := by
  have h' := h
  simp only [crOk, Bool.and_eq_true, withinB_iff] at h'
  obtain ⟨⟨h1, h2⟩, h3⟩ := h'
  refine ⟨h1, ?_⟩
  by_cases hs : s = 0
  · exact .inl hs
  · have h4 := prod_bd h1 h2
    have h5 : n * pk ≤ n * s := Int.mul_le_mul_of_nonneg_left h3.1 (by omega)
    have h6 := low_between (p := n * pk) (s := s) (n := n) (by omega) h3.2 h5
    refine .inr ⟨by omega, ?_⟩
    unfold crA crB
    rw [h, if_pos rfl, if_pos rfl, if_neg hs, if_neg hs]
    omega
set_option maxRecDepth 100000 in
set_option maxHeartbeats 8000000 in
theorem crests_walk (en pk s dn n : Int) (w : World) : Calls Try.prog 4 #[.agg #[.int .i64 en, .int .i64 pk, .int .i64 s, .int .i64 dn], .int .i64 n] w fun e w' => e = .returned (.bool true) ∧ Below w.heap.size w w' := by
  obtain ⟨W0, hW0⟩ : ∃ W0, w.alloc (.cells #[.int .i64 en, .int .i64 pk, .int .i64 s, .int .i64 dn] 31) = W0 := ⟨_, rfl⟩
  have HF : Hid (∀ w1, Below W0.heap.size W0 w1 → Below w.heap.size w w1) := (show ∀ w1, _ → _ from fun w1 hb => below_trans (by rw [← hW0]; exact below_a1 _ _) hb)
  have HD : Hid (∀ w1, Below W0.heap.size W0 w1 → w1.cell? ⟨w.heap.size, 0, none⟩ = some (.int .i64 en) ∧ w1.cell? ⟨w.heap.size, 1, none⟩ = some (.int .i64 pk) ∧ w1.cell? ⟨w.heap.size, 2, none⟩ = some (.int .i64 s) ∧ w1.cell? ⟨w.heap.size, 3, none⟩ = some (.int .i64 dn)) :=
    (show ∀ w1, _ → _ from fun w1 hb => ⟨cell_below hb (by rw [← hW0]; exact cell_new rfl), cell_below hb (by rw [← hW0]; exact cell_new rfl), cell_below hb (by rw [← hW0]; exact cell_new rfl), cell_below hb (by rw [← hW0]; exact cell_new rfl)⟩)
  have HC : Hid (∀ w1, Below W0.heap.size W0 w1 → Calls Try.prog 23 #[.agg #[.int .i64 en, .int .i64 pk, .int .i64 s, .int .i64 dn], .int .i64 n] w1 fun e w' => e = .returned (.tuple #[.int .i64 (crA pk s n), .int .i64 (crB pk s n), .int .i64 (crE pk s n)]) ∧ Below W0.heap.size W0 w') :=
    (show ∀ w1, _ → _ from fun w1 hb => (Crest_any en pk s dn n w1).mono fun e w' ⟨h1, h2⟩ => ⟨h1, below_trans hb h2⟩)
  have HR : Hid (∀ w1, Below W0.heap.size W0 w1 → Calls Try.prog 24 #[.agg #[.int .i64 en, .int .i64 pk, .int .i64 s, .int .i64 dn], .int .i64 n] w1 fun e w' => e = .returned (.tuple #[.int .i64 (crA pk s n), .int .i64 (crB pk s n), .int .i64 (crE pk s n)]) ∧ Below W0.heap.size W0 w') :=
    (show ∀ w1, _ → _ from fun w1 hb => (Crest_ref en pk s dn n w1).mono fun e w' ⟨h1, h2⟩ => ⟨h1, below_trans hb h2⟩)
  have HW : Hid (∀ w1, Below W0.heap.size W0 w1 → Calls Try.prog 20 #[] w1 fun e w' => e = .returned (.bool true) ∧ Below W0.heap.size W0 w') :=
    (show ∀ w1, _ → _ from fun w1 hb => (works_any w1).mono fun e w' ⟨h1, h2⟩ => ⟨h1, below_trans hb h2⟩)
  have hb0 : Below W0.heap.size W0 W0 := Below.refl _ _
  obtain ⟨c0, c1, c2, c3⟩ := HD.out W0 hb0
  subst hW0
  have HB := Lib.hid hb0
  clear hb0
  cases hk : crOk pk s n with
  | false =>
    have e0 : crE pk s n = 1 := by simp [crE, hk]
    rw [e0] at HC HR
    clear hk e0
    generalize crA pk s n = x at *
    generalize crB pk s n = y at *
    go_enter Try.func4, Try.ntmps4
    go_wp2_with (first
      | (go_at_call 23; refine (HC.out _ HB.out).mono ?_; clear HB c0 c1 c2 c3; rintro e w1 ⟨rfl, hb1⟩; obtain ⟨c0, c1, c2, c3⟩ := HD.out w1 hb1; have HB := Lib.hid hb1; clear hb1)
      | (go_at_call 24; refine (HR.out _ HB.out).mono ?_; clear HB c0 c1 c2 c3; rintro e w1 ⟨rfl, hb1⟩; obtain ⟨c0, c1, c2, c3⟩ := HD.out w1 hb1; have HB := Lib.hid hb1; clear hb1)
      | (go_at_call 20; refine (HW.out _ HB.out).mono ?_; clear HB c0 c1 c2 c3; rintro e w1 ⟨rfl, hb1⟩; obtain ⟨c0, c1, c2, c3⟩ := HD.out w1 hb1; have HB := Lib.hid hb1; clear hb1))
    go_ret
    exact ⟨rfl, HF.out _ HB.out⟩
  | true =>
    have e0 : crE pk s n = 0 := by simp [crE, hk]
    rw [e0] at HC HR
    obtain ⟨hn, hh⟩ := cr_facts pk s n hk
    rcases hh with rfl | ⟨hs, hy, hyx, hxy⟩
    · have e1 : crA pk 0 n = 0 := by simp [crA, hk]
      have e2 : crB pk 0 n = 1 := by simp [crB, hk]
      rw [e1, e2] at HC HR
      clear hk e0 e1 e2
      go_enter Try.func4, Try.ntmps4
      go_wp2_with (first
        | (go_at_call 23; refine (HC.out _ HB.out).mono ?_; clear HB c0 c1 c2 c3; rintro e w1 ⟨rfl, hb1⟩; obtain ⟨c0, c1, c2, c3⟩ := HD.out w1 hb1; have HB := Lib.hid hb1; clear hb1)
        | (go_at_call 24; refine (HR.out _ HB.out).mono ?_; clear HB c0 c1 c2 c3; rintro e w1 ⟨rfl, hb1⟩; obtain ⟨c0, c1, c2, c3⟩ := HD.out w1 hb1; have HB := Lib.hid hb1; clear hb1)
        | (go_at_call 20; refine (HW.out _ HB.out).mono ?_; clear HB c0 c1 c2 c3; rintro e w1 ⟨rfl, hb1⟩; obtain ⟨c0, c1, c2, c3⟩ := HD.out w1 hb1; have HB := Lib.hid hb1; clear hb1))
      go_ret
      exact ⟨rfl, HF.out _ HB.out⟩
    · clear hk e0
      generalize crA pk s n = x at *
      generalize crB pk s n = y at *
      obtain ⟨p, hp⟩ : ∃ p, n * y = p := ⟨_, rfl⟩
      have hny : 0 ≤ n * y ∧ n * y ≤ 27648000000 := by
        refine ⟨Int.mul_nonneg (by omega) (by omega), ?_⟩
        have h := Int.mul_le_mul hn.2 hy.2 (by omega) (by decide : (0 : Int) ≤ 24)
        omega
      have hwp : IntKind.i64.wrap (n * y) = p := by rw [IntKind.wrap_i64, hp]; omega
      rw [hp] at hxy hny
      have hs0 : ¬ s = 0 := by omega
      clear hp
      go_enter Try.func4, Try.ntmps4
      go_wp2_with (first
        | (go_at_call 23; refine (HC.out _ HB.out).mono ?_; clear HB c0 c1 c2 c3; rintro e w1 ⟨rfl, hb1⟩; obtain ⟨c0, c1, c2, c3⟩ := HD.out w1 hb1; have HB := Lib.hid hb1; clear hb1)
        | (go_at_call 24; refine (HR.out _ HB.out).mono ?_; clear HB c0 c1 c2 c3; rintro e w1 ⟨rfl, hb1⟩; obtain ⟨c0, c1, c2, c3⟩ := HD.out w1 hb1; have HB := Lib.hid hb1; clear hb1)
        | (go_at_call 20; refine (HW.out _ HB.out).mono ?_; clear HB c0 c1 c2 c3; rintro e w1 ⟨rfl, hb1⟩; obtain ⟨c0, c1, c2, c3⟩ := HD.out w1 hb1; have HB := Lib.hid hb1; clear hb1))
      go_ret
      exact ⟨rfl, HF.out _ HB.out⟩
end Go.Proofs.Ytcmjpcmdgnbbpaa
