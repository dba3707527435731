/- Crest of the program and of the reference. -/
import Derived.Test.YtcmjpcmdgnbbpaaWorks
namespace Go.Proofs.Ytcmjpcmdgnbbpaa
open Go.RowKit
set_option linter.unusedVariables false
def crOk (pk s n : Int) : Bool := withinB n 1 24 && withinB pk 0 48000000 && withinB s pk (n * pk)
def crA (pk s n : Int) : Int := if crOk pk s n = true then (if s = 0 then 0 else lowN (n * pk) s) else 0
def crB (pk s n : Int) : Int := if crOk pk s n = true then (if s = 0 then 1 else lowD (n * pk) s) else 0
def crE (pk s n : Int) : Int := if crOk pk s n = true then 0 else 1
theorem prod_bd {n pk : Int} (h1 : 1 ≤ n ∧ n ≤ 24) (h2 : 0 ≤ pk ∧ pk ≤ 48000000) : 0 ≤ n * pk ∧ n * pk ≤ 1152000000 := by
  refine ⟨Int.mul_nonneg (by omega) h2.1, ?_⟩
  have h := Int.mul_le_mul h1.2 h2.2 h2.1 (by decide : (0 : Int) ≤ 24)
  omega
set_option maxRecDepth 100000 in
set_option maxHeartbeats 8000000 in
theorem Crest_any (en pk s dn n : Int) (w : World) :
    Calls Try.prog 23 #[.agg #[.int .i64 en, .int .i64 pk, .int .i64 s, .int .i64 dn], .int .i64 n] w fun e w' => e = .returned (.tuple #[.int .i64 (crA pk s n), .int .i64 (crB pk s n), .int .i64 (crE pk s n)]) ∧ Below w.heap.size w w' := by
  cases h1 : withinB n 1 24 with
  | false =>
    have E1 : Hid (crA pk s n = 0 ∧ crB pk s n = 0 ∧ crE pk s n = 1) := (show _ ∧ _ ∧ _ by simp [crA, crB, crE, crOk, h1])
    have H1 : Hid (∀ w, Calls Try.prog 62 #[.int .i64 (n), .int .i64 (1), .int .i64 (24)] w fun e w' => e = .returned (.bool false) ∧ w = w') := (show ∀ w, _ from fun w => by have := within_any (n) (1) (24) w; rw [h1] at this; exact this)
    clear h1
    go_enter Try.func23, Try.ntmps23
    go_wp2_with (go_at_call 62; with_reducible refine (H1.out _).mono ?_; rintro e w1 ⟨rfl, rfl⟩)
    go_ret3
    exact ⟨by rw [E1.out.1, E1.out.2.1, E1.out.2.2]; rfl, by repeat (first | exact Below.refl _ _ | refine Below.drew ?_ | refine below_drewN ?_ _ | refine below_alloc ?_ _)⟩
  | true =>
    have H1 : Hid (∀ w, Calls Try.prog 62 #[.int .i64 (n), .int .i64 (1), .int .i64 (24)] w fun e w' => e = .returned (.bool true) ∧ w = w') := (show ∀ w, _ from fun w => by have := within_any (n) (1) (24) w; rw [h1] at this; exact this)
    have g1 : 1 ≤ n ∧ n ≤ 24 := (withinB_iff _ _ _).1 h1
    cases h2 : withinB pk 0 48000000 with
    | false =>
      have E1 : Hid (crA pk s n = 0 ∧ crB pk s n = 0 ∧ crE pk s n = 1) := (show _ ∧ _ ∧ _ by simp [crA, crB, crE, crOk, h1, h2])
      have H2 : Hid (∀ w, Calls Try.prog 62 #[.int .i64 (pk), .int .i64 (0), .int .i64 (48000000)] w fun e w' => e = .returned (.bool false) ∧ w = w') := (show ∀ w, _ from fun w => by have := within_any (pk) (0) (48000000) w; rw [h2] at this; exact this)
      clear h1 h2
      go_enter Try.func23, Try.ntmps23
      go_wp2_with (first | (go_at_call 62; with_reducible refine (H1.out _).mono ?_; rintro e w1 ⟨rfl, rfl⟩) | (go_at_call 62; with_reducible refine (H2.out _).mono ?_; rintro e w1 ⟨rfl, rfl⟩))
      go_ret3
      exact ⟨by rw [E1.out.1, E1.out.2.1, E1.out.2.2]; rfl, by repeat (first | exact Below.refl _ _ | refine Below.drew ?_ | refine below_drewN ?_ _ | refine below_alloc ?_ _)⟩
    | true =>
      have H2 : Hid (∀ w, Calls Try.prog 62 #[.int .i64 (pk), .int .i64 (0), .int .i64 (48000000)] w fun e w' => e = .returned (.bool true) ∧ w = w') := (show ∀ w, _ from fun w => by have := within_any (pk) (0) (48000000) w; rw [h2] at this; exact this)
      have g2 : 0 ≤ pk ∧ pk ≤ 48000000 := (withinB_iff _ _ _).1 h2
      have g3 := prod_bd g1 g2
      obtain ⟨p, hp⟩ : ∃ p, n * pk = p := ⟨_, rfl⟩
      have hw : IntKind.i64.wrap (n * pk) = p := by rw [IntKind.wrap_i64, hp]; omega
      rw [hp] at g3
      cases h3 : withinB s pk p with
      | false =>
        have E1 : Hid (crA pk s n = 0 ∧ crB pk s n = 0 ∧ crE pk s n = 1) := (show _ ∧ _ ∧ _ by simp [crA, crB, crE, crOk, h1, h2, hp, h3])
        have H3 : Hid (∀ w, Calls Try.prog 62 #[.int .i64 (s), .int .i64 (pk), .int .i64 (p)] w fun e w' => e = .returned (.bool false) ∧ w = w') := (show ∀ w, _ from fun w => by have := within_any (s) (pk) (p) w; rw [h3] at this; exact this)
        clear h1 h2 h3 hp
        go_enter Try.func23, Try.ntmps23
        go_wp2_with (first | (go_at_call 62; with_reducible refine (H1.out _).mono ?_; rintro e w1 ⟨rfl, rfl⟩) | (go_at_call 62; with_reducible refine (H2.out _).mono ?_; rintro e w1 ⟨rfl, rfl⟩) | (go_at_call 62; with_reducible refine (H3.out _).mono ?_; rintro e w1 ⟨rfl, rfl⟩))
        go_ret3
        exact ⟨by rw [E1.out.1, E1.out.2.1, E1.out.2.2]; rfl, by repeat (first | exact Below.refl _ _ | refine Below.drew ?_ | refine below_drewN ?_ _ | refine below_alloc ?_ _)⟩
      | true =>
        have H3 : Hid (∀ w, Calls Try.prog 62 #[.int .i64 (s), .int .i64 (pk), .int .i64 (p)] w fun e w' => e = .returned (.bool true) ∧ w = w') := (show ∀ w, _ from fun w => by have := within_any (s) (pk) (p) w; rw [h3] at this; exact this)
        have g4 : pk ≤ s ∧ s ≤ p := (withinB_iff _ _ _).1 h3
        by_cases hs : s = 0
        · subst hs
          have E1 : Hid (crA pk 0 n = 0 ∧ crB pk 0 n = 1 ∧ crE pk 0 n = 0) := (show _ ∧ _ ∧ _ by simp [crA, crB, crE, crOk, h1, h2, hp, h3])
          clear h1 h2 h3 hp
          go_enter Try.func23, Try.ntmps23
          go_wp2_with (first | (go_at_call 62; with_reducible refine (H1.out _).mono ?_; rintro e w1 ⟨rfl, rfl⟩) | (go_at_call 62; with_reducible refine (H2.out _).mono ?_; rintro e w1 ⟨rfl, rfl⟩) | (go_at_call 62; with_reducible refine (H3.out _).mono ?_; rintro e w1 ⟨rfl, rfl⟩))
          go_ret3
          exact ⟨by rw [E1.out.1, E1.out.2.1, E1.out.2.2]; rfl, by repeat (first | exact Below.refl _ _ | refine Below.drew ?_ | refine below_drewN ?_ _ | refine below_alloc ?_ _)⟩
        · have E1 : Hid (crA pk s n = lowN p s ∧ crB pk s n = lowD p s ∧ crE pk s n = 0) := (show _ ∧ _ ∧ _ by simp [crA, crB, crE, crOk, h1, h2, hp, h3, hs])
          have HL := Lib.hid (lowest_any p s)
          clear h1 h2 h3 hp
          generalize lowN p s = x at *
          generalize lowD p s = y at *
          go_enter Try.func23, Try.ntmps23
          go_wp2_with (first | (go_at_call 62; with_reducible refine (H1.out _).mono ?_; rintro e w1 ⟨rfl, rfl⟩) | (go_at_call 62; with_reducible refine (H2.out _).mono ?_; rintro e w1 ⟨rfl, rfl⟩) | (go_at_call 62; with_reducible refine (H3.out _).mono ?_; rintro e w1 ⟨rfl, rfl⟩) | (go_at_call 59; refine (HL.out _ (by omega) (by omega) (by omega) (by omega)).mono ?_; rintro e w1 ⟨rfl, hb1⟩; have HB1 := Lib.hid hb1; clear hb1))
          go_ret3
          exact ⟨by rw [E1.out.1, E1.out.2.1, E1.out.2.2]; rfl, below_trans (below_a1 _ _) HB1.out⟩
set_option maxRecDepth 100000 in
set_option maxHeartbeats 8000000 in
theorem Crest_ref (en pk s dn n : Int) (w : World) :
    Calls Try.prog 24 #[.agg #[.int .i64 en, .int .i64 pk, .int .i64 s, .int .i64 dn], .int .i64 n] w fun e w' => e = .returned (.tuple #[.int .i64 (crA pk s n), .int .i64 (crB pk s n), .int .i64 (crE pk s n)]) ∧ Below w.heap.size w w' := by
  cases h1 : withinB n 1 24 with
  | false =>
    have E1 : Hid (crA pk s n = 0 ∧ crB pk s n = 0 ∧ crE pk s n = 1) := (show _ ∧ _ ∧ _ by simp [crA, crB, crE, crOk, h1])
    have H1 : Hid (∀ w, Calls Try.prog 63 #[.int .i64 (n), .int .i64 (1), .int .i64 (24)] w fun e w' => e = .returned (.bool false) ∧ w = w') := (show ∀ w, _ from fun w => by have := within_ref (n) (1) (24) w; rw [h1] at this; exact this)
    clear h1
    go_enter Try.func24, Try.ntmps24
    go_wp2_with (go_at_call 63; with_reducible refine (H1.out _).mono ?_; rintro e w1 ⟨rfl, rfl⟩)
    go_ret3
    exact ⟨by rw [E1.out.1, E1.out.2.1, E1.out.2.2]; rfl, by repeat (first | exact Below.refl _ _ | refine Below.drew ?_ | refine below_drewN ?_ _ | refine below_alloc ?_ _)⟩
  | true =>
    have H1 : Hid (∀ w, Calls Try.prog 63 #[.int .i64 (n), .int .i64 (1), .int .i64 (24)] w fun e w' => e = .returned (.bool true) ∧ w = w') := (show ∀ w, _ from fun w => by have := within_ref (n) (1) (24) w; rw [h1] at this; exact this)
    have g1 : 1 ≤ n ∧ n ≤ 24 := (withinB_iff _ _ _).1 h1
    cases h2 : withinB pk 0 48000000 with
    | false =>
      have E1 : Hid (crA pk s n = 0 ∧ crB pk s n = 0 ∧ crE pk s n = 1) := (show _ ∧ _ ∧ _ by simp [crA, crB, crE, crOk, h1, h2])
      have H2 : Hid (∀ w, Calls Try.prog 63 #[.int .i64 (pk), .int .i64 (0), .int .i64 (48000000)] w fun e w' => e = .returned (.bool false) ∧ w = w') := (show ∀ w, _ from fun w => by have := within_ref (pk) (0) (48000000) w; rw [h2] at this; exact this)
      clear h1 h2
      go_enter Try.func24, Try.ntmps24
      go_wp2_with (first | (go_at_call 63; with_reducible refine (H1.out _).mono ?_; rintro e w1 ⟨rfl, rfl⟩) | (go_at_call 63; with_reducible refine (H2.out _).mono ?_; rintro e w1 ⟨rfl, rfl⟩))
      go_ret3
      exact ⟨by rw [E1.out.1, E1.out.2.1, E1.out.2.2]; rfl, by repeat (first | exact Below.refl _ _ | refine Below.drew ?_ | refine below_drewN ?_ _ | refine below_alloc ?_ _)⟩
    | true =>
      have H2 : Hid (∀ w, Calls Try.prog 63 #[.int .i64 (pk), .int .i64 (0), .int .i64 (48000000)] w fun e w' => e = .returned (.bool true) ∧ w = w') := (show ∀ w, _ from fun w => by have := within_ref (pk) (0) (48000000) w; rw [h2] at this; exact this)
      have g2 : 0 ≤ pk ∧ pk ≤ 48000000 := (withinB_iff _ _ _).1 h2
      have g3 := prod_bd g1 g2
      obtain ⟨p, hp⟩ : ∃ p, n * pk = p := ⟨_, rfl⟩
      have hw : IntKind.i64.wrap (n * pk) = p := by rw [IntKind.wrap_i64, hp]; omega
      rw [hp] at g3
      cases h3 : withinB s pk p with
      | false =>
        have E1 : Hid (crA pk s n = 0 ∧ crB pk s n = 0 ∧ crE pk s n = 1) := (show _ ∧ _ ∧ _ by simp [crA, crB, crE, crOk, h1, h2, hp, h3])
        have H3 : Hid (∀ w, Calls Try.prog 63 #[.int .i64 (s), .int .i64 (pk), .int .i64 (p)] w fun e w' => e = .returned (.bool false) ∧ w = w') := (show ∀ w, _ from fun w => by have := within_ref (s) (pk) (p) w; rw [h3] at this; exact this)
        clear h1 h2 h3 hp
        go_enter Try.func24, Try.ntmps24
        go_wp2_with (first | (go_at_call 63; with_reducible refine (H1.out _).mono ?_; rintro e w1 ⟨rfl, rfl⟩) | (go_at_call 63; with_reducible refine (H2.out _).mono ?_; rintro e w1 ⟨rfl, rfl⟩) | (go_at_call 63; with_reducible refine (H3.out _).mono ?_; rintro e w1 ⟨rfl, rfl⟩))
        go_ret3
        exact ⟨by rw [E1.out.1, E1.out.2.1, E1.out.2.2]; rfl, by repeat (first | exact Below.refl _ _ | refine Below.drew ?_ | refine below_drewN ?_ _ | refine below_alloc ?_ _)⟩
      | true =>
        have H3 : Hid (∀ w, Calls Try.prog 63 #[.int .i64 (s), .int .i64 (pk), .int .i64 (p)] w fun e w' => e = .returned (.bool true) ∧ w = w') := (show ∀ w, _ from fun w => by have := within_ref (s) (pk) (p) w; rw [h3] at this; exact this)
        have g4 : pk ≤ s ∧ s ≤ p := (withinB_iff _ _ _).1 h3
        by_cases hs : s = 0
        · subst hs
          have E1 : Hid (crA pk 0 n = 0 ∧ crB pk 0 n = 1 ∧ crE pk 0 n = 0) := (show _ ∧ _ ∧ _ by simp [crA, crB, crE, crOk, h1, h2, hp, h3])
          clear h1 h2 h3 hp
          go_enter Try.func24, Try.ntmps24
          go_wp2_with (first | (go_at_call 63; with_reducible refine (H1.out _).mono ?_; rintro e w1 ⟨rfl, rfl⟩) | (go_at_call 63; with_reducible refine (H2.out _).mono ?_; rintro e w1 ⟨rfl, rfl⟩) | (go_at_call 63; with_reducible refine (H3.out _).mono ?_; rintro e w1 ⟨rfl, rfl⟩))
          go_ret3
          exact ⟨by rw [E1.out.1, E1.out.2.1, E1.out.2.2]; rfl, by repeat (first | exact Below.refl _ _ | refine Below.drew ?_ | refine below_drewN ?_ _ | refine below_alloc ?_ _)⟩
        · have E1 : Hid (crA pk s n = lowN p s ∧ crB pk s n = lowD p s ∧ crE pk s n = 0) := (show _ ∧ _ ∧ _ by simp [crA, crB, crE, crOk, h1, h2, hp, h3, hs])
          have HL := Lib.hid (lowest_ref p s)
          clear h1 h2 h3 hp
          generalize lowN p s = x at *
          generalize lowD p s = y at *
          go_enter Try.func24, Try.ntmps24
          go_wp2_with (first | (go_at_call 63; with_reducible refine (H1.out _).mono ?_; rintro e w1 ⟨rfl, rfl⟩) | (go_at_call 63; with_reducible refine (H2.out _).mono ?_; rintro e w1 ⟨rfl, rfl⟩) | (go_at_call 63; with_reducible refine (H3.out _).mono ?_; rintro e w1 ⟨rfl, rfl⟩) | (go_at_call 60; refine (HL.out _ (by omega) (by omega) (by omega) (by omega)).mono ?_; rintro e w1 ⟨rfl, hb1⟩; have HB1 := Lib.hid hb1; clear hb1))
          go_ret3
          exact ⟨by rw [E1.out.1, E1.out.2.1, E1.out.2.2]; rfl, below_trans (below_a1 _ _) HB1.out⟩
end Go.Proofs.Ytcmjpcmdgnbbpaa
