/- What the reference's Check of a vibration answers: whether samples and marks are those of a vibration. -/
import Derived.Test.YtcmjpcmdgnbbpaaHAll
import Derived.Test.YtcmjpcmdgnbbpaaNewBox
namespace Go.Proofs.Ytcmjpcmdgnbbpaa.PH
open Go.RowKit Go.Proofs.YtcmjpcmdgnbbpaaW.PrintWords
set_option linter.unusedVariables false
def allFrom (p : Nat → Bool) (n k : Nat) : Bool := (List.range' k (n - k)).all p
theorem allFrom_lt {p : Nat → Bool} {n k : Nat} (h : k < n) : allFrom p n k = (p k && allFrom p n (k + 1)) := by
  unfold allFrom
  rw [show n - k = (n - (k + 1)) + 1 by omega, List.range'_succ, List.all_cons]
theorem allFrom_ge {p : Nat → Bool} {n k : Nat} (h : n ≤ k) : allFrom p n k = true := by
  unfold allFrom; rw [show n - k = 0 by omega]; rfl
def asc1 (ms : List Int) (i : Nat) : Bool := decide (i = 0) || decide (ms.getD (i - 1) 0 < ms.getD i 0)
def mark1 (n : Nat) (ms : List Int) (i : Nat) : Bool := withinB (ms.getD i 0) 0 ((n : Int) - 1) && asc1 ms i
def marksB (n : Nat) (ms : List Int) : Bool := allFrom (mark1 n ms) ms.length 0
def vibB (xs ms : List Int) : Bool := decide (xs.length ≤ 400) && withinB ms.length 2 9 && allB xs (-100) 100 && marksB xs.length ms
def swashplateref08_Check.f (l0_0 : List Int) (l0_1 : List Int) : Option (Int) := some (if vibB l0_0 l0_1 = true then 0 else 80)
theorem vib_len {xs ms : List Int} (h : decide (xs.length ≤ 400) = false) : (if vibB xs ms = true then (0 : Int) else 80) = 80 := by simp [vibB, h]
theorem vib_within {xs ms : List Int} (h : withinB ms.length 2 9 = false) : (if vibB xs ms = true then (0 : Int) else 80) = 80 := by simp [vibB, h]
theorem vib_all {xs ms : List Int} (h : allB xs (-100) 100 = false) : (if vibB xs ms = true then (0 : Int) else 80) = 80 := by simp [vibB, h]
theorem vib_marks {xs ms : List Int} (h : marksB xs.length ms = false) : (if vibB xs ms = true then (0 : Int) else 80) = 80 := by simp [vibB, h]
theorem vib_ok {xs ms : List Int} (h1 : decide (xs.length ≤ 400) = true) (h2 : withinB ms.length 2 9 = true) (h3 : allB xs (-100) 100 = true) (h4 : marksB xs.length ms = true) : (if vibB xs ms = true then (0 : Int) else 80) = 0 := by
  simp [vibB, h2, h3, h4] at *; omega
theorem allB_drop {xs : List Int} {l h : Int} {k : Nat} {x : Int} (hx : xs[k]? = some x) : allB (xs.drop k) l h = (withinB x l h && allB (xs.drop (k + 1)) l h) := by
  rw [drop_of hx]; rfl
set_option maxRecDepth 100000 in
set_option maxHeartbeats 8000000 in
theorem check_ref (A0 A1 : Option Addr) (n0 c0 n1 c1 : Nat) (xs ms : List Int) (w : World) (h0 : RdW w A0 n0 xs) (h1 : RdW w A1 n1 ms) :
    Calls Try.prog 36 #[.agg #[.slice A0 n0 c0, .slice A1 n1 c1]] w fun e w' => e = .returned (.int .i64 (if vibB xs ms = true then 0 else 80)) ∧ Below w.heap.size w w' := by
  have hs0 := h0.size
  have hs1 := h1.size
  obtain ⟨E, hE⟩ : ∃ E, (if vibB xs ms = true then (0 : Int) else 80) = E := ⟨_, rfl⟩
  rw [hE]
  by_cases h400 : (400 : Int) < n0
  · have HE : Hid (E = 80) := (show _ = _ by rw [← hE, vib_len (by have := h0.len; simp; omega)])
    clear hE h0 h1
    go_enter Try.func36, Try.ntmps36
    go_wp2_with fail
    go_ret
    exact ⟨ret_int (by rw [HE.out]), by repeat (first | exact Below.refl _ _ | refine below_drewN ?_ _ | refine below_alloc ?_ _)⟩
  have e400 : decide (xs.length ≤ 400) = true := by have := h0.len; simp; omega
  have h400' : n0 ≤ 400 := by omega
  have hl1 := h1.len
  cases hwi : withinB n1 2 9 with
  | false =>
    have HW : Hid (∀ w, Calls Try.prog 63 #[.int .i64 n1, .int .i64 2, .int .i64 9] w fun e w' => e = .returned (.bool false) ∧ w = w') := (show ∀ w, _ from fun w => by have := within_ref n1 2 9 w; rw [hwi] at this; exact this)
    have HE : Hid (E = 80) := (show _ = _ by rw [← hE, vib_within (by rw [hl1]; exact hwi)])
    clear hE h0 h1 hwi e400 hl1
    go_enter Try.func36, Try.ntmps36
    go_wp2_with (go_at_call 63; refine (HW.out _).mono ?_; rintro e w' ⟨rfl, rfl⟩)
    go_ret
    exact ⟨ret_int (by rw [HE.out]), below_a1 _ _⟩
  | true =>
    have HW : Hid (∀ w, Calls Try.prog 63 #[.int .i64 n1, .int .i64 2, .int .i64 9] w fun e w' => e = .returned (.bool true) ∧ w = w') := (show ∀ w, _ from fun w => by have := within_ref n1 2 9 w; rw [hwi] at this; exact this)
    have h9 := (withinB_iff _ _ _).1 hwi
    have HWI : Hid (withinB ms.length 2 9 = true) := (show _ = _ by rw [hl1]; exact hwi)
    have H4 := Lib.hid e400
    have HE := Lib.hid hE
    have H0 := Lib.hid h0
    have H1 := Lib.hid h1
    clear hE h0 h1 hwi e400 hl1
    go_enter Try.func36, Try.ntmps36
    go_wp2_with (go_at_call 63; refine (HW.out _).mono ?_; rintro e w' ⟨rfl, rfl⟩)
    go_loop [3] (fun i => ∃ k : Nat, k ≤ n0 ∧ i = .int .i64 k ∧ Hid (allB xs (-100) 100 = allB (xs.drop k) (-100) 100)) (fun i => n0 - (intOf i).toNat)
    case atStart => exact ⟨0, Nat.zero_le _, rfl, (show _ = _ by rw [List.drop_zero])⟩
    case round =>
      obtain ⟨k, hk, rfl, HI⟩ := hrel
      by_cases hlt : k < n0
      · obtain ⟨b, off, x, rfl, hx, hc⟩ := H0.out.at hlt
        have hcx := cell_below (below_a1 w (.cells #[.slice (some ⟨b, off, none⟩) n0 c0, .slice A1 n1 c1] 52)) hc
        have HA := Lib.hid (allB_drop (l := -100) (h := 100) hx)
        clear hc hx
        cases hq : withinB x (-100) 100 with
        | false =>
          have HX : Hid (∀ w, Calls Try.prog 63 #[.int .i64 x, .int .i64 (-100), .int .i64 100] w fun e w' => e = .returned (.bool false) ∧ w = w') := (show ∀ w, _ from fun w => by have := within_ref x (-100) 100 w; rw [hq] at this; exact this)
          have HE2 : Hid (E = 80) := (show _ = _ by rw [← HE.out, vib_all (by rw [HI.out, HA.out, hq]; rfl)])
          clear hq
          go_wp2_with (go_at_call 63; refine (HX.out _).mono ?_; rintro e w' ⟨rfl, rfl⟩)
          go_ret
          exact ⟨ret_int (by rw [HE2.out]), below_a1 _ _⟩
        | true =>
          have HX : Hid (∀ w, Calls Try.prog 63 #[.int .i64 x, .int .i64 (-100), .int .i64 100] w fun e w' => e = .returned (.bool true) ∧ w = w') := (show ∀ w, _ from fun w => by have := within_ref x (-100) 100 w; rw [hq] at this; exact this)
          have HI2 : Hid (allB xs (-100) 100 = allB (xs.drop (k + 1)) (-100) 100) := (show _ = _ by rw [HI.out, HA.out, hq]; rfl)
          clear hq
          go_wp2_with (go_at_call 63; refine (HX.out _).mono ?_; rintro e w' ⟨rfl, rfl⟩)
          go_round
          case rel => exact ⟨k + 1, by omega, by go_num, HI2⟩
          case measure => simp [intOf]; omega
      · have HAL : Hid (allB xs (-100) 100 = true) := (show _ = _ by rw [HI.out, List.drop_eq_nil_of_le (by have := H0.out.len; omega)]; rfl)
        clear HI
        go_wp2_with fail
        go_loopw [4] (fun i wr => ∃ k : Nat, k ≤ n1 ∧ i = .int .i64 k ∧ Hid (marksB xs.length ms = allFrom (mark1 xs.length ms) ms.length k) ∧ Hid (Below w.heap.size w wr) ∧ wr.cell? ⟨w.heap.size, 0, none⟩ = some (.slice A0 n0 c0) ∧ wr.cell? ⟨w.heap.size, 1, none⟩ = some (.slice A1 n1 c1)) (fun i _ => n1 - (intOf i).toNat)
        case atStart => exact ⟨0, Nat.zero_le _, rfl, (show _ = _ from rfl), below_a1 _ _, by simp, by simp⟩
        case round =>
          obtain ⟨k, hk, rfl, HI, HBW, hv0, hv1⟩ := hrel
          have hnext : k < n1 → Hid (marksB xs.length ms = (mark1 xs.length ms k && allFrom (mark1 xs.length ms) ms.length (k + 1))) := fun hlt => (show _ = _ by rw [HI.out, allFrom_lt (by have := H1.out.len; omega)])
          by_cases hlt : k < n1
          · obtain ⟨b, off, x, rfl, hx, hc⟩ := H1.out.at hlt
            have hcx : wr.cell? ⟨b, off + k, none⟩ = some (.int .i64 x) := cell_below HBW.out hc
            have HA := hnext hlt
            have HM : Hid (mark1 xs.length ms k = (withinB x 0 ((n0 : Int) - 1) && asc1 ms k)) := (show _ = _ by unfold mark1; rw [H0.out.len, List.getD_eq_getElem?_getD, hx]; rfl)
            have HXX := Lib.hid hx
            have e1 : IntKind.i64.wrap ((n0 : Int) - 1) = (n0 : Int) - 1 := by rw [IntKind.wrap_i64]; omega
            clear hc hx hnext
            cases hq : withinB x 0 ((n0 : Int) - 1) with
            | false =>
              have HX : Hid (∀ w, Calls Try.prog 63 #[.int .i64 x, .int .i64 0, .int .i64 ((n0 : Int) - 1)] w fun e w' => e = .returned (.bool false) ∧ w = w') := (show ∀ w, _ from fun w => by have := within_ref x 0 ((n0 : Int) - 1) w; rw [hq] at this; exact this)
              have HE2 : Hid (E = 80) := (show _ = _ by rw [← HE.out, vib_marks (by rw [HA.out, HM.out, hq]; rfl)])
              clear hq
              go_wp2_with fail
              go_quiet ((go_at_call 63; exact Calls.quiet_of_same ((HX.out _).mono fun _ _ ⟨a, b⟩ => ⟨a, b.symm⟩)))
              go_wp2_with fail
              go_ret
              exact ⟨ret_int (by rw [HE2.out]), below_drewN HBW.out _⟩
            | true =>
              have HX : Hid (∀ w, Calls Try.prog 63 #[.int .i64 x, .int .i64 0, .int .i64 ((n0 : Int) - 1)] w fun e w' => e = .returned (.bool true) ∧ w = w') := (show ∀ w, _ from fun w => by have := within_ref x 0 ((n0 : Int) - 1) w; rw [hq] at this; exact this)
              by_cases hk0 : k = 0
              · have HI2 : Hid (marksB xs.length ms = allFrom (mark1 xs.length ms) ms.length (k + 1)) := (show _ = _ by rw [HA.out, HM.out, hq]; simp [asc1, hk0])
                subst hk0
                rw [Nat.add_zero] at hcx
                clear hq
                go_wp2_with fail
                go_quiet ((go_at_call 63; exact Calls.quiet_of_same ((HX.out _).mono fun _ _ ⟨a, b⟩ => ⟨a, b.symm⟩)))
                go_wp2_with fail
                go_roundw
                case rel => exact ⟨0 + 1, by omega, by go_num, HI2, below_drewN HBW.out _, by simpa using hv0, by simpa using hv1⟩
                case measure => simp [intOf]; omega
              · obtain ⟨_, _, y, hA, hy, hcy0⟩ := H1.out.at (show k - 1 < n1 by omega)
                cases hA
                have hcy : wr.cell? ⟨b, off + (k - 1), none⟩ = some (.int .i64 y) := cell_below HBW.out hcy0
                have HS : Hid (asc1 ms k = decide (y < x)) := (show _ = _ by unfold asc1; rw [List.getD_eq_getElem?_getD, List.getD_eq_getElem?_getD, HXX.out, hy]; simp [hk0])
                have hk1 : 0 < k := by omega
                have e2 : IntKind.i64.wrap ((k : Int) - 1) = (k : Int) - 1 := by rw [IntKind.wrap_i64]; omega
                have e3 : ((k : Int) - 1).toNat = k - 1 := by omega
                have e4 : (0 : Int) ≤ (k : Int) - 1 := by omega
                have e5 : (k : Int) - 1 < n1 := by omega
                have e6 : (1 : Int) ≤ k := by omega
                by_cases hxy : x ≤ y
                · have HE2 : Hid (E = 80) := (show _ = _ by rw [← HE.out, vib_marks (by rw [HA.out, HM.out, hq, HS.out, decide_eq_false (by omega)]; rfl)])
                  clear hq hcy0 hy hk0
                  go_wp2_with fail
                  go_quiet ((go_at_call 63; exact Calls.quiet_of_same ((HX.out _).mono fun _ _ ⟨a, b⟩ => ⟨a, b.symm⟩)))
                  go_wp2_with fail
                  go_ret
                  exact ⟨ret_int (by rw [HE2.out]), below_drewN HBW.out _⟩
                · have HI2 : Hid (marksB xs.length ms = allFrom (mark1 xs.length ms) ms.length (k + 1)) := (show _ = _ by rw [HA.out, HM.out, hq, HS.out, decide_eq_true (by omega)]; rfl)
                  clear hq hcy0 hy hk0
                  go_wp2_with fail
                  go_quiet ((go_at_call 63; exact Calls.quiet_of_same ((HX.out _).mono fun _ _ ⟨a, b⟩ => ⟨a, b.symm⟩)))
                  go_wp2_with fail
                  go_roundw
                  case rel => exact ⟨k + 1, by omega, by go_num, HI2, below_drewN HBW.out _, by simpa using hv0, by simpa using hv1⟩
                  case measure => simp [intOf]; omega
          · have HE2 : Hid (E = 0) := (show _ = _ by rw [← HE.out, vib_ok H4.out HWI.out HAL.out (by rw [HI.out, allFrom_ge (by have := H1.out.len; omega)])])
            clear hnext
            go_wp2_with fail
            go_ret
            exact ⟨ret_int (by rw [HE2.out]), HBW.out⟩
theorem swashplateref08_Check.calls (A0_0 : Option Addr) (c0_0 : Nat) (l0_0 : List Int) (A0_1 : Option Addr) (c0_1 : Nat) (l0_1 : List Int) (r : Int) (w : World) (hr0_0 : Kd.C (Kd.int .i64) w A0_0 l0_0.length l0_0) (hc0_0 : l0_0.length ≤ c0_0) (hr0_1 : Kd.C (Kd.int .i64) w A0_1 l0_1.length l0_1) (hc0_1 : l0_1.length ≤ c0_1) (h : swashplateref08_Check.f l0_0 l0_1 = some r) :
    Calls Try.prog 36 #[.agg #[.slice A0_0 l0_0.length c0_0, .slice A0_1 l0_1.length c0_1]] w fun e w' => e = .returned (.int .i64 r) ∧ Below w.heap.size w w' := by
  obtain rfl : (if vibB l0_0 l0_1 = true then (0 : Int) else 80) = r := Option.some.inj h
  exact check_ref A0_0 A0_1 _ c0_0 _ c0_1 l0_0 l0_1 w (RdW.of hr0_0) (RdW.of hr0_1)
end Go.Proofs.Ytcmjpcmdgnbbpaa.PH
