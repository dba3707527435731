/- Which hours and values may be: what the calls of rising, checkSlope and the reference's timed answer. -/
import Derived.Test.YtcmjpcmdgnbbpaaSPlain
import Derived.Test.YtcmjpcmdgnbbpaaChance
namespace Go.Proofs.Ytcmjpcmdgnbbpaa
open Go.RowKit
set_option linter.unusedVariables false
theorem asc1S_pos {ms : List Int} {k : Nat} {x y : Int} (hx : ms[k]? = some x) (hy : ms[k - 1]? = some y) (h0 : k ≠ 0) : asc1S ms k = decide (y < x) := by
  unfold asc1S; rw [List.getD_eq_getElem?_getD, List.getD_eq_getElem?_getD, hx, hy]; simp [h0]
set_option maxHeartbeats 2000000 in
theorem rising_any (A : Option Addr) (n c : Nat) (ms : List Int) (w : World) (h : RdI w A n c ms) :
    Calls Try.prog 79 #[.slice A n c] w fun e w' => e = .returned (.bool (ascS ms)) ∧ Below w.heap.size w w' := by
  have hm := h.size
  have H := Lib.hid h; clear h
  obtain ⟨r, hr⟩ : ∃ r, ascS ms = r := ⟨_, rfl⟩
  have HR := Lib.hid hr
  rw [hr]
  clear hr
  go_enter Try.func79, Try.ntmps79
  go_wp2_with fail
  go_loopw [3, 6] (fun a i wr => ∃ (k : Nat) (u : Value), k ≤ n ∧ i = .int .i64 k ∧ a = u ∧ Hid (ascTo ms k = true) ∧ Hid (Below w.heap.size w wr)) (fun _ i _ => n - (intOf i).toNat)
  case atStart => exact ⟨0, _, Nat.zero_le _, rfl, rfl, (show _ = _ from rfl), Below.refl _ _⟩
  case round =>
    obtain ⟨k, u, hk, rfl, rfl, HI, HB⟩ := hrel
    by_cases hlt : k < n
    · obtain ⟨b, off, x, rfl, hx, hc⟩ := H.out.at hlt
      have hcx : wr.cell? ⟨b, off + k, none⟩ = some (.int .i64 x) := cell_below HB.out hc
      have HX := Lib.hid hx
      clear hc hx
      by_cases hk0 : k = 0
      · have HI2 : Hid (ascTo ms (k + 1) = true) := (show _ = _ by rw [ascTo_succ, HI.out, hk0]; rfl)
        subst hk0
        rw [Nat.add_zero] at hcx
        go_wp2_with fail
        go_quiet (fail)
        go_wp2_with fail
        go_roundw
        case rel => exact ⟨0 + 1, _, by omega, by go_num, rfl, HI2, below_drewN HB.out _⟩
        case measure => simp [intOf]; omega
      · obtain ⟨_, _, y, hA, hy, hcy0⟩ := H.out.at (show k - 1 < n by omega)
        cases hA
        have hcy : wr.cell? ⟨b, off + (k - 1), none⟩ = some (.int .i64 y) := cell_below HB.out hcy0
        have HS : Hid (asc1S ms k = decide (y < x)) := (show _ = _ from asc1S_pos HX.out hy hk0)
        have hk1 : 0 < k := by omega
        have e2 : IntKind.i64.wrap ((k : Int) - 1) = (k : Int) - 1 := by rw [IntKind.wrap_i64]; omega
        have e3 : ((k : Int) - 1).toNat = k - 1 := by omega
        have e4 : (0 : Int) ≤ (k : Int) - 1 := by omega
        have e5 : (k : Int) - 1 < n := by omega
        have e6 : (1 : Int) ≤ k := by omega
        by_cases hxy : x ≤ y
        · have HE : Hid (r = false) := (show _ = _ by rw [← HR.out]; exact ascTo_false (by rw [H.out.len]; exact hlt) (by rw [HS.out, decide_eq_false (by omega)]))
          clear hcy0 hy hk0
          go_wp2_with fail
          go_quiet (fail)
          go_wp2_with fail
          go_ret
          exact ⟨ret_bool (by rw [HE.out]), below_drewN HB.out _⟩
        · have HI2 : Hid (ascTo ms (k + 1) = true) := (show _ = _ by rw [ascTo_succ, HI.out, HS.out, decide_eq_true (by omega)]; rfl)
          clear hcy0 hy hk0
          go_wp2_with fail
          go_quiet (fail)
          go_wp2_with fail
          go_roundw
          case rel => exact ⟨k + 1, _, by omega, by go_num, rfl, HI2, below_drewN HB.out _⟩
          case measure => simp [intOf]; omega
    · obtain rfl : k = n := by omega
      have HE : Hid (r = true) := (show _ = _ by rw [← HR.out]; unfold ascS; rw [H.out.len]; exact HI.out)
      go_wp2_with fail
      go_ret
      exact ⟨ret_bool (by rw [HE.out]), HB.out⟩
/-- the error of hours, values and a time -/
def chkS (hs vs : List Int) (t : Int) : Int := if okS hs vs = true ∧ withinB t 0 1000000 = true then (if vs.length = 1 then 3 else 0) else 1
theorem chk_no {hs vs : List Int} {t : Int} (h : okS hs vs = false ∨ withinB t 0 1000000 = false) : chkS hs vs t = 1 := by
  unfold chkS; rw [if_neg (by rintro ⟨h1, h2⟩; rcases h with h | h <;> simp_all)]
set_option maxHeartbeats 2000000 in
theorem checkSlope_any (A0 A1 : Option Addr) (n0 c0 n1 c1 : Nat) (hs vs : List Int) (t : Int) (w : World) (h0 : RdI w A0 n0 c0 hs) (h1 : RdI w A1 n1 c1 vs) :
    Calls Try.prog 89 #[.slice A0 n0 c0, .slice A1 n1 c1, .int .i64 t] w fun e w' => e = .returned (.int .i64 (chkS hs vs t)) ∧ Below w.heap.size w w' := by
  have hl0 := h0.len
  have hl1 := h1.len
  have hm0 := h0.size
  have hm1 := h1.size
  obtain ⟨r, hr⟩ : ∃ r, chkS hs vs t = r := ⟨_, rfl⟩
  have HR := Lib.hid hr
  rw [hr]
  clear hr
  have HV : Hid (Calls Try.prog 54 #[.slice A1 n1 c1] w fun e w' => e = .returned (.bool (valuedB vs)) ∧ Below w.heap.size w w') := Lib.hid (valued_any A1 n1 c1 vs w h1)
  have HA : Hid (∀ W, Below w.heap.size w W → Calls Try.prog 64 #[.slice A0 n0 c0, .int .i64 0, .int .i64 1000000] W fun e w' => e = .returned (.bool (allB hs 0 1000000)) ∧ Below W.heap.size W w') := (show ∀ W, _ from fun W hb => all_any A0 n0 c0 hs 0 1000000 W (h0.below hb))
  have HU : Hid (∀ W, Below w.heap.size w W → Calls Try.prog 79 #[.slice A0 n0 c0] W fun e w' => e = .returned (.bool (ascS hs)) ∧ Below W.heap.size W w') := (show ∀ W, _ from fun W hb => rising_any A0 n0 c0 hs W (h0.below hb))
  have HW : Hid (∀ W, Calls Try.prog 62 #[.int .i64 t, .int .i64 0, .int .i64 1000000] W fun e w' => e = .returned (.bool (withinB t 0 1000000)) ∧ W = w') := (show ∀ W, _ from fun W => within_any t 0 1000000 W)
  have HO : Hid (okS hs vs = (valuedB vs && decide (n0 = n1) && allB hs 0 1000000 && ascS hs)) := (show _ = _ by unfold okS; rw [hl0, hl1])
  have HL := Lib.hid hl1
  clear h0 h1 hl0 hl1
  cases hv : valuedB vs with
  | false =>
    rw [hv] at HV
    have HE : Hid (r = 1) := (show _ = _ by rw [← HR.out]; exact chk_no (.inl (by rw [HO.out, hv]; rfl)))
    clear hv
    go_enter Try.func89, Try.ntmps89
    go_wp2_with (go_at_call 54; refine HV.out.mono ?_; rintro e w1 ⟨rfl, hb1⟩; have HB1 := Lib.hid hb1; clear hb1)
    go_ret
    exact ⟨ret_int HE.out.symm, HB1.out⟩
  | true =>
    rw [hv] at HV
    by_cases hn : n0 = n1
    · subst hn
      cases ha : allB hs 0 1000000 with
      | false =>
        rw [ha] at HA
        have HE : Hid (r = 1) := (show _ = _ by rw [← HR.out]; exact chk_no (.inl (by rw [HO.out, ha]; simp)))
        clear hv ha
        go_enter Try.func89, Try.ntmps89
        go_wp2_with (first
          | (go_at_call 54; refine HV.out.mono ?_; rintro e w1 ⟨rfl, hb1⟩; have HB1 := Lib.hid hb1; clear hb1)
          | (go_at_call 64; refine (HA.out _ HB1.out).mono ?_; rintro e w2 ⟨rfl, hb2⟩; have HB2 := Lib.hid (below_trans HB1.out hb2); clear hb2))
        go_ret
        exact ⟨ret_int HE.out.symm, HB2.out⟩
      | true =>
        rw [ha] at HA
        cases hu : ascS hs with
        | false =>
          rw [hu] at HU
          have HE : Hid (r = 1) := (show _ = _ by rw [← HR.out]; exact chk_no (.inl (by rw [HO.out, hu]; simp)))
          clear hv ha hu
          go_enter Try.func89, Try.ntmps89
          go_wp2_with (first
            | (go_at_call 54; refine HV.out.mono ?_; rintro e w1 ⟨rfl, hb1⟩; have HB1 := Lib.hid hb1; clear hb1)
            | (go_at_call 64; refine (HA.out _ HB1.out).mono ?_; rintro e w2 ⟨rfl, hb2⟩; have HB2 := Lib.hid (below_trans HB1.out hb2); clear hb2)
            | (go_at_call 79; refine (HU.out _ HB2.out).mono ?_; rintro e w3 ⟨rfl, hb3⟩; have HB3 := Lib.hid (below_trans HB2.out hb3); clear hb3))
          go_ret
          exact ⟨ret_int HE.out.symm, HB3.out⟩
        | true =>
          rw [hu] at HU
          have HOK : Hid (okS hs vs = true) := (show _ = _ by rw [HO.out, hv, ha, hu]; simp)
          cases hw : withinB t 0 1000000 with
          | false =>
            rw [hw] at HW
            have HE : Hid (r = 1) := (show _ = _ by rw [← HR.out]; exact chk_no (.inr hw))
            clear hv ha hu hw
            go_enter Try.func89, Try.ntmps89
            go_wp2_with (first
              | (go_at_call 54; refine HV.out.mono ?_; rintro e w1 ⟨rfl, hb1⟩; have HB1 := Lib.hid hb1; clear hb1)
              | (go_at_call 64; refine (HA.out _ HB1.out).mono ?_; rintro e w2 ⟨rfl, hb2⟩; have HB2 := Lib.hid (below_trans HB1.out hb2); clear hb2)
              | (go_at_call 79; refine (HU.out _ HB2.out).mono ?_; rintro e w3 ⟨rfl, hb3⟩; have HB3 := Lib.hid (below_trans HB2.out hb3); clear hb3)
              | (go_at_call 62; refine (HW.out _).mono ?_; rintro e w4 ⟨rfl, rfl⟩))
            go_ret
            exact ⟨ret_int HE.out.symm, HB3.out⟩
          | true =>
            rw [hw] at HW
            have HE1 : Hid (r = if n0 = 1 then 3 else 0) := (show _ = _ by rw [← HR.out]; unfold chkS; rw [if_pos ⟨HOK.out, hw⟩, HL.out])
            clear hv ha hu hw
            have h01 : n0 = 1 ∨ ¬ n0 = 1 := Decidable.em _
            rcases h01 with h1 | h1
            · subst h1
              go_enter Try.func89, Try.ntmps89
              go_wp2_with (first
                | (go_at_call 54; refine HV.out.mono ?_; rintro e w1 ⟨rfl, hb1⟩; have HB1 := Lib.hid hb1; clear hb1)
                | (go_at_call 64; refine (HA.out _ HB1.out).mono ?_; rintro e w2 ⟨rfl, hb2⟩; have HB2 := Lib.hid (below_trans HB1.out hb2); clear hb2)
                | (go_at_call 79; refine (HU.out _ HB2.out).mono ?_; rintro e w3 ⟨rfl, hb3⟩; have HB3 := Lib.hid (below_trans HB2.out hb3); clear hb3)
                | (go_at_call 62; refine (HW.out _).mono ?_; rintro e w4 ⟨rfl, rfl⟩))
              go_ret
              exact ⟨ret_int (by rw [HE1.out]; simp), HB3.out⟩
            · go_enter Try.func89, Try.ntmps89
              go_wp2_with (first
                | (go_at_call 54; refine HV.out.mono ?_; rintro e w1 ⟨rfl, hb1⟩; have HB1 := Lib.hid hb1; clear hb1)
                | (go_at_call 64; refine (HA.out _ HB1.out).mono ?_; rintro e w2 ⟨rfl, hb2⟩; have HB2 := Lib.hid (below_trans HB1.out hb2); clear hb2)
                | (go_at_call 79; refine (HU.out _ HB2.out).mono ?_; rintro e w3 ⟨rfl, hb3⟩; have HB3 := Lib.hid (below_trans HB2.out hb3); clear hb3)
                | (go_at_call 62; refine (HW.out _).mono ?_; rintro e w4 ⟨rfl, rfl⟩))
              go_ret
              exact ⟨ret_int (by rw [HE1.out, if_neg h1]), HB3.out⟩
    · have HE : Hid (r = 1) := (show _ = _ by rw [← HR.out]; exact chk_no (.inl (by rw [HO.out, decide_eq_false hn]; simp)))
      clear hv
      have hn' : ¬ (n0 : Int) = (n1 : Int) := by omega
      go_enter Try.func89, Try.ntmps89
      go_wp2_with (go_at_call 54; refine HV.out.mono ?_; rintro e w1 ⟨rfl, hb1⟩; have HB1 := Lib.hid hb1; clear hb1)
      go_ret
      exact ⟨ret_int HE.out.symm, HB1.out⟩
def timTo (hs : List Int) (k : Nat) : Bool := (List.range k).all fun i => withinB (hs.getD i 0) 0 1000000 && asc1S hs i
theorem timTo_succ (hs : List Int) (k : Nat) : timTo hs (k + 1) = (timTo hs k && (withinB (hs.getD k 0) 0 1000000 && asc1S hs k)) := by
  unfold timTo; rw [List.range_succ, List.all_append]; simp
theorem timTo_false {hs : List Int} {n i : Nat} (hi : i < n) (h : (withinB (hs.getD i 0) 0 1000000 && asc1S hs i) = false) : timTo hs n = false := by
  cases hh : timTo hs n with
  | false => rfl
  | true =>
    unfold timTo at hh
    rw [List.all_eq_true] at hh
    have := hh i (List.mem_range.2 hi)
    rw [h] at this; cases this
theorem timTo_all (hs : List Int) : timTo hs hs.length = (allB hs 0 1000000 && ascS hs) := by
  rw [Bool.eq_iff_iff, Bool.and_eq_true]
  unfold timTo ascS ascTo allB
  simp only [List.all_eq_true, List.mem_range, Bool.and_eq_true]
  constructor
  · intro h
    refine ⟨fun x hx => ?_, fun i hi => (h i hi).2⟩
    obtain ⟨j, hj, rfl⟩ := List.getElem_of_mem hx
    have := (h j hj).1
    rwa [List.getD_eq_getElem?_getD, List.getElem?_eq_getElem hj] at this
  · rintro ⟨h1, h2⟩ i hi
    refine ⟨?_, h2 i hi⟩
    rw [List.getD_eq_getElem?_getD, List.getElem?_eq_getElem hi]
    exact h1 _ (List.getElem_mem hi)
set_option maxHeartbeats 4000000 in
theorem timed_any (A0 A1 : Option Addr) (n0 c0 n1 c1 : Nat) (hs vs : List Int) (w : World) (h0 : RdI w A0 n0 c0 hs) (h1 : RdI w A1 n1 c1 vs) :
    Calls Try.prog 91 #[.slice A0 n0 c0, .slice A1 n1 c1] w fun e w' => e = .returned (.bool (okS hs vs)) ∧ Below w.heap.size w w' := by
  have hl0 := h0.len
  have hl1 := h1.len
  have hm0 := h0.size
  have hm1 := h1.size
  obtain ⟨r, hr⟩ : ∃ r, okS hs vs = r := ⟨_, rfl⟩
  have HR := Lib.hid hr
  rw [hr]
  clear hr
  have HV : Hid (Calls Try.prog 56 #[.slice A1 n1 c1] w fun e w' => e = .returned (.bool (valuedB vs)) ∧ w = w') := Lib.hid (valued_ref A1 n1 c1 vs w h1)
  have HO : Hid (okS hs vs = (valuedB vs && decide (n0 = n1) && timTo hs n0)) := (show _ = _ by unfold okS; rw [hl0, hl1, ← hl0, timTo_all, Bool.and_assoc])
  have HL := Lib.hid hl0
  have H := Lib.hid h0
  clear h0 h1 hl0 hl1
  cases hv : valuedB vs with
  | false =>
    rw [hv] at HV
    have HE : Hid (r = false) := (show _ = _ by rw [← HR.out, HO.out, hv]; rfl)
    clear hv
    go_enter Try.func91, Try.ntmps91
    go_wp2_with (go_at_call 56; refine HV.out.mono ?_; rintro e w1 ⟨rfl, rfl⟩)
    go_ret
    exact ⟨ret_bool HE.out.symm, Below.refl _ _⟩
  | true =>
    rw [hv] at HV
    by_cases hn : n0 = n1
    · subst hn
      have HO2 : Hid (r = timTo hs n0) := (show _ = _ by rw [← HR.out, HO.out, hv]; simp)
      clear hv
      go_enter Try.func91, Try.ntmps91
      go_wp2_with (go_at_call 56; refine HV.out.mono ?_; rintro e w1 ⟨rfl, rfl⟩)
      go_loopw [5] (fun i wr => ∃ (k : Nat), k ≤ n0 ∧ i = .int .i64 k ∧ Hid (timTo hs k = true) ∧ Hid (Below w.heap.size w wr)) (fun i _ => n0 - (intOf i).toNat)
      case atStart => exact ⟨0, Nat.zero_le _, rfl, (show _ = _ from rfl), Below.refl _ _⟩
      case round =>
        obtain ⟨k, hk, rfl, HI, HB⟩ := hrel
        by_cases hlt : k < n0
        · obtain ⟨b, off, x, rfl, hx, hc⟩ := H.out.at hlt
          have hcx : wr.cell? ⟨b, off + k, none⟩ = some (.int .i64 x) := cell_below HB.out hc
          have HX := Lib.hid hx
          have HXG : Hid (hs.getD k 0 = x) := (show _ = _ by rw [List.getD_eq_getElem?_getD, hx]; rfl)
          clear hc hx
          cases hq : withinB x 0 1000000 with
          | false =>
            have HXW : Hid (∀ w, Calls Try.prog 63 #[.int .i64 x, .int .i64 0, .int .i64 1000000] w fun e w' => e = .returned (.bool false) ∧ w = w') := (show ∀ w, _ from fun w => by have := within_ref x 0 1000000 w; rw [hq] at this; exact this)
            have HE : Hid (r = false) := (show _ = _ by rw [HO2.out]; exact timTo_false hlt (by rw [HXG.out, hq]; rfl))
            clear hq
            go_wp2_with fail
            go_quiet ((go_at_call 63; exact Calls.quiet_of_same ((HXW.out _).mono fun _ _ ⟨a, b⟩ => ⟨a, b.symm⟩)))
            go_wp2_with fail
            go_ret
            exact ⟨ret_bool HE.out.symm, below_drewN HB.out _⟩
          | true =>
            have HXW : Hid (∀ w, Calls Try.prog 63 #[.int .i64 x, .int .i64 0, .int .i64 1000000] w fun e w' => e = .returned (.bool true) ∧ w = w') := (show ∀ w, _ from fun w => by have := within_ref x 0 1000000 w; rw [hq] at this; exact this)
            by_cases hk0 : k = 0
            · have HI2 : Hid (timTo hs (k + 1) = true) := (show _ = _ by rw [timTo_succ, HI.out, HXG.out, hq, hk0]; rfl)
              subst hk0
              rw [Nat.add_zero] at hcx
              clear hq
              go_wp2_with fail
              go_quiet ((go_at_call 63; exact Calls.quiet_of_same ((HXW.out _).mono fun _ _ ⟨a, b⟩ => ⟨a, b.symm⟩)))
              go_wp2_with fail
              go_roundw
              case rel => exact ⟨0 + 1, by omega, by go_num, HI2, below_drewN HB.out _⟩
              case measure => simp [intOf]; omega
            · obtain ⟨_, _, y, hA, hy, hcy0⟩ := H.out.at (show k - 1 < n0 by omega)
              cases hA
              have hcy : wr.cell? ⟨b, off + (k - 1), none⟩ = some (.int .i64 y) := cell_below HB.out hcy0
              have HS : Hid (asc1S hs k = decide (y < x)) := (show _ = _ from asc1S_pos HX.out hy hk0)
              have hk1 : 0 < k := by omega
              have e2 : IntKind.i64.wrap ((k : Int) - 1) = (k : Int) - 1 := by rw [IntKind.wrap_i64]; omega
              have e3 : ((k : Int) - 1).toNat = k - 1 := by omega
              have e4 : (0 : Int) ≤ (k : Int) - 1 := by omega
              have e5 : (k : Int) - 1 < n0 := by omega
              have e6 : (1 : Int) ≤ k := by omega
              by_cases hxy : x ≤ y
              · have HE : Hid (r = false) := (show _ = _ by rw [HO2.out]; exact timTo_false hlt (by rw [HXG.out, hq, HS.out, decide_eq_false (by omega)]; rfl))
                clear hq hcy0 hy hk0
                go_wp2_with fail
                go_quiet ((go_at_call 63; exact Calls.quiet_of_same ((HXW.out _).mono fun _ _ ⟨a, b⟩ => ⟨a, b.symm⟩)))
                go_wp2_with fail
                go_ret
                exact ⟨ret_bool HE.out.symm, below_drewN HB.out _⟩
              · have HI2 : Hid (timTo hs (k + 1) = true) := (show _ = _ by rw [timTo_succ, HI.out, HXG.out, hq, HS.out, decide_eq_true (by omega)]; rfl)
                clear hq hcy0 hy hk0
                go_wp2_with fail
                go_quiet ((go_at_call 63; exact Calls.quiet_of_same ((HXW.out _).mono fun _ _ ⟨a, b⟩ => ⟨a, b.symm⟩)))
                go_wp2_with fail
                go_roundw
                case rel => exact ⟨k + 1, by omega, by go_num, HI2, below_drewN HB.out _⟩
                case measure => simp [intOf]; omega
        · obtain rfl : k = n0 := by omega
          have HE : Hid (r = true) := (show _ = _ by rw [HO2.out]; exact HI.out)
          go_wp2_with fail
          go_ret
          exact ⟨ret_bool HE.out.symm, HB.out⟩
    · have HE : Hid (r = false) := (show _ = _ by rw [← HR.out, HO.out, decide_eq_false hn]; simp)
      clear hv
      have hn' : ¬ (n0 : Int) = (n1 : Int) := by omega
      go_enter Try.func91, Try.ntmps91
      go_wp2_with (go_at_call 56; refine HV.out.mono ?_; rintro e w1 ⟨rfl, rfl⟩)
      go_ret
      exact ⟨ret_bool HE.out.symm, Below.refl _ _⟩
end Go.Proofs.Ytcmjpcmdgnbbpaa
