/- Alarm of the reference; HealthAlarms: the walk of the law. -/
import Derived.Test.YtcmjpcmdgnbbpaaAlarm
namespace Go.Proofs.Ytcmjpcmdgnbbpaa
open Go.RowKit
theorem alFrom_hit2 {limit num den x : Int} {xs : List Int} {k : Nat} (hx : xs[k]? = some x) (ha : allB xs (-1000000) 1000000 = true) :
    hitB limit num den xs k = (decide (limit ≤ x) && decide (cA (subX xs k) * den ≤ num * cB (subX xs k))) := by
  have hk : k < xs.length := (List.getElem?_eq_some_iff.1 hx).1
  have hv := valued_sub ha hk
  unfold hitB cA cB
  rw [List.getD_eq_getElem?_getD, hx, hv, if_pos rfl, if_pos rfl]
  have hq : (0 : Int) < chDen (subX xs k) := by have := fact_pos (subX xs k).length; unfold chDen; omega
  have := low_le (p := chNum (subX xs k)) (num := num) (den := den) hq
  rw [decide_eq_decide.2 this]
  rfl
theorem low_bd {xs : List Int} (hv : valuedB xs = true) : 0 ≤ cA xs ∧ cA xs ≤ 40320 ∧ 0 ≤ cB xs ∧ cB xs ≤ 40320 := by
  have hq : chDen xs ≤ 40320 := fact_le (valuedB_len hv).2
  have hp := chNum_le xs
  have hq0 : 0 < chDen xs := fact_pos _
  unfold cA cB lowN lowD
  rw [if_pos hv, if_pos hv, Int.tdiv_eq_ediv_of_nonneg (by omega), Int.tdiv_eq_ediv_of_nonneg (by omega)]
  have e1 := Int.ediv_le_self (a := (chNum xs : Int)) (Int.gcd (chNum xs) (chDen xs)) (by omega)
  have e2 := Int.ediv_le_self (a := (chDen xs : Int)) (Int.gcd (chNum xs) (chDen xs)) (by omega)
  have e3 := Int.ediv_nonneg (a := (chNum xs : Int)) (b := Int.gcd (chNum xs) (chDen xs)) (by omega) (by omega)
  have e4 := Int.ediv_nonneg (a := (chDen xs : Int)) (b := Int.gcd (chNum xs) (chDen xs)) (by omega) (by omega)
  omega
set_option maxRecDepth 100000 in
set_option maxHeartbeats 8000000 in
theorem Alarm_ref (limit num den : Int) (A : Option Addr) (n c : Nat) (xs : List Int) (w : World) (h : RdI w A n c xs) :
    Calls Try.prog 26 #[.slice A n c, .int .i64 limit, .int .i64 num, .int .i64 den] w fun e w' => e = .returned (.tuple #[.int .i64 (alN limit num den xs), .int .i64 (alE limit num den xs)]) ∧ Below w.heap.size w w' := by
  have hlen := h.len
  by_cases h64 : 64 < n
  · have h64' : (64 : Int) < n := by omega
    have E1 : Hid (alN limit num den xs = 0 ∧ alE limit num den xs = 2) := (show _ ∧ _ by simp [alN, alE, hlen, h64])
    clear h hlen
    go_enter Try.func26, Try.ntmps26
    go_wp2_with fail
    go_ret2
    exact ⟨by rw [E1.out.1, E1.out.2]; rfl, Below.refl _ _⟩
  · have h64' : ¬ (64 : Int) < n := by omega
    have H1 : Hid (∀ w, Calls Try.prog 63 #[.int .i64 limit, .int .i64 (-1000000), .int .i64 (1000000)] w fun e w' => e = .returned (.bool (withinB limit (-1000000) (1000000))) ∧ w = w') := (show ∀ w, _ from fun w => within_ref limit (-1000000) (1000000) w)
    have H2 : Hid (∀ w, Calls Try.prog 63 #[.int .i64 num, .int .i64 (0), .int .i64 (1000000)] w fun e w' => e = .returned (.bool (withinB num (0) (1000000))) ∧ w = w') := (show ∀ w, _ from fun w => within_ref num (0) (1000000) w)
    have H3 : Hid (∀ w, Calls Try.prog 63 #[.int .i64 den, .int .i64 (1), .int .i64 (1000000)] w fun e w' => e = .returned (.bool (withinB den (1) (1000000))) ∧ w = w') := (show ∀ w, _ from fun w => within_ref den (1) (1000000) w)
    have H := Lib.hid h
    have EK : Hid (alOk limit num den xs = (withinB limit (-1000000) 1000000 && withinB num 0 1000000 && withinB den 1 1000000 && allB xs (-1000000) 1000000)) := (show _ = _ from rfl)
    have E1 : Hid (alN limit num den xs = (if alOk limit num den xs = true then alFrom limit num den xs 0 else 0) ∧ alE limit num den xs = (if alOk limit num den xs = true then 0 else 1)) := (show _ ∧ _ by simp [alN, alE, hlen, h64])
    have HL := Lib.hid hlen
    clear h hlen h64
    cases hb : (withinB limit (-1000000) 1000000 && withinB num 0 1000000 && withinB den 1 1000000) with
    | false =>
      have E2 : Hid (alN limit num den xs = 0 ∧ alE limit num den xs = 1) := (show _ ∧ _ by
        have e := EK.out
        rw [hb, Bool.false_and] at e
        have := E1.out
        rw [e] at this
        exact this)
      have EK2 := Lib.hid hb
      clear EK E1 hb
      generalize withinB limit (-1000000) 1000000 = b1 at *
      generalize withinB num 0 1000000 = b2 at *
      generalize withinB den 1 1000000 = b3 at *
      cases b1 <;> cases b2 <;> cases b3 <;> first | (exfalso; revert EK2; simp [Hid]; done) | skip
      all_goals
        go_enter Try.func26, Try.ntmps26
        go_wp2_with (first
          | (go_at_call 63; with_reducible refine (H1.out _).mono ?_; rintro e w1 ⟨rfl, rfl⟩)
          | (go_at_call 63; with_reducible refine (H2.out _).mono ?_; rintro e w1 ⟨rfl, rfl⟩)
          | (go_at_call 63; with_reducible refine (H3.out _).mono ?_; rintro e w1 ⟨rfl, rfl⟩))
        go_ret2
        exact ⟨by rw [E2.out.1, E2.out.2]; rfl, Below.refl _ _⟩
    | true =>
      rw [hb, Bool.true_and] at EK
      simp only [Bool.and_eq_true] at hb
      obtain ⟨⟨k1, k2⟩, k3⟩ := hb
      have g2 := (withinB_iff _ _ _).1 k2
      have g3 := (withinB_iff _ _ _).1 k3
      rw [k1] at H1
      rw [k2] at H2
      rw [k3] at H3
      clear k1 k2 k3
      go_enter Try.func26, Try.ntmps26
      go_wp2_with (first
          | (go_at_call 63; with_reducible refine (H1.out _).mono ?_; rintro e w1 ⟨rfl, rfl⟩)
          | (go_at_call 63; with_reducible refine (H2.out _).mono ?_; rintro e w1 ⟨rfl, rfl⟩)
          | (go_at_call 63; with_reducible refine (H3.out _).mono ?_; rintro e w1 ⟨rfl, rfl⟩))
      go_loopw [10] (fun i wr => ∃ k : Nat, k ≤ n ∧ i = .int .i64 k ∧ Hid (w = wr) ∧ Hid (allB xs (-1000000) 1000000 = allB (xs.drop k) (-1000000) 1000000)) (fun i _ => n - (intOf i).toNat)
      case atStart => exact ⟨0, Nat.zero_le _, rfl, (show _ = _ from rfl), (show _ = _ by simp)⟩
      case round =>
        obtain ⟨k, hk, rfl, HBR, HI⟩ := hrel
        have hwr := HBR.out
        subst hwr
        clear HBR
        by_cases hlt : k < n
        · obtain ⟨b, off, x, rfl, hx, hc⟩ := H.out.at hlt
          have HA : Hid (allB xs (-1000000) 1000000 = (withinB x (-1000000) 1000000 && allB (xs.drop (k + 1)) (-1000000) 1000000)) := (show _ = _ by rw [HI.out, drop_of hx]; rfl)
          have H4 : Hid (∀ w, Calls Try.prog 63 #[.int .i64 x, .int .i64 (-1000000), .int .i64 1000000] w fun e w' => e = .returned (.bool (withinB x (-1000000) 1000000)) ∧ w = w') := (show ∀ w, _ from fun w => within_ref x (-1000000) 1000000 w)
          clear hx
          cases hw : withinB x (-1000000) 1000000 with
          | false =>
            rw [hw] at HA H4
            have E2 : Hid (alN limit num den xs = 0 ∧ alE limit num den xs = 1) := (show _ ∧ _ by
              have e := EK.out
              rw [HA.out, Bool.false_and] at e
              have := E1.out
              rw [e] at this
              exact this)
            clear hw
            go_wp2_with (go_at_call 63; with_reducible refine (H4.out _).mono ?_; rintro e w1 ⟨rfl, rfl⟩)
            go_ret2
            exact ⟨by rw [E2.out.1, E2.out.2]; rfl, Below.refl _ _⟩
          | true =>
            rw [hw, Bool.true_and] at HA
            rw [hw] at H4
            clear hw
            go_wp2_with (go_at_call 63; with_reducible refine (H4.out _).mono ?_; rintro e w1 ⟨rfl, rfl⟩)
            go_roundw
            case rel => exact ⟨k + 1, by omega, by first | rfl | go_num, (by first | exact trivial | exact Lib.hid rfl), HA⟩
            case measure => simp [intOf]; omega
        · have HV : Hid (allB xs (-1000000) 1000000 = true) := (show _ = _ by rw [HI.out, List.drop_eq_nil_of_le (by rw [HL.out]; omega)]; rfl)
          have E2 : Hid (alN limit num den xs = alFrom limit num den xs 0 ∧ alE limit num den xs = 0) := (show _ ∧ _ by
            have e := EK.out
            rw [HV.out] at e
            have := E1.out
            rw [e] at this
            exact this)
          clear E1 EK HI
          go_wp2_with fail
          go_loopw [11] (fun i wr => ∃ k : Nat, k ≤ n ∧ i = .int .i64 k ∧ Hid (Below w.heap.size w wr) ∧ Hid (alFrom limit num den xs 0 = alFrom limit num den xs k)) (fun i _ => n - (intOf i).toNat)
          case atStart => exact ⟨0, Nat.zero_le _, rfl, Below.refl _ _, rfl⟩
          case round =>
            obtain ⟨k, hk, rfl, HBR, HI⟩ := hrel
            by_cases hlt : k < n
            · obtain ⟨b, off, x, rfl, hx, hc⟩ := H.out.at hlt
              have hcx := cell_below HBR.out hc
              have HA : Hid (alFrom limit num den xs k = if hitB limit num den xs k = true then (k : Int) else alFrom limit num den xs (k + 1)) := (show _ = _ from alFrom_lt (by rw [HL.out]; exact hlt))
              have HXX : Hid (hitB limit num den xs k = (decide (limit ≤ x) && decide (cA (subX xs k) * den ≤ num * cB (subX xs k)))) := (show _ = _ from alFrom_hit2 hx HV.out)
              clear hc hx
              by_cases hxl : x < limit
              · have HN : Hid (alFrom limit num den xs k = alFrom limit num den xs (k + 1)) := (show _ = _ by rw [HA.out, HXX.out, decide_eq_false (show ¬ limit ≤ x by omega)]; rfl)
                go_wp2_with fail
                go_roundw
                case rel => exact ⟨k + 1, by omega, by first | rfl | go_num, HBR.out, (show _ = _ from by rw [HI.out, HN.out])⟩
                case measure => simp [intOf]; omega
              · have hkc : k + 1 ≤ c := by have := H.out.cap; omega
                have hkci : (k : Int) + 1 ≤ c := by omega
                have HS := Lib.hid ((H.out.sub hlt).below HBR.out)
                have hbd := low_bd (valued_sub HV.out (i := k) (by rw [HL.out]; exact hlt))
                have HCH := Lib.hid (Chance_ref _ _ _ _ wr HS.out)
                rw [decide_eq_true (show limit ≤ x by omega), Bool.true_and] at HXX
                generalize cA (subX xs k) = p at *
                generalize cB (subX xs k) = q at *
                generalize cE (subX xs k) = f at *
                have b1 : 0 ≤ p * den ∧ p * den ≤ 40320000000 := ⟨Int.mul_nonneg (by omega) (by omega), by have h := Int.mul_le_mul (show p ≤ 40320 by omega) g3.2 (by omega) (by decide : (0 : Int) ≤ 40320); omega⟩
                have b2 : 0 ≤ num * q ∧ num * q ≤ 40320000000 := ⟨Int.mul_nonneg (by omega) (by omega), by have h := Int.mul_le_mul g2.2 (show q ≤ 40320 by omega) (by omega) (by decide : (0 : Int) ≤ 1000000); omega⟩
                have x1 : wrap64 (p * den) = p * den := w64 _ (by omega) (by omega)
                have x2 : wrap64 (num * q) = num * q := w64 _ (by omega) (by omega)
                clear hbd b1 b2
                go_wp2_with fail
                all_goals (first
                  | (have e8 : ((k : Int) + 1 - 8).toNat = k + 1 - 8 := by omega
                     rw [e8]
                     with_reducible refine HCH.out.mono ?_)
                  | (have e8 : k + 1 - 8 = 0 := by omega
                     rw [e8, Nat.add_zero, Nat.sub_zero, Nat.sub_zero] at HCH
                     with_reducible refine HCH.out.mono ?_))
                all_goals
                  rintro e w2 ⟨rfl, hb2⟩
                  have HB2 := Lib.hid hb2
                  clear hb2
                  have HBE := Lib.hid (below_trans HBR.out HB2.out)
                  by_cases hcc : p * den ≤ num * q
                  · have HN : Hid (alN limit num den xs = k ∧ alE limit num den xs = 0) := (show _ ∧ _ by rw [E2.out.1, E2.out.2, HI.out, HA.out, HXX.out, decide_eq_true hcc]; exact ⟨rfl, rfl⟩)
                    go_wp2_with fail
                    go_ret2
                    exact ⟨by rw [HN.out.1, HN.out.2]; rfl, HBE.out⟩
                  · have HN : Hid (alFrom limit num den xs k = alFrom limit num den xs (k + 1)) := (show _ = _ by rw [HA.out, HXX.out, decide_eq_false hcc]; rfl)
                    go_wp2_with fail
                    go_roundw
                    case rel => exact ⟨k + 1, by omega, by first | rfl | go_num, HBE.out, (show _ = _ from by rw [HI.out, HN.out])⟩
                    case measure => simp [intOf]; omega
            · have HN : Hid (alN limit num den xs = -1 ∧ alE limit num den xs = 0) := (show _ ∧ _ by rw [E2.out.1, E2.out.2, HI.out, alFrom_ge (by rw [HL.out]; omega)]; exact ⟨rfl, rfl⟩)
              go_wp2_with fail
              go_ret2
              exact ⟨by rw [HN.out.1, HN.out.2]; rfl, HBR.out⟩
/-- the world with the limits in it -/
def limW (limit num den : Int) (w : World) : World := w.alloc (.cells #[.int .i64 limit, .int .i64 num, .int .i64 den] 35)
theorem limW_size (limit num den : Int) (w : World) : (limW limit num den w).heap.size = w.heap.size + 1 := by simp [limW]
theorem limW_below (limit num den : Int) (w : World) : Below w.heap.size w (limW limit num den w) := below_a1 _ _
theorem limW_cells {limit num den : Int} {w w1 : World} (h : Below (limW limit num den w).heap.size (limW limit num den w) w1) :
    w1.cell? ⟨w.heap.size, 0, none⟩ = some (.int .i64 limit) ∧ w1.cell? ⟨w.heap.size, 1, none⟩ = some (.int .i64 num) ∧ w1.cell? ⟨w.heap.size, 2, none⟩ = some (.int .i64 den) :=
  ⟨cell_below h (by simp [limW]), cell_below h (by simp [limW]), cell_below h (by simp [limW])⟩
set_option maxRecDepth 100000 in
set_option maxHeartbeats 8000000 in
theorem alarms_walk (A : Option Addr) (n c : Nat) (xs : List Int) (limit num den : Int) (w : World) (h : RdI w A n c xs) : Calls Try.prog 5 #[.slice A n c, .agg #[.int .i64 limit, .int .i64 num, .int .i64 den]] w fun e w' => e = .returned (.bool true) ∧ Below w.heap.size w w' := by
  have h0 : RdI (limW limit num den w) A n c xs := h.below (limW_below _ _ _ _)
  have HA : Hid (∀ w1, Below (limW limit num den w).heap.size (limW limit num den w) w1 → Calls Try.prog 25 #[.slice A n c, .int .i64 limit, .int .i64 num, .int .i64 den] w1 fun e w' => e = .returned (.tuple #[.int .i64 (alN limit num den xs), .int .i64 (alE limit num den xs)]) ∧ Below (limW limit num den w).heap.size (limW limit num den w) w') :=
    (show ∀ w1, _ → _ from fun w1 hb => (Alarm_any limit num den A n c xs w1 (h0.below hb)).mono fun e w' ⟨h1, h2⟩ => ⟨h1, below_trans hb h2⟩)
  have HR : Hid (∀ w1, Below (limW limit num den w).heap.size (limW limit num den w) w1 → Calls Try.prog 26 #[.slice A n c, .int .i64 limit, .int .i64 num, .int .i64 den] w1 fun e w' => e = .returned (.tuple #[.int .i64 (alN limit num den xs), .int .i64 (alE limit num den xs)]) ∧ Below (limW limit num den w).heap.size (limW limit num den w) w') :=
    (show ∀ w1, _ → _ from fun w1 hb => (Alarm_ref limit num den A n c xs w1 (h0.below hb)).mono fun e w' ⟨h1, h2⟩ => ⟨h1, below_trans hb h2⟩)
  have HW : Hid (∀ w1, Below (limW limit num den w).heap.size (limW limit num den w) w1 → Calls Try.prog 20 #[] w1 fun e w' => e = .returned (.bool true) ∧ Below (limW limit num den w).heap.size (limW limit num den w) w') :=
    (show ∀ w1, _ → _ from fun w1 hb => (works_any w1).mono fun e w' ⟨h1, h2⟩ => ⟨h1, below_trans hb h2⟩)
  have HC : Hid (∀ w1, Below (limW limit num den w).heap.size (limW limit num den w) w1 → w1.cell? ⟨w.heap.size, 0, none⟩ = some (.int .i64 limit) ∧ w1.cell? ⟨w.heap.size, 1, none⟩ = some (.int .i64 num) ∧ w1.cell? ⟨w.heap.size, 2, none⟩ = some (.int .i64 den)) := (show ∀ w1, _ → _ from fun w1 hb => limW_cells hb)
  have HL := Lib.hid (limW_below limit num den w)
  clear h h0
  generalize alN limit num den xs = a at *
  generalize alE limit num den xs = b at *
  have HB : Hid (Below (limW limit num den w).heap.size (limW limit num den w) (w.alloc (.cells #[.int .i64 limit, .int .i64 num, .int .i64 den] 35))) := (show Below _ _ _ from Below.refl _ _)
  by_cases h6 : (6 : Int) < n
  · by_cases h64 : (n : Int) ≤ 64
    all_goals
      go_enter Try.func5, Try.ntmps5
      go_wp2_with (first
        | (go_at_call 20; refine (HW.out _ HB.out).mono ?_; clear HB; rintro e w1 ⟨rfl, hb1⟩; have HB := Lib.hid hb1; clear hb1)
        | (go_at_call 25; refine (HA.out _ HB.out).mono ?_; clear HB; rintro e w1 ⟨rfl, hb1⟩; have HB := Lib.hid hb1; obtain ⟨hc0, hc1, hc2⟩ := HC.out _ hb1; clear hb1)
        | (go_at_call 26; refine (HR.out _ HB.out).mono ?_; clear HB; rintro e w1 ⟨rfl, hb1⟩; have HB := Lib.hid hb1; obtain ⟨hc0, hc1, hc2⟩ := HC.out _ hb1; clear hb1))
    all_goals
      go_ret
      exact ⟨rfl, below_trans HL.out HB.out⟩
  · go_enter Try.func5, Try.ntmps5
    go_wp2_with (first
        | (go_at_call 20; refine (HW.out _ HB.out).mono ?_; clear HB; rintro e w1 ⟨rfl, hb1⟩; have HB := Lib.hid hb1; clear hb1)
        | (go_at_call 25; refine (HA.out _ HB.out).mono ?_; clear HB; rintro e w1 ⟨rfl, hb1⟩; have HB := Lib.hid hb1; obtain ⟨hc0, hc1, hc2⟩ := HC.out _ hb1; clear hb1)
        | (go_at_call 26; refine (HR.out _ HB.out).mono ?_; clear HB; rintro e w1 ⟨rfl, hb1⟩; have HB := Lib.hid hb1; obtain ⟨hc0, hc1, hc2⟩ := HC.out _ hb1; clear hb1))
    go_ret
    exact ⟨rfl, below_trans HL.out HB.out⟩
end Go.Proofs.Ytcmjpcmdgnbbpaa
