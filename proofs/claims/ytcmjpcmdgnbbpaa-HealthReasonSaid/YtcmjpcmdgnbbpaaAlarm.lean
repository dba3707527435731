/- Alarm of the program and of the reference. -/
import Derived.Test.YtcmjpcmdgnbbpaaWorks
namespace Go.Proofs.Ytcmjpcmdgnbbpaa
open Go.RowKit
def subX (xs : List Int) (i : Nat) : List Int := (xs.take (i + 1)).drop (i + 1 - 8)
def hitB (limit num den : Int) (xs : List Int) (i : Nat) : Bool := decide (limit ≤ xs.getD i 0) && decide ((chNum (subX xs i) : Int) * den ≤ num * chDen (subX xs i))
def alFrom (limit num den : Int) (xs : List Int) (k : Nat) : Int := match (List.range' k (xs.length - k)).find? (hitB limit num den xs) with
  | some i => i
  | none => -1
theorem alFrom_lt {limit num den : Int} {xs : List Int} {k : Nat} (h : k < xs.length) : alFrom limit num den xs k = if hitB limit num den xs k = true then (k : Int) else alFrom limit num den xs (k + 1) := by
  unfold alFrom
  rw [show xs.length - k = (xs.length - (k + 1)) + 1 by omega, List.range'_succ, List.find?_cons]
  cases hitB limit num den xs k <;> simp
theorem alFrom_ge {limit num den : Int} {xs : List Int} {k : Nat} (h : xs.length ≤ k) : alFrom limit num den xs k = -1 := by
  unfold alFrom
  rw [show xs.length - k = 0 by omega]; rfl
theorem subX_len {xs : List Int} {i : Nat} (h : i < xs.length) : (subX xs i).length = i + 1 - (i + 1 - 8) := by
  unfold subX
  rw [List.length_drop, List.length_take]; omega
theorem allB_sub {xs : List Int} {l h : Int} (hx : allB xs l h = true) (i : Nat) : allB (subX xs i) l h = true := by
  unfold allB at *
  rw [List.all_eq_true] at *
  exact fun x hm => hx x (List.mem_of_mem_take (List.mem_of_mem_drop hm))
theorem valued_sub {xs : List Int} (hx : allB xs (-1000000) 1000000 = true) {i : Nat} (h : i < xs.length) : valuedB (subX xs i) = true := by
  unfold valuedB
  rw [allB_sub hx, subX_len h]
  simp; omega
theorem RdI.sub {w : World} {b off n c : Nat} {xs : List Int} (h : RdI w (some ⟨b, off, none⟩) n c xs) {i : Nat} (hi : i < n) : RdI w (some ⟨b, off + (i + 1 - 8), none⟩) (i + 1 - (i + 1 - 8)) (c - (i + 1 - 8)) (subX xs i) :=
  (h.take (i + 1) (by omega)).drop (i + 1 - 8) (by omega) _ (fun _ b' off' e => by cases e; rfl) (fun e => by cases e)
/-- a fraction in its lowest terms is as great -/
theorem low_le {p q num den : Int} (hq : 0 < q) : (lowN p q * den ≤ num * lowD p q) ↔ p * den ≤ num * q := by
  obtain ⟨g, hg⟩ : ∃ g : Nat, Int.gcd p q = g := ⟨_, rfl⟩
  have hg0 : 0 < g := by rw [← hg]; exact Int.gcd_pos_of_ne_zero_right _ (by omega)
  have hp : (g : Int) ∣ p := by rw [← hg]; exact Int.gcd_dvd_left _ _
  have hd : (g : Int) ∣ q := by rw [← hg]; exact Int.gcd_dvd_right _ _
  obtain ⟨a, rfl⟩ := hp
  obtain ⟨b, rfl⟩ := hd
  unfold lowN lowD
  rw [hg, Int.mul_tdiv_cancel_left _ (by omega), Int.mul_tdiv_cancel_left _ (by omega), Int.mul_assoc, Int.mul_left_comm num]
  have hgi : (0 : Int) < g := by omega
  exact ⟨fun h => Int.mul_le_mul_of_nonneg_left h (by omega), fun h => Int.le_of_mul_le_mul_left h hgi⟩
def alOk (limit num den : Int) (xs : List Int) : Bool := withinB limit (-1000000) 1000000 && withinB num 0 1000000 && withinB den 1 1000000 && allB xs (-1000000) 1000000
def alN (limit num den : Int) (xs : List Int) : Int := if 64 < xs.length then 0 else if alOk limit num den xs = true then alFrom limit num den xs 0 else 0
def alE (limit num den : Int) (xs : List Int) : Int := if 64 < xs.length then 2 else if alOk limit num den xs = true then 0 else 1
theorem cmpI_le (x y : Int) : decide (cmpI x y ≤ 0) = decide (x ≤ y) := by
  unfold cmpI
  split
  · simp; omega
  · split <;> simp <;> omega
set_option maxRecDepth 100000 in
set_option maxHeartbeats 8000000 in
theorem Alarm_any (limit num den : Int) (A : Option Addr) (n c : Nat) (xs : List Int) (w : World) (h : RdI w A n c xs) :
    Calls Try.prog 25 #[.slice A n c, .int .i64 limit, .int .i64 num, .int .i64 den] w fun e w' => e = .returned (.tuple #[.int .i64 (alN limit num den xs), .int .i64 (alE limit num den xs)]) ∧ Below w.heap.size w w' := by
  have hlen := h.len
  by_cases h64 : 64 < n
  · have h64' : (64 : Int) < n := by omega
    have E1 : Hid (alN limit num den xs = 0 ∧ alE limit num den xs = 2) := (show _ ∧ _ by simp [alN, alE, hlen, h64])
    clear h hlen
    go_enter Try.func25, Try.ntmps25
    go_wp2_with fail
    go_ret2
    exact ⟨by rw [E1.out.1, E1.out.2]; rfl, Below.refl _ _⟩
  · have h64' : ¬ (64 : Int) < n := by omega
    have H1 : Hid (∀ w, Calls Try.prog 62 #[.int .i64 limit, .int .i64 (-1000000), .int .i64 1000000] w fun e w' => e = .returned (.bool (withinB limit (-1000000) 1000000)) ∧ w = w') := (show ∀ w, _ from fun w => within_any _ _ _ w)
    have H2 : Hid (∀ w, Calls Try.prog 62 #[.int .i64 num, .int .i64 0, .int .i64 1000000] w fun e w' => e = .returned (.bool (withinB num 0 1000000)) ∧ w = w') := (show ∀ w, _ from fun w => within_any _ _ _ w)
    have H3 : Hid (∀ w, Calls Try.prog 62 #[.int .i64 den, .int .i64 1, .int .i64 1000000] w fun e w' => e = .returned (.bool (withinB den 1 1000000)) ∧ w = w') := (show ∀ w, _ from fun w => within_any _ _ _ w)
    have H0 := Lib.hid (all_any A n c xs (-1000000) 1000000 w h)
    have H := Lib.hid h
    have EK : Hid (alOk limit num den xs = (withinB limit (-1000000) 1000000 && withinB num 0 1000000 && withinB den 1 1000000 && allB xs (-1000000) 1000000)) := (show _ = _ from rfl)
    have E1 : Hid (alN limit num den xs = (if alOk limit num den xs = true then alFrom limit num den xs 0 else 0) ∧ alE limit num den xs = (if alOk limit num den xs = true then 0 else 1)) := (show _ ∧ _ by simp [alN, alE, hlen, h64])
    have HL := Lib.hid hlen
    clear h hlen h64
    cases hk : alOk limit num den xs with
    | false =>
      rw [hk] at EK E1
      have EK2 : Hid ((!allB xs (-1000000) 1000000 || !withinB limit (-1000000) 1000000 || !withinB num 0 1000000 || !withinB den 1 1000000) = true) := (show _ = _ by
        have := EK.out
        cases h1 : allB xs (-1000000) 1000000 <;> cases h2 : withinB limit (-1000000) 1000000 <;> cases h3 : withinB num 0 1000000 <;> cases h4 : withinB den 1 1000000 <;> simp [h1, h2, h3, h4] at this ⊢)
      clear EK hk
      generalize allB xs (-1000000) 1000000 = b0 at *
      generalize withinB limit (-1000000) 1000000 = b1 at *
      generalize withinB num 0 1000000 = b2 at *
      generalize withinB den 1 1000000 = b3 at *
      cases b0 <;> cases b1 <;> cases b2 <;> cases b3 <;> first | (exfalso; revert EK2; simp [Hid]; done) | skip
      all_goals
        go_enter Try.func25, Try.ntmps25
        go_wp2_with (first
          | (go_at_call 64; refine H0.out.mono ?_; rintro e w1 ⟨rfl, hb1⟩; have HB := Lib.hid hb1; clear hb1 H0)
          | (go_at_call 62; with_reducible refine (H1.out _).mono ?_; rintro e w1 ⟨rfl, rfl⟩)
          | (go_at_call 62; with_reducible refine (H2.out _).mono ?_; rintro e w1 ⟨rfl, rfl⟩)
          | (go_at_call 62; with_reducible refine (H3.out _).mono ?_; rintro e w1 ⟨rfl, rfl⟩))
        go_ret2
        exact ⟨by rw [E1.out.1, E1.out.2]; rfl, HB.out⟩
    | true =>
      rw [hk] at EK E1
      have EK2 : allB xs (-1000000) 1000000 = true ∧ withinB limit (-1000000) 1000000 = true ∧ withinB num 0 1000000 = true ∧ withinB den 1 1000000 = true := by
        have := EK.out
        simp only [Bool.and_eq_true, eq_comm (a := true)] at this
        exact ⟨this.2, this.1.1.1, this.1.1.2, this.1.2⟩
      obtain ⟨k0, k1, k2, k3⟩ := EK2
      have g2 := (withinB_iff _ _ _).1 k2
      have g3 := (withinB_iff _ _ _).1 k3
      rw [k0] at H0
      rw [k1] at H1
      rw [k2] at H2
      rw [k3] at H3
      have HV := Lib.hid k0
      clear EK hk k0 k1 k2 k3
      go_enter Try.func25, Try.ntmps25
      go_wp2_with (first
          | (go_at_call 64; refine H0.out.mono ?_; rintro e w1 ⟨rfl, hb1⟩; have HB := Lib.hid hb1; clear hb1 H0)
          | (go_at_call 62; with_reducible refine (H1.out _).mono ?_; rintro e w1 ⟨rfl, rfl⟩)
          | (go_at_call 62; with_reducible refine (H2.out _).mono ?_; rintro e w1 ⟨rfl, rfl⟩)
          | (go_at_call 62; with_reducible refine (H3.out _).mono ?_; rintro e w1 ⟨rfl, rfl⟩))
      go_loopw [36] (fun i wr => ∃ k : Nat, k ≤ n ∧ i = .int .i64 k ∧ Hid (Below w.heap.size w wr) ∧ Hid (alFrom limit num den xs 0 = alFrom limit num den xs k)) (fun i _ => n - (intOf i).toNat)
      case atStart => exact ⟨0, Nat.zero_le _, rfl, HB.out, rfl⟩
      case round =>
        obtain ⟨k, hk, rfl, HBR, HI⟩ := hrel
        by_cases hlt : k < n
        · obtain ⟨b, off, x, rfl, hx, hc⟩ := H.out.at hlt
          have hcx := cell_below HBR.out hc
          have HA : Hid (alFrom limit num den xs k = if hitB limit num den xs k = true then (k : Int) else alFrom limit num den xs (k + 1)) := (show _ = _ from alFrom_lt (by rw [HL.out]; exact hlt))
          have HXX : Hid (hitB limit num den xs k = (decide (limit ≤ x) && decide ((chNum (subX xs k) : Int) * den ≤ num * chDen (subX xs k)))) := (show _ = _ by unfold hitB; rw [List.getD_eq_getElem?_getD, hx]; rfl)
          clear hc hx
          by_cases hxl : x < limit
          · have HN : Hid (alFrom limit num den xs k = alFrom limit num den xs (k + 1)) := (show _ = _ by rw [HA.out, HXX.out, decide_eq_false (show ¬ limit ≤ x by omega)]; rfl)
            go_wp2_with fail
            go_roundw
            case rel => exact ⟨k + 1, by omega, by first | rfl | go_num, HBR.out, (show _ = _ from by rw [HI.out, HN.out])⟩
            case measure => simp [intOf]; omega
          · have hkc : k + 1 ≤ c := by have := H.out.cap; omega
            have hkci : (k : Int) + 1 ≤ c := by omega
            have HS := Lib.hid ((H.out.sub hlt).below HBR.out)
            have hsl := subX_len (xs := xs) (i := k) (by rw [HL.out]; exact hlt)
            have hq : chDen (subX xs k) ≤ 40320 := fact_le (by rw [hsl]; omega)
            have hp := chNum_le (subX xs k)
            have HCH := Lib.hid (chance_any _ _ _ _ wr HS.out (by omega) (by omega))
            rw [decide_eq_true (show limit ≤ x by omega), Bool.true_and] at HXX
            clear hsl
            generalize chNum (subX xs k) = p at *
            generalize chDen (subX xs k) = q at *
            have b1 : 0 ≤ (p : Int) * den ∧ (p : Int) * den ≤ 40320000000 := ⟨Int.mul_nonneg (by omega) (by omega), by have h := Int.mul_le_mul (show (p : Int) ≤ 40320 by omega) g3.2 (by omega) (by decide : (0 : Int) ≤ 40320); omega⟩
            have b2 : 0 ≤ num * q ∧ num * q ≤ 40320000000 := ⟨Int.mul_nonneg (by omega) (by omega), by have h := Int.mul_le_mul g2.2 (show (q : Int) ≤ 40320 by omega) (by omega) (by decide : (0 : Int) ≤ 1000000); omega⟩
            have HF := Lib.hid (fun W => fcompare_any p q num den W (by omega) (by omega))
            have hcl := cmpI_le ((p : Int) * den) (num * q)
            generalize cmpI ((p : Int) * den) (num * q) = cc at *
            rw [← hcl] at HXX
            clear hcl b1 b2 hp hq
            go_wp2_with fail
            all_goals (first
              | (have e8 : ((k : Int) + 1 - 8).toNat = k + 1 - 8 := by omega
                 rw [e8]
                 with_reducible refine HCH.out.mono ?_)
              | (have e8 : k + 1 - 8 = 0 := by omega
                 rw [e8, Nat.add_zero, Nat.sub_zero, Nat.sub_zero] at HCH
                 with_reducible refine HCH.out.mono ?_))
            all_goals
              rintro e w2 ⟨rfl, hb2⟩
              have HB2 := Lib.hid hb2
              clear hb2
              go_wp2_with fail
              refine (HF.out _).mono ?_
              rintro e w3 ⟨rfl, hb3⟩
              have HB3 := Lib.hid (below_trans (below_a1 _ _) hb3)
              clear hb3
              have HBE := Lib.hid (below_trans (below_trans HBR.out HB2.out) HB3.out)
              by_cases hcc : cc ≤ 0
              · have HN : Hid (alN limit num den xs = k ∧ alE limit num den xs = 0) := (show _ ∧ _ by rw [E1.out.1, E1.out.2, if_pos trivial, if_pos trivial, HI.out, HA.out, HXX.out, decide_eq_true hcc]; exact ⟨rfl, rfl⟩)
                go_wp2_with fail
                go_ret2
                exact ⟨by rw [HN.out.1, HN.out.2]; rfl, HBE.out⟩
              · have HN : Hid (alFrom limit num den xs k = alFrom limit num den xs (k + 1)) := (show _ = _ by rw [HA.out, HXX.out, decide_eq_false hcc]; rfl)
                go_wp2_with fail
                go_roundw
                case rel => exact ⟨k + 1, by omega, by first | rfl | go_num, HBE.out, (show _ = _ from by rw [HI.out, HN.out])⟩
                case measure => simp [intOf]; omega
        · have HN : Hid (alN limit num den xs = -1 ∧ alE limit num den xs = 0) := (show _ ∧ _ by rw [E1.out.1, E1.out.2, if_pos trivial, if_pos trivial, HI.out, alFrom_ge (by rw [HL.out]; omega)]; exact ⟨rfl, rfl⟩)
          go_wp2_with fail
          go_ret2
          exact ⟨by rw [HN.out.1, HN.out.2]; rfl, HBR.out⟩
end Go.Proofs.Ytcmjpcmdgnbbpaa
