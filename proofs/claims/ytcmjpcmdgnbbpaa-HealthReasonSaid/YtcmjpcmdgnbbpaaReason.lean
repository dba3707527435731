/- HealthReason: the walk of the law. -/
import Derived.Test.YtcmjpcmdgnbbpaaReasonP
namespace Go.Proofs.Ytcmjpcmdgnbbpaa
open Go.RowKit
/-- do the first k values ascend? -/
def ascK (xs : List Int) : Nat → Bool
  | 0 => true
  | k + 1 => ascK xs k && (decide (k = 0) || decide (xs.getD (k - 1) 0 < xs.getD k 0))
/-- are the first k values equal to the first? -/
def eqK (xs : List Int) : Nat → Bool
  | 0 => true
  | k + 1 => eqK xs k && (xs.getD k 0 == xs.getD 0 0)
theorem ascK_pw {xs : List Int} (h : ascK xs xs.length = true) : List.Pairwise (· < ·) xs := by
  have key : ∀ k, k ≤ xs.length → ascK xs k = true → ∀ i, i + 1 < k → xs.getD i 0 < xs.getD (i + 1) 0 := by
    intro k
    induction k with
    | zero => intro _ _ i hi; omega
    | succ k ih =>
      intro hk h i hi
      simp only [ascK, Bool.and_eq_true, Bool.or_eq_true, decide_eq_true_eq] at h
      by_cases e : i + 1 = k
      · subst e
        rcases h.2 with h | h
        · omega
        · simpa using h
      · exact ih (by omega) h.1 i (by omega)
  have hs := key xs.length (Nat.le_refl _) h
  rw [List.pairwise_iff_getElem]
  have : ∀ d i j (hi : i < xs.length) (hj : j < xs.length), j = i + 1 + d → xs[i] < xs[j] := by
    intro d
    induction d with
    | zero =>
      intro i j hi hj e
      have := hs i (by omega)
      rw [List.getD_eq_getElem?_getD, List.getD_eq_getElem?_getD, List.getElem?_eq_getElem hi, List.getElem?_eq_getElem (by omega)] at this
      subst e; exact this
    | succ d ih =>
      intro i j hi hj e
      have h1 := ih i (i + 1 + d) hi (by omega) rfl
      have h2 := hs (i + 1 + d) (by omega)
      rw [List.getD_eq_getElem?_getD, List.getD_eq_getElem?_getD, List.getElem?_eq_getElem (by omega), List.getElem?_eq_getElem (by omega)] at h2
      have e2 : j = i + 1 + d + 1 := by omega
      subst e2
      exact Int.lt_trans h1 h2
  intro i j hi hj hij
  exact this (j - (i + 1)) i j hi hj (by omega)
theorem eqK_all {xs : List Int} (h : eqK xs xs.length = true) : ∀ y, y ∈ xs → y = xs.getD 0 0 := by
  have key : ∀ k, k ≤ xs.length → eqK xs k = true → ∀ i, i < k → xs.getD i 0 = xs.getD 0 0 := by
    intro k
    induction k with
    | zero => intro _ _ i hi; omega
    | succ k ih =>
      intro hk h i hi
      simp only [eqK, Bool.and_eq_true, beq_iff_eq] at h
      by_cases e : i = k
      · subst e; exact h.2
      · exact ih (by omega) h.1 i (by omega)
  intro y hy
  obtain ⟨i, hi, rfl⟩ := List.getElem_of_mem hy
  have := key xs.length (Nat.le_refl _) h i hi
  rwa [List.getD_eq_getElem?_getD, List.getElem?_eq_getElem hi] at this
theorem rev_take_succ {xs : List Int} {k : Nat} {y : Int} (hk : k < xs.length) (hy : xs[xs.length - 1 - k]? = some y) : xs.reverse.take (k + 1) = xs.reverse.take k ++ [y] := by
  refine take_succ_of ?_
  rw [List.getElem?_reverse hk]; exact hy
theorem valued_rev {xs : List Int} (h : valuedB xs = true) : valuedB xs.reverse = true := by
  unfold valuedB allB at *
  simpa using h
theorem fact_succ_int (k : Nat) : ((fact (k + 1) : Nat) : Int) = (fact k : Nat) * ((k : Int) + 1) := by
  simp only [fact]; rw [Int.natCast_mul, Int.mul_comm]; simp
/-- what holds of Chance of values of a trend -/
theorem chance_facts {xs : List Int} (h : valuedB xs = true) : 1 ≤ cA xs ∧ cA xs ≤ cB xs ∧ cB xs ≤ (fact xs.length : Nat) ∧ ((fact xs.length : Nat) : Int) % cB xs = 0 ∧
    (ascK xs xs.length = true → cA xs = 1 ∧ cB xs = (fact xs.length : Nat)) ∧ (eqK xs xs.length = true → cA xs = 1 ∧ cB xs = 1) ∧ cE xs = 0 := by
  have hl := low_facts (chNum_pos xs) (chNum_le xs)
  unfold cA cB cE
  simp only [h, if_true]
  obtain ⟨h1, h2, h3, h4, h5, h6⟩ := hl
  exact ⟨h1, h2, h4, h3, fun ha => h5 (chNum_asc (ascK_pw ha)), fun he => h6 (chNum_equal (eqK_all he)), trivial⟩
set_option maxRecDepth 100000 in
set_option maxHeartbeats 8000000 in
theorem reason_walk (A : Option Addr) (n c : Nat) (xs : List Int) (limit num den : Int) (w : World) (h : RdI w A n c xs) : Calls Try.prog 8 #[.slice A n c, .agg #[.int .i64 limit, .int .i64 num, .int .i64 den]] w fun e w' => e = .returned (.bool true) ∧ Below w.heap.size w w' := by
  have h0 : RdI (limW limit num den w) A n c xs := h.below (limW_below _ _ _ _)
  have HT : Hid (∀ w1, Below (limW limit num den w).heap.size (limW limit num den w) w1 → Calls Try.prog 17 #[.slice A n c] w1 fun e w' => e = .returned (.tuple #[.int .i64 (tA xs), .int .i64 (cE xs)]) ∧ Below (limW limit num den w).heap.size (limW limit num den w) w') :=
    (show ∀ w1, _ → _ from fun w1 hb => (Trend_any A n c xs w1 (h0.below hb)).mono fun e w' ⟨h1, h2⟩ => ⟨h1, below_trans hb h2⟩)
  have HC : Hid (∀ w1, Below (limW limit num den w).heap.size (limW limit num den w) w1 → Calls Try.prog 21 #[.slice A n c] w1 fun e w' => e = .returned (.tuple #[.int .i64 (cA xs), .int .i64 (cB xs), .int .i64 (cE xs)]) ∧ Below (limW limit num den w).heap.size (limW limit num den w) w') :=
    (show ∀ w1, _ → _ from fun w1 hb => (Chance_any A n c xs w1 (h0.below hb)).mono fun e w' ⟨h1, h2⟩ => ⟨h1, below_trans hb h2⟩)
  have HA : Hid (∀ w1, Below (limW limit num den w).heap.size (limW limit num den w) w1 → Calls Try.prog 25 #[.slice A n c, .int .i64 limit, .int .i64 num, .int .i64 den] w1 fun e w' => e = .returned (.tuple #[.int .i64 (alN limit num den xs), .int .i64 (alE limit num den xs)]) ∧ Below (limW limit num den w).heap.size (limW limit num den w) w') :=
    (show ∀ w1, _ → _ from fun w1 hb => (Alarm_any limit num den A n c xs w1 (h0.below hb)).mono fun e w' ⟨h1, h2⟩ => ⟨h1, below_trans hb h2⟩)
  have HW : Hid (∀ w1, Below (limW limit num den w).heap.size (limW limit num den w) w1 → Calls Try.prog 20 #[] w1 fun e w' => e = .returned (.bool true) ∧ Below (limW limit num den w).heap.size (limW limit num den w) w') :=
    (show ∀ w1, _ → _ from fun w1 hb => (works_any w1).mono fun e w' ⟨h1, h2⟩ => ⟨h1, below_trans hb h2⟩)
  have HCL : Hid (∀ w1, Below (limW limit num den w).heap.size (limW limit num den w) w1 → w1.cell? ⟨w.heap.size, 0, none⟩ = some (.int .i64 limit) ∧ w1.cell? ⟨w.heap.size, 1, none⟩ = some (.int .i64 num) ∧ w1.cell? ⟨w.heap.size, 2, none⟩ = some (.int .i64 den)) := (show ∀ w1, _ → _ from fun w1 hb => limW_cells hb)
  have HL := Lib.hid (limW_below limit num den w)
  have H0 := Lib.hid h0
  have HB : Hid (Below (limW limit num den w).heap.size (limW limit num den w) (w.alloc (.cells #[.int .i64 limit, .int .i64 num, .int .i64 den] 35))) := (show Below _ _ _ from Below.refl _ _)
  have hlen := h.len
  clear h h0
  cases hv : valuedB xs with
  | false =>
    have E : Hid (cE xs = 1) := (show _ = _ by simp [cE, hv])
    have e1 : ((1 : Int) != 0) = true := rfl
    rw [E.out] at HT HC
    clear hv hlen
    generalize tA xs = t at *
    go_enter Try.func8, Try.ntmps8
    go_wp2_with (first
      | (go_at_call 17; refine (HT.out _ HB.out).mono ?_; clear HB; rintro e w1 ⟨rfl, hb1⟩; have HB := Lib.hid hb1; clear hb1)
      | (go_at_call 20; refine (HW.out _ HB.out).mono ?_; clear HB; rintro e w1 ⟨rfl, hb1⟩; have HB := Lib.hid hb1; clear hb1))
    go_ret
    exact ⟨rfl, below_trans HL.out HB.out⟩
  | true =>
    have hn18 := valuedB_len hv
    rw [hlen] at hn18
    have hf := chance_facts hv
    have ht : tA xs = trendL xs := by simp [tA, hv]
    have htb := trendL_bd (xs := xs) (by omega)
    have HREV : Hid (tA xs.reverse = -trendL xs ∧ cE xs.reverse = 0) := (show _ ∧ _ by rw [tA, cE, if_pos (valued_rev hv), if_pos (valued_rev hv), trendL_reverse]; exact ⟨rfl, rfl⟩)
    rw [ht, hf.2.2.2.2.2.2] at HT
    rw [hf.2.2.2.2.2.2] at HC
    have HV := Lib.hid hv
    have HF := Lib.hid hf
    have HLN := Lib.hid hlen
    clear hv hf ht hlen
    go_enter Try.func8, Try.ntmps8
    go_wp2_with (first
      | (go_at_call 17; refine (HT.out _ HB.out).mono ?_; clear HB; rintro e w1 ⟨rfl, hb1⟩; have HB := Lib.hid hb1; clear hb1)
      | (go_at_call 21; refine (HC.out _ HB.out).mono ?_; clear HB; rintro e w2 ⟨rfl, hb2⟩; have HB := Lib.hid hb2; clear hb2))
    go_loopw [10, 11, 12, 13, 14] (fun bk al ac eq i wr => ∃ (k : Nat) (u : Value), k ≤ n ∧ i = .int .i64 k ∧ bk = u ∧ al = .int .i64 ((fact k : Nat) : Int) ∧ ac = .bool (ascK xs k) ∧ eq = .bool (eqK xs k) ∧ Hid (wr.ownsRow (limW limit num den w).heap.size 3 1 u k (ints (xs.reverse.take k))) ∧ Hid (Below (limW limit num den w).heap.size (limW limit num den w) wr)) (fun _ _ _ _ i _ => n - (intOf i).toNat)
    case atStart => exact ⟨0, _, Nat.zero_le _, rfl, rfl, rfl, rfl, rfl, (show World.ownsRow _ _ _ _ _ _ _ from by simpa [ints] using World.ownsRow_nil _ (limW limit num den w).heap.size 3 1), HB.out⟩
    case round =>
      obtain ⟨k, u, hk, rfl, rfl, rfl, rfl, rfl, HO, HBR⟩ := hrel
      have hFb : fact k ≤ 40320 := fact_le (by omega)
      by_cases hlt : k < n
      · obtain ⟨b, off, x, rfl, hx, hcx0⟩ := H0.out.at hlt
        obtain ⟨_, _, y, hA1, hy, hcy0⟩ := H0.out.at (show n - 1 - k < n by omega)
        cases hA1
        obtain ⟨_, _, z, hA2, hz, hcz0⟩ := H0.out.at (show 0 < n by omega)
        cases hA2
        obtain ⟨_, _, p, hA3, hp, hcp0⟩ := H0.out.at (show k - 1 < n by omega)
        cases hA3
        rw [Nat.add_zero] at hcz0
        have hcy := cell_below HBR.out hcy0
        have HRT := Lib.hid (rev_take_succ (xs := xs) (k := k) (y := y) (by rw [HLN.out]; exact hlt) (by rw [HLN.out]; exact hy))
        have hF1 : fact (k + 1) ≤ 40320 := fact_le (by omega)
        have HFS : Hid (wrap64 (((fact k : Nat) : Int) * ((k : Int) + 1)) = ((fact (k + 1) : Nat) : Int)) := (show _ = _ by rw [← fact_succ_int]; exact w64 _ (by omega) (by omega))
        have HAS : Hid (ascK xs (k + 1) = (ascK xs k && (decide (k = 0) || decide (p < x)))) := (show _ = _ by simp only [ascK]; rw [List.getD_eq_getElem?_getD, List.getD_eq_getElem?_getD, hx, hp]; rfl)
        have HES : Hid (eqK xs (k + 1) = (eqK xs k && (x == z))) := (show _ = _ by simp only [eqK]; rw [List.getD_eq_getElem?_getD, List.getD_eq_getElem?_getD, hx, hz]; rfl)
        have hx0 : k = 0 → x = z := fun e => by subst e; rw [hx] at hz; exact Option.some.inj hz
        have e1 : ((n : Int) - 1 - (k : Int)).toNat = n - 1 - k := by omega
        have e2 : (0 : Int) ≤ (n : Int) - 1 - (k : Int) := by omega
        have e3 : (n : Int) - 1 - (k : Int) < n := by omega
        have f1 : IntKind.i64.wrap ((k : Int) - 1) = (k : Int) - 1 := by rw [IntKind.wrap_i64]; omega
        have f2 : ((k : Int) - 1).toNat = k - 1 := by omega
        have HX0 := Lib.hid (And.intro hcx0 (And.intro hcz0 hcp0))
        clear hx hy hz hp hcy0 hcx0 hcz0 hcp0
        generalize fact k = F at *
        cases ha : ascK xs k with
        | false =>
          cases he : eqK xs k with
          | false =>
            have HAN : Hid (ascK xs (k + 1) = false) := (show _ = _ by rw [HAS.out, ha, Bool.false_and])
            have HEN : Hid (eqK xs (k + 1) = false) := (show _ = _ by rw [HES.out, he, Bool.false_and])
            clear ha he hx0
            go_wp2_with (at_builtin; go_must (refine wpList_append_ints rfl _ _ rfl (limW limit num den w).heap.size _ k _ rfl (own_below HO.out (below_a1 _ _)) _ _ _ [y] rfl (RdI.one _ _) ?_ ?_ ?_); omega; exact Nat.le_trans HBR.out.size (by simp); intro v' w' h1 h2; have H1 := Lib.hid h1; have HBW := Lib.hid ((below_trans HBR.out (below_a1 _ _)).grown h2 (Nat.le_trans HBR.out.size (by simp)) (fun q hq => (HO.out.lt q hq).1)); have hcx := cell_below HBW.out HX0.out.1; have hcz := cell_below HBW.out HX0.out.2.1; have hcp := cell_below HBW.out HX0.out.2.2; clear h1 h2)
            go_quiet (fail)
            go_wp2_with fail
            go_quiet (fail)
            go_wp2_with fail
            go_roundw
            case rel => exact ⟨k + 1, v', by omega, by first | rfl | go_num, rfl, by rw [HFS.out], by first | (rw [HAN.out]; done) | (rw [HAN.out]; simp; omega), by first | (rw [HEN.out]; done) | (rw [HEN.out]; simp; omega), (show World.ownsRow _ _ _ _ _ _ _ by rw [HRT.out]; exact H1.out), below_drewN HBW.out _⟩
            case measure => simp [intOf]; omega
          | true =>
            cases hxz : (x == z) with
            | true =>
              have HAN : Hid (ascK xs (k + 1) = false) := (show _ = _ by rw [HAS.out, ha, Bool.false_and])
              have HEN : Hid (eqK xs (k + 1) = true) := (show _ = _ by rw [HES.out, he, hxz, Bool.true_and])
              clear ha he hx0
              go_wp2_with (at_builtin; go_must (refine wpList_append_ints rfl _ _ rfl (limW limit num den w).heap.size _ k _ rfl (own_below HO.out (below_a1 _ _)) _ _ _ [y] rfl (RdI.one _ _) ?_ ?_ ?_); omega; exact Nat.le_trans HBR.out.size (by simp); intro v' w' h1 h2; have H1 := Lib.hid h1; have HBW := Lib.hid ((below_trans HBR.out (below_a1 _ _)).grown h2 (Nat.le_trans HBR.out.size (by simp)) (fun q hq => (HO.out.lt q hq).1)); have hcx := cell_below HBW.out HX0.out.1; have hcz := cell_below HBW.out HX0.out.2.1; have hcp := cell_below HBW.out HX0.out.2.2; clear h1 h2)
              go_quiet (fail)
              go_wp2_with fail
              go_quiet (fail)
              go_wp2_with fail
              go_roundw
              case rel => exact ⟨k + 1, v', by omega, by first | rfl | go_num, rfl, by rw [HFS.out], by first | (rw [HAN.out]; done) | (rw [HAN.out]; simp; omega), by first | (rw [HEN.out]; done) | (rw [HEN.out]; simp; omega), (show World.ownsRow _ _ _ _ _ _ _ by rw [HRT.out]; exact H1.out), below_drewN HBW.out _⟩
              case measure => simp [intOf]; omega
            | false =>
              have HAN : Hid (ascK xs (k + 1) = false) := (show _ = _ by rw [HAS.out, ha, Bool.false_and])
              have HEN : Hid (eqK xs (k + 1) = false) := (show _ = _ by rw [HES.out, he, hxz, Bool.true_and])
              clear ha he hx0
              go_wp2_with (at_builtin; go_must (refine wpList_append_ints rfl _ _ rfl (limW limit num den w).heap.size _ k _ rfl (own_below HO.out (below_a1 _ _)) _ _ _ [y] rfl (RdI.one _ _) ?_ ?_ ?_); omega; exact Nat.le_trans HBR.out.size (by simp); intro v' w' h1 h2; have H1 := Lib.hid h1; have HBW := Lib.hid ((below_trans HBR.out (below_a1 _ _)).grown h2 (Nat.le_trans HBR.out.size (by simp)) (fun q hq => (HO.out.lt q hq).1)); have hcx := cell_below HBW.out HX0.out.1; have hcz := cell_below HBW.out HX0.out.2.1; have hcp := cell_below HBW.out HX0.out.2.2; clear h1 h2)
              go_quiet (fail)
              go_wp2_with fail
              go_quiet (fail)
              go_wp2_with fail
              go_roundw
              case rel => exact ⟨k + 1, v', by omega, by first | rfl | go_num, rfl, by rw [HFS.out], by first | (rw [HAN.out]; done) | (rw [HAN.out]; simp; omega), by first | (rw [HEN.out]; done) | (rw [HEN.out]; simp; omega), (show World.ownsRow _ _ _ _ _ _ _ by rw [HRT.out]; exact H1.out), below_drewN HBW.out _⟩
              case measure => simp [intOf]; omega
        | true =>
          cases hk0 : decide (k = 0) with
          | true =>
            have hk0i : ((k : Int) == 0) = true := by have := of_decide_eq_true hk0; simp; omega
            cases he : eqK xs k with
            | false =>
              have HAN : Hid (ascK xs (k + 1) = true) := (show _ = _ by rw [HAS.out, ha, hk0, Bool.true_or, Bool.true_and])
              have HEN : Hid (eqK xs (k + 1) = false) := (show _ = _ by rw [HES.out, he, Bool.false_and])
              clear ha he hx0
              go_wp2_with (at_builtin; go_must (refine wpList_append_ints rfl _ _ rfl (limW limit num den w).heap.size _ k _ rfl (own_below HO.out (below_a1 _ _)) _ _ _ [y] rfl (RdI.one _ _) ?_ ?_ ?_); omega; exact Nat.le_trans HBR.out.size (by simp); intro v' w' h1 h2; have H1 := Lib.hid h1; have HBW := Lib.hid ((below_trans HBR.out (below_a1 _ _)).grown h2 (Nat.le_trans HBR.out.size (by simp)) (fun q hq => (HO.out.lt q hq).1)); have hcx := cell_below HBW.out HX0.out.1; have hcz := cell_below HBW.out HX0.out.2.1; have hcp := cell_below HBW.out HX0.out.2.2; clear h1 h2)
              go_quiet (fail)
              go_wp2_with fail
              go_quiet (fail)
              go_wp2_with fail
              go_roundw
              case rel => exact ⟨k + 1, v', by omega, by first | rfl | go_num, rfl, by rw [HFS.out], by first | (rw [HAN.out]; done) | (rw [HAN.out]; simp; omega), by first | (rw [HEN.out]; done) | (rw [HEN.out]; simp; omega), (show World.ownsRow _ _ _ _ _ _ _ by rw [HRT.out]; exact H1.out), below_drewN HBW.out _⟩
              case measure => simp [intOf]; omega
            | true =>
              cases hxz : (x == z) with
              | true =>
                have HAN : Hid (ascK xs (k + 1) = true) := (show _ = _ by rw [HAS.out, ha, hk0, Bool.true_or, Bool.true_and])
                have HEN : Hid (eqK xs (k + 1) = true) := (show _ = _ by rw [HES.out, he, hxz, Bool.true_and])
                clear ha he hx0
                go_wp2_with (at_builtin; go_must (refine wpList_append_ints rfl _ _ rfl (limW limit num den w).heap.size _ k _ rfl (own_below HO.out (below_a1 _ _)) _ _ _ [y] rfl (RdI.one _ _) ?_ ?_ ?_); omega; exact Nat.le_trans HBR.out.size (by simp); intro v' w' h1 h2; have H1 := Lib.hid h1; have HBW := Lib.hid ((below_trans HBR.out (below_a1 _ _)).grown h2 (Nat.le_trans HBR.out.size (by simp)) (fun q hq => (HO.out.lt q hq).1)); have hcx := cell_below HBW.out HX0.out.1; have hcz := cell_below HBW.out HX0.out.2.1; have hcp := cell_below HBW.out HX0.out.2.2; clear h1 h2)
                go_quiet (fail)
                go_wp2_with fail
                go_quiet (fail)
                go_wp2_with fail
                go_roundw
                case rel => exact ⟨k + 1, v', by omega, by first | rfl | go_num, rfl, by rw [HFS.out], by first | (rw [HAN.out]; done) | (rw [HAN.out]; simp; omega), by first | (rw [HEN.out]; done) | (rw [HEN.out]; simp; omega), (show World.ownsRow _ _ _ _ _ _ _ by rw [HRT.out]; exact H1.out), below_drewN HBW.out _⟩
                case measure => simp [intOf]; omega
              | false =>
                have HAN : Hid (ascK xs (k + 1) = true) := (show _ = _ by rw [HAS.out, ha, hk0, Bool.true_or, Bool.true_and])
                have HEN : Hid (eqK xs (k + 1) = false) := (show _ = _ by rw [HES.out, he, hxz, Bool.true_and])
                clear ha he hx0
                go_wp2_with (at_builtin; go_must (refine wpList_append_ints rfl _ _ rfl (limW limit num den w).heap.size _ k _ rfl (own_below HO.out (below_a1 _ _)) _ _ _ [y] rfl (RdI.one _ _) ?_ ?_ ?_); omega; exact Nat.le_trans HBR.out.size (by simp); intro v' w' h1 h2; have H1 := Lib.hid h1; have HBW := Lib.hid ((below_trans HBR.out (below_a1 _ _)).grown h2 (Nat.le_trans HBR.out.size (by simp)) (fun q hq => (HO.out.lt q hq).1)); have hcx := cell_below HBW.out HX0.out.1; have hcz := cell_below HBW.out HX0.out.2.1; have hcp := cell_below HBW.out HX0.out.2.2; clear h1 h2)
                go_quiet (fail)
                go_wp2_with fail
                go_quiet (fail)
                go_wp2_with fail
                go_roundw
                case rel => exact ⟨k + 1, v', by omega, by first | rfl | go_num, rfl, by rw [HFS.out], by first | (rw [HAN.out]; done) | (rw [HAN.out]; simp; omega), by first | (rw [HEN.out]; done) | (rw [HEN.out]; simp; omega), (show World.ownsRow _ _ _ _ _ _ _ by rw [HRT.out]; exact H1.out), below_drewN HBW.out _⟩
                case measure => simp [intOf]; omega
          | false =>
            have hk0i : ((k : Int) == 0) = false := by have := of_decide_eq_false hk0; simp; omega
            have hk1 : 0 < k := by have := of_decide_eq_false hk0; omega
            have f3 : (0 : Int) ≤ (k : Int) - 1 := by omega
            have f4 : (k : Int) - 1 < n := by omega
            have f5 : (1 : Int) ≤ k := by omega
            by_cases hpx : p < x
            · cases he : eqK xs k with
              | false =>
                have HAN : Hid (ascK xs (k + 1) = true) := (show _ = _ by rw [HAS.out, ha, hk0, decide_eq_true hpx, Bool.false_or, Bool.true_and])
                have HEN : Hid (eqK xs (k + 1) = false) := (show _ = _ by rw [HES.out, he, Bool.false_and])
                clear ha he hx0
                go_wp2_with (at_builtin; go_must (refine wpList_append_ints rfl _ _ rfl (limW limit num den w).heap.size _ k _ rfl (own_below HO.out (below_a1 _ _)) _ _ _ [y] rfl (RdI.one _ _) ?_ ?_ ?_); omega; exact Nat.le_trans HBR.out.size (by simp); intro v' w' h1 h2; have H1 := Lib.hid h1; have HBW := Lib.hid ((below_trans HBR.out (below_a1 _ _)).grown h2 (Nat.le_trans HBR.out.size (by simp)) (fun q hq => (HO.out.lt q hq).1)); have hcx := cell_below HBW.out HX0.out.1; have hcz := cell_below HBW.out HX0.out.2.1; have hcp := cell_below HBW.out HX0.out.2.2; clear h1 h2)
                go_quiet (fail)
                go_wp2_with fail
                go_quiet (fail)
                go_wp2_with fail
                go_roundw
                case rel => exact ⟨k + 1, v', by omega, by first | rfl | go_num, rfl, by rw [HFS.out], by first | (rw [HAN.out]; done) | (rw [HAN.out]; simp; omega), by first | (rw [HEN.out]; done) | (rw [HEN.out]; simp; omega), (show World.ownsRow _ _ _ _ _ _ _ by rw [HRT.out]; exact H1.out), below_drewN HBW.out _⟩
                case measure => simp [intOf]; omega
              | true =>
                cases hxz : (x == z) with
                | true =>
                  have HAN : Hid (ascK xs (k + 1) = true) := (show _ = _ by rw [HAS.out, ha, hk0, decide_eq_true hpx, Bool.false_or, Bool.true_and])
                  have HEN : Hid (eqK xs (k + 1) = true) := (show _ = _ by rw [HES.out, he, hxz, Bool.true_and])
                  clear ha he hx0
                  go_wp2_with (at_builtin; go_must (refine wpList_append_ints rfl _ _ rfl (limW limit num den w).heap.size _ k _ rfl (own_below HO.out (below_a1 _ _)) _ _ _ [y] rfl (RdI.one _ _) ?_ ?_ ?_); omega; exact Nat.le_trans HBR.out.size (by simp); intro v' w' h1 h2; have H1 := Lib.hid h1; have HBW := Lib.hid ((below_trans HBR.out (below_a1 _ _)).grown h2 (Nat.le_trans HBR.out.size (by simp)) (fun q hq => (HO.out.lt q hq).1)); have hcx := cell_below HBW.out HX0.out.1; have hcz := cell_below HBW.out HX0.out.2.1; have hcp := cell_below HBW.out HX0.out.2.2; clear h1 h2)
                  go_quiet (fail)
                  go_wp2_with fail
                  go_quiet (fail)
                  go_wp2_with fail
                  go_roundw
                  case rel => exact ⟨k + 1, v', by omega, by first | rfl | go_num, rfl, by rw [HFS.out], by first | (rw [HAN.out]; done) | (rw [HAN.out]; simp; omega), by first | (rw [HEN.out]; done) | (rw [HEN.out]; simp; omega), (show World.ownsRow _ _ _ _ _ _ _ by rw [HRT.out]; exact H1.out), below_drewN HBW.out _⟩
                  case measure => simp [intOf]; omega
                | false =>
                  have HAN : Hid (ascK xs (k + 1) = true) := (show _ = _ by rw [HAS.out, ha, hk0, decide_eq_true hpx, Bool.false_or, Bool.true_and])
                  have HEN : Hid (eqK xs (k + 1) = false) := (show _ = _ by rw [HES.out, he, hxz, Bool.true_and])
                  clear ha he hx0
                  go_wp2_with (at_builtin; go_must (refine wpList_append_ints rfl _ _ rfl (limW limit num den w).heap.size _ k _ rfl (own_below HO.out (below_a1 _ _)) _ _ _ [y] rfl (RdI.one _ _) ?_ ?_ ?_); omega; exact Nat.le_trans HBR.out.size (by simp); intro v' w' h1 h2; have H1 := Lib.hid h1; have HBW := Lib.hid ((below_trans HBR.out (below_a1 _ _)).grown h2 (Nat.le_trans HBR.out.size (by simp)) (fun q hq => (HO.out.lt q hq).1)); have hcx := cell_below HBW.out HX0.out.1; have hcz := cell_below HBW.out HX0.out.2.1; have hcp := cell_below HBW.out HX0.out.2.2; clear h1 h2)
                  go_quiet (fail)
                  go_wp2_with fail
                  go_quiet (fail)
                  go_wp2_with fail
                  go_roundw
                  case rel => exact ⟨k + 1, v', by omega, by first | rfl | go_num, rfl, by rw [HFS.out], by first | (rw [HAN.out]; done) | (rw [HAN.out]; simp; omega), by first | (rw [HEN.out]; done) | (rw [HEN.out]; simp; omega), (show World.ownsRow _ _ _ _ _ _ _ by rw [HRT.out]; exact H1.out), below_drewN HBW.out _⟩
                  case measure => simp [intOf]; omega
            · cases he : eqK xs k with
              | false =>
                have HAN : Hid (ascK xs (k + 1) = false) := (show _ = _ by rw [HAS.out, ha, hk0, decide_eq_false hpx, Bool.false_or, Bool.true_and])
                have HEN : Hid (eqK xs (k + 1) = false) := (show _ = _ by rw [HES.out, he, Bool.false_and])
                clear ha he hx0
                go_wp2_with (at_builtin; go_must (refine wpList_append_ints rfl _ _ rfl (limW limit num den w).heap.size _ k _ rfl (own_below HO.out (below_a1 _ _)) _ _ _ [y] rfl (RdI.one _ _) ?_ ?_ ?_); omega; exact Nat.le_trans HBR.out.size (by simp); intro v' w' h1 h2; have H1 := Lib.hid h1; have HBW := Lib.hid ((below_trans HBR.out (below_a1 _ _)).grown h2 (Nat.le_trans HBR.out.size (by simp)) (fun q hq => (HO.out.lt q hq).1)); have hcx := cell_below HBW.out HX0.out.1; have hcz := cell_below HBW.out HX0.out.2.1; have hcp := cell_below HBW.out HX0.out.2.2; clear h1 h2)
                go_quiet (fail)
                go_wp2_with fail
                go_quiet (fail)
                go_wp2_with fail
                go_roundw
                case rel => exact ⟨k + 1, v', by omega, by first | rfl | go_num, rfl, by rw [HFS.out], by first | (rw [HAN.out]; done) | (rw [HAN.out]; simp; omega), by first | (rw [HEN.out]; done) | (rw [HEN.out]; simp; omega), (show World.ownsRow _ _ _ _ _ _ _ by rw [HRT.out]; exact H1.out), below_drewN HBW.out _⟩
                case measure => simp [intOf]; omega
              | true =>
                cases hxz : (x == z) with
                | true =>
                  have HAN : Hid (ascK xs (k + 1) = false) := (show _ = _ by rw [HAS.out, ha, hk0, decide_eq_false hpx, Bool.false_or, Bool.true_and])
                  have HEN : Hid (eqK xs (k + 1) = true) := (show _ = _ by rw [HES.out, he, hxz, Bool.true_and])
                  clear ha he hx0
                  go_wp2_with (at_builtin; go_must (refine wpList_append_ints rfl _ _ rfl (limW limit num den w).heap.size _ k _ rfl (own_below HO.out (below_a1 _ _)) _ _ _ [y] rfl (RdI.one _ _) ?_ ?_ ?_); omega; exact Nat.le_trans HBR.out.size (by simp); intro v' w' h1 h2; have H1 := Lib.hid h1; have HBW := Lib.hid ((below_trans HBR.out (below_a1 _ _)).grown h2 (Nat.le_trans HBR.out.size (by simp)) (fun q hq => (HO.out.lt q hq).1)); have hcx := cell_below HBW.out HX0.out.1; have hcz := cell_below HBW.out HX0.out.2.1; have hcp := cell_below HBW.out HX0.out.2.2; clear h1 h2)
                  go_quiet (fail)
                  go_wp2_with fail
                  go_quiet (fail)
                  go_wp2_with fail
                  go_roundw
                  case rel => exact ⟨k + 1, v', by omega, by first | rfl | go_num, rfl, by rw [HFS.out], by first | (rw [HAN.out]; done) | (rw [HAN.out]; simp; omega), by first | (rw [HEN.out]; done) | (rw [HEN.out]; simp; omega), (show World.ownsRow _ _ _ _ _ _ _ by rw [HRT.out]; exact H1.out), below_drewN HBW.out _⟩
                  case measure => simp [intOf]; omega
                | false =>
                  have HAN : Hid (ascK xs (k + 1) = false) := (show _ = _ by rw [HAS.out, ha, hk0, decide_eq_false hpx, Bool.false_or, Bool.true_and])
                  have HEN : Hid (eqK xs (k + 1) = false) := (show _ = _ by rw [HES.out, he, hxz, Bool.true_and])
                  clear ha he hx0
                  go_wp2_with (at_builtin; go_must (refine wpList_append_ints rfl _ _ rfl (limW limit num den w).heap.size _ k _ rfl (own_below HO.out (below_a1 _ _)) _ _ _ [y] rfl (RdI.one _ _) ?_ ?_ ?_); omega; exact Nat.le_trans HBR.out.size (by simp); intro v' w' h1 h2; have H1 := Lib.hid h1; have HBW := Lib.hid ((below_trans HBR.out (below_a1 _ _)).grown h2 (Nat.le_trans HBR.out.size (by simp)) (fun q hq => (HO.out.lt q hq).1)); have hcx := cell_below HBW.out HX0.out.1; have hcz := cell_below HBW.out HX0.out.2.1; have hcp := cell_below HBW.out HX0.out.2.2; clear h1 h2)
                  go_quiet (fail)
                  go_wp2_with fail
                  go_quiet (fail)
                  go_wp2_with fail
                  go_roundw
                  case rel => exact ⟨k + 1, v', by omega, by first | rfl | go_num, rfl, by rw [HFS.out], by first | (rw [HAN.out]; done) | (rw [HAN.out]; simp; omega), by first | (rw [HEN.out]; done) | (rw [HEN.out]; simp; omega), (show World.ownsRow _ _ _ _ _ _ _ by rw [HRT.out]; exact H1.out), below_drewN HBW.out _⟩
                  case measure => simp [intOf]; omega
      · obtain rfl : k = n := by omega
        have HRV := Lib.hid HREV.out
        have htk : xs.reverse.take k = xs.reverse := List.take_of_length_le (by rw [List.length_reverse, HLN.out]; exact Nat.le_refl _)
        rw [htk] at HO
        obtain ⟨A', c', rfl, hr⟩ := own_RdI HO.out
        have HT2 := Lib.hid (Trend_any A' k c' xs.reverse wr hr)
        rw [HRV.out.1, HRV.out.2] at HT2
        clear hr HO HREV HRV htk
        have hf := HF.out
        rw [HLN.out] at hf
        have hFb : fact k ≤ 40320 := fact_le (by omega)
        clear HF
        generalize trendL xs = t at *
        generalize cA xs = a at *
        generalize cB xs = b at *
        generalize fact k = F at *
        obtain ⟨q1, q2, q3, q4, q5, q6, -⟩ := hf
        have m1 : Int.tmod (F : Int) b = 0 := by rw [Int.tmod_eq_emod_of_nonneg (by omega)]; exact q4
        have m2 : wrap64 (-t) = -t := w64 _ (by omega) (by omega)
        have m3 : ¬ b < 1 := by omega
        have m4 : ¬ a < 1 := by omega
        have m5 : ¬ b < a := by omega
        have m6 : (b == 0) = false := by simp; omega
        generalize ascK xs k = al at *
        generalize eqK xs k = ep at *
        have Q : (al = false ∧ ep = false) ∨ (al = false ∧ ep = true ∧ a = 1 ∧ b = 1) ∨ (al = true ∧ ep = false ∧ a = 1 ∧ b = (F : Int)) ∨ (al = true ∧ ep = true ∧ a = 1 ∧ b = 1 ∧ F = 1) := by
          cases al <;> cases ep
          · exact .inl ⟨rfl, rfl⟩
          · exact .inr (.inl ⟨rfl, rfl, q6 rfl⟩)
          · exact .inr (.inr (.inl ⟨rfl, rfl, q5 rfl⟩))
          · have := q5 rfl
            have := q6 rfl
            exact .inr (.inr (.inr ⟨rfl, rfl, by omega, by omega, by omega⟩))
        clear q1 q2 q3 q4 q5 q6
        have hE : (alE limit num den xs = 1) ∨ (alE limit num den xs = 0 ∧ alN limit num den xs = alFrom limit num den xs 0 ∧ alOk limit num den xs = true) := by
          unfold alE alN
          have h8 : ¬ 64 < xs.length := by rw [HLN.out]; omega
          simp only [h8, if_false]
          cases alOk limit num den xs <;> simp
        rcases hE with hE | ⟨hE, hN, hOk⟩
        · rw [hE] at HA
          clear hE
          generalize alN limit num den xs = at0 at *
          rcases Q with ⟨rfl, rfl⟩ | ⟨rfl, rfl, rfl, rfl⟩ | ⟨rfl, rfl, rfl, rfl⟩ | ⟨rfl, rfl, rfl, rfl, rfl⟩
          all_goals
            go_wp2_with (first
              | (go_at_call 17; refine HT2.out.mono ?_; rintro e w1 ⟨rfl, hb1⟩; have HBW := Lib.hid (below_trans HBR.out hb1); clear hb1; have hcl := HCL.out _ HBW.out)
              | (go_at_call 25; refine (HA.out _ HBW.out).mono ?_; clear HBW hcl; rintro e w1 ⟨rfl, hb1⟩; have HBW := Lib.hid hb1; clear hb1)
              | (go_at_call 20; refine (HW.out _ HBW.out).mono ?_; clear HBW; rintro e w1 ⟨rfl, hb1⟩; have HBW := Lib.hid hb1; clear hb1))
            go_ret
            exact ⟨rfl, below_trans HL.out HBW.out⟩
        · rw [hE, hN] at HA
          have HOk := Lib.hid hOk
          clear hE hN hOk
          obtain ⟨at0, hat⟩ : ∃ a0, alFrom limit num den xs 0 = a0 := ⟨_, rfl⟩
          rw [hat] at HA
          have HAT : Hid (alFrom limit num den xs 0 = at0) := (show _ = _ from hat)
          clear hat
          rcases Q with ⟨rfl, rfl⟩ | ⟨rfl, rfl, rfl, rfl⟩ | ⟨rfl, rfl, rfl, rfl⟩ | ⟨rfl, rfl, rfl, rfl, rfl⟩
          all_goals
            go_wp2_with (first
              | (go_at_call 17; refine HT2.out.mono ?_; rintro e w1 ⟨rfl, hb1⟩; have HBW := Lib.hid (below_trans HBR.out hb1); clear hb1; have hcl := HCL.out _ HBW.out)
              | (go_at_call 25; refine (HA.out _ HBW.out).mono ?_; clear HBW hcl; rintro e w1 ⟨rfl, hb1⟩; have HBW := Lib.hid hb1; clear hb1))
          all_goals
            go_loopw [18, 19, 20, 21, 22] (fun i _ _ _ _ wr => ∃ j : Nat, j ≤ k ∧ i = .int .i64 j ∧ Hid (Below (limW limit num den w).heap.size (limW limit num den w) wr)) (fun i _ _ _ _ _ => k - (intOf i).toNat)
            case atStart => exact ⟨0, Nat.zero_le _, rfl, HBW.out⟩
            case round =>
              obtain ⟨j, hj, rfl, HBQ⟩ := hrel
              by_cases hjk : j < k
              · obtain ⟨b', off, x, rfl, hx, hc⟩ := H0.out.at hjk
                have HC0 := Lib.hid hc
                have hjl : j < xs.length := by rw [HLN.out]; exact hjk
                have hOk := HOk.out
                simp only [alOk, Bool.and_eq_true] at hOk
                obtain ⟨⟨⟨o1, o2⟩, o3⟩, o4⟩ := hOk
                have g2 := (withinB_iff _ _ _).1 o2
                have g3 := (withinB_iff _ _ _).1 o3
                have hsx : subX xs j = xs.take (j + 1) := by
                  unfold subX
                  rw [show j + 1 - 8 = 0 by omega, List.drop_zero]
                have hvs := valued_sub o4 hjl
                have hhit := alFrom_hit2 (limit := limit) (num := num) (den := den) hx o4
                rw [hsx] at hvs hhit
                have hbd := low_bd hvs
                have hce : cE (xs.take (j + 1)) = 0 := by simp [cE, hvs]
                have HCH : Hid (Calls Try.prog 21 #[.slice (some ⟨b', off, none⟩) (j + 1) c] wr _) := (show Calls _ _ _ _ _ from Chance_any _ _ _ _ wr ((H0.out.take (j + 1) (by omega)).below HBQ.out))
                rw [hce] at HCH
                obtain ⟨a0, ea, hab, hrd⟩ := alarm_round limit num den xs j hjl
                have ea2 := HAT.out
                rw [ea] at ea2
                subst ea2
                rw [hhit] at hrd
                have hkc : j + 1 ≤ c := by have := H0.out.cap; omega
                have hkci : (j : Int) + 1 ≤ c := by omega
                generalize cA (xs.take (j + 1)) = p at *
                generalize cB (xs.take (j + 1)) = q at *
                have b1 : 0 ≤ p * den ∧ p * den ≤ 40320000000 := ⟨Int.mul_nonneg (by omega) (by omega), by have h := Int.mul_le_mul (show p ≤ 40320 by omega) g3.2 (by omega) (by decide : (0 : Int) ≤ 40320); omega⟩
                have b2 : 0 ≤ num * q ∧ num * q ≤ 40320000000 := ⟨Int.mul_nonneg (by omega) (by omega), by have h := Int.mul_le_mul g2.2 (show q ≤ 40320 by omega) (by omega) (by decide : (0 : Int) ≤ 1000000); omega⟩
                have x1 : IntKind.i64.wrap (p * den) = p * den := by rw [IntKind.wrap_i64]; omega
                have x2 : IntKind.i64.wrap (num * q) = num * q := by rw [IntKind.wrap_i64]; omega
                have x3 : wrap64 (p * den) = p * den := w64 _ (by omega) (by omega)
                have x4 : wrap64 (num * q) = num * q := w64 _ (by omega) (by omega)
                clear b1 b2 hbd g2 g3 hce hsx hhit hvs ea hx hc
                go_wp2_with (go_at_call 21; refine HCH.out.mono ?_; rintro e w1 ⟨rfl, hb1⟩; have HBX := Lib.hid (below_trans HBQ.out hb1); have hcl := HCL.out _ HBX.out; have hcx := cell_below HBX.out HC0.out; clear hb1)
                by_cases c1 : limit ≤ x
                · by_cases c2 : p * den ≤ num * q
                  · have hh : ((a0 < 0 ∨ (j : Int) ≤ a0) ∧ (j : Int) = a0) ∨ (¬ a0 < 0 ∧ ¬ (j : Int) ≤ a0 ∧ ¬ (j : Int) = a0) := by
                      by_cases c3 : a0 < 0 ∨ (j : Int) ≤ a0
                      · have := hrd c3
                        rw [decide_eq_true c1, decide_eq_true c2] at this
                        exact .inl ⟨c3, of_decide_eq_true this.symm⟩
                      · exact .inr ⟨by omega, by omega, by omega⟩
                    clear hrd
                    rcases hh with ⟨-, rfl⟩ | ⟨c3, c4, c5⟩
                    all_goals
                      go_quiet (fail)
                      go_wp2_with fail
                      go_roundw
                      case rel => exact ⟨j + 1, by omega, by first | rfl | go_num, below_drewN HBX.out _⟩
                      case measure => simp [intOf]; omega
                  · have hh : (¬ (j : Int) = a0) := fun e => by
                      have := hrd (.inr (by omega))
                      rw [decide_eq_true c1, decide_eq_false c2, decide_eq_true e] at this
                      cases this
                    clear hrd
                    go_quiet (fail)
                    go_wp2_with fail
                    go_roundw
                    case rel => exact ⟨j + 1, by omega, by first | rfl | go_num, below_drewN HBX.out _⟩
                    case measure => simp [intOf]; omega
                · have hh : (¬ (j : Int) = a0) := fun e => by
                    have := hrd (.inr (by omega))
                    rw [decide_eq_false c1, decide_eq_true e] at this
                    cases this
                  clear hrd
                  go_quiet (fail)
                  go_wp2_with fail
                  go_roundw
                  case rel => exact ⟨j + 1, by omega, by first | rfl | go_num, below_drewN HBX.out _⟩
                  case measure => simp [intOf]; omega
              · have hkk : j = k := by omega
                subst hkk
                obtain ⟨a0, ea, hab, -⟩ := alarm_round limit num den xs 0 (by rw [HLN.out]; omega)
                have ea2 := HAT.out
                rw [ea] at ea2
                subst ea2
                rw [HLN.out] at hab
                obtain ⟨ha1, ha2⟩ := hab
                clear ea HAT
                go_wp2_with (go_at_call 20; refine (HW.out _ HBQ.out).mono ?_; clear HBQ; rintro e w1 ⟨rfl, hb1⟩; have HBQ := Lib.hid hb1; clear hb1)
                go_ret
                exact ⟨rfl, below_trans HL.out HBQ.out⟩
end Go.Proofs.Ytcmjpcmdgnbbpaa
