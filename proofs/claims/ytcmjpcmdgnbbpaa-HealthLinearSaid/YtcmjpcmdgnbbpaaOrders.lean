/- The chance of a trend in the reference: its recursion over the orders answers as the program's closure does. -/
import Derived.Test.YtcmjpcmdgnbbpaaChance
namespace Go.Proofs.Ytcmjpcmdgnbbpaa
open Go.RowKit

theorem RdI.drew {w : World} {A : Option Addr} {n c : Nat} {xs : List Int} (h : RdI w A n c xs) : RdI w.drew A n c xs := h.below ((Below.refl _ w).drew)
theorem RdI.alloc {w : World} {A : Option Addr} {n c : Nat} {xs : List Int} (h : RdI w A n c xs) (o : Obj) : RdI (w.alloc o) A n c xs := h.below (below_a1 _ _)
theorem RdI.oned (w : World) (x : Int) : RdI ((w.alloc (.cells #[.int .i64 x] 3)).drew) (some ⟨w.heap.size, 0, none⟩) 1 1 [x] := (RdI.one w x).drew

/-- 'append(s, x...)' of numbers as a step of a region that draws its order -/
theorem step_append_ints {ops : Array Oper} {o : Oper} {a : Act} {w : World} {K : Act → World → Prop} {Q : Exit → Act → World → Prop} {E : Prop}
    (hg : o.guard = none) (s x : Operand) (hop : o.op = Op.call { callee := Callee.builtin Builtin.append, args := #[s, x], argTypes := #[22, 22] })
    (base : Nat) (v : Value) (n : Nat) (xs : List Int) (hs : a.eval s = v) (hown : w.ownsRow base 3 1 v n (ints xs))
    (A : Option Addr) (m c : Nat) (ys : List Int) (hx : a.eval x = .slice A m c) (hy : RdI w A m c ys)
    (hsmall : n + m ≤ 1000000) (hbase : base ≤ w.heap.size)
    (hK : ∀ v' w', w'.ownsRow base 3 1 v' (n + m) (ints (xs ++ ys)) → w.grownBy w' v.ownBlock → K (a.put o.dst v') w') :
    if Region.wanted o (yielded ops a.tmps) = true then Oper.wp Try.prog o a w K Q else E := by
  have hw : Region.wanted o (yielded ops a.tmps) = true := by simp [Region.wanted, hg]
  rw [if_pos hw]
  obtain ⟨i, hi, hz0, hz1, hz2⟩ := info_parts info3
  have key : ∃ v' w', (Builtin.append_ #[22, 22] o.type #[v, .slice A m c]).run Try.prog w = .ok v' w' ∧ w'.ownsRow base 3 1 v' (n + m) (ints (xs ++ ys)) ∧ w.grownBy w' v.ownBlock := by
    cases A with
    | none =>
      have hm : m = 0 := by
        by_cases h0 : m = 0
        · exact h0
        · obtain ⟨b, off, x, hA, _⟩ := hy.at (show 0 < m by omega)
          cases hA
      subst hm
      have hy0 : ys = [] := List.eq_nil_of_length_eq_zero hy.len
      subst hy0
      have hc0 := hy.nil rfl
      subst hc0
      exact ⟨v, w, run_append_owned_none (P := Try.prog) (w := w) base 22 o.type 3 i 1 Try.underlying22 hi v n (ints xs) hown, by simpa using hown, ⟨rfl, rfl, rfl, Nat.le_refl _, fun _ _ _ => rfl⟩⟩
    | some ad =>
      obtain ⟨v', w', h1, h2, h3, _⟩ := run_append_own (P := Try.prog) w base 22 o.type 3 i (.int .i64 0) 1 8 Try.underlying22 hi hz0 hz1 hz2 rfl (by decide) v n (ints xs) hown ad m c (ints ys) (by rw [ints_length, hy.len]; omega) hy.add (ints_one _) (by unfold maxLen; omega) (by omega) hbase
      exact ⟨v', w', h1, by rw [ints_append]; exact h2, h3⟩
  obtain ⟨v', w', hrun, r1, r2⟩ := key
  unfold Oper.wp
  simp [execOp, hop, resolve, invoke, builtin, hs, hx, hrun, Result.andThen]
  exact hK _ _ r1 r2

theorem grown_none_below {w w' : World} {v : Value} (h : w.grownBy w' v.ownBlock) (hv : v.ownBlock = none) : Below w.heap.size w w' :=
  ⟨h.os, h.tape, h.output, h.size, fun k hk => h.block k hk (by rw [hv]; simp)⟩

def jfact (j n : Nat) : Nat := j * fact n
theorem jfact_succ (j n : Nat) : jfact (j + 1) n = jfact j n + fact n := by unfold jfact; rw [Nat.add_mul, Nat.one_mul]
def OrdCalls (n : Nat) : Prop :=
  ∀ (order left : List Int) (least : Int) (A1 A2 : Option Addr) (k c1 c2 : Nat) (w : World), k + n ≤ 8 → RdI w A1 k c1 order → RdI w A2 n c2 left →
    Calls Try.prog 61 #[.slice A1 k c1, .slice A2 n c2, .int .i64 least] w fun e w' =>
      e = .returned (.tuple #[.int .i64 (nextNum least n order left (trendL order)), .int .i64 (fact n)]) ∧ Below w.heap.size w w'

set_option maxHeartbeats 1000000 in
theorem ord_zero : OrdCalls 0 := by
  intro order left least A1 A2 k c1 c2 w hk h1 h2
  have HT := Lib.hid (trend_ref A1 k c1 order w h1 (by omega))
  have E : Hid (((nextNum least 0 order left (trendL order) : Nat) : Int) = if least ≤ trendL order then 1 else 0) := (show _ = _ by simp only [nextNum]; split <;> rfl)
  generalize trendL order = t at *
  generalize nextNum least 0 order left t = r at *
  by_cases h : least ≤ t
  · rw [if_pos h] at E
    go_enter Try.func61, Try.ntmps61
    go_wp2_with (go_at_call 57; refine HT.out.mono ?_; rintro e w1 ⟨rfl, hb1⟩; have HB1 := Lib.hid hb1; clear hb1)
    go_ret2
    exact ⟨by rw [E.out]; rfl, HB1.out⟩
  · rw [if_neg h] at E
    go_enter Try.func61, Try.ntmps61
    go_wp2_with (go_at_call 57; refine HT.out.mono ?_; rintro e w1 ⟨rfl, hb1⟩; have HB1 := Lib.hid hb1; clear hb1)
    go_ret2
    exact ⟨by rw [E.out]; rfl, HB1.out⟩

set_option maxRecDepth 100000 in
set_option maxHeartbeats 16000000 in
theorem ord_succ (n : Nat) (ih : OrdCalls n) : OrdCalls (n + 1) := by
  intro order left least A1 A2 k c1 c2 w hk h1 h2
  have IH := Lib.hid ih
  have H1 := Lib.hid h1
  have H2 := Lib.hid h2
  have hc1 := h2.cap
  have hc2 := h2.big
  have HQ : Hid (fact (n + 1) = (n + 1) * fact n) := (show _ = _ from rfl)
  have HNN : Hid (nextNum least (n + 1) order left (trendL order) = partNum least n order left (trendL order) (n + 1)) := (show _ = _ from rfl)
  have hfl : (n + 1) * fact n ≤ 40320 := by rw [← HQ.out]; exact fact_le (by omega)
  have hnn : n + 1 = left.length := h2.len.symm
  have HNN2 := Lib.hid hnn
  clear ih h1 h2 hnn
  have hnz : ((n : Int) + 1 == 0) = false := by simp; omega
  go_enter Try.func61, Try.ntmps61
  go_wp2_with fail
  go_loopw [8, 9, 10] (fun s t i wr => ∃ j : Nat, j ≤ n + 1 ∧ i = .int .i64 j ∧ s = .int .i64 (partNum least n order left (trendL order) j) ∧ t = .int .i64 (jfact j n) ∧ Hid (Below w.heap.size w wr)) (fun _ _ i _ => (n + 1) - (intOf i).toNat)
  case atStart => exact ⟨0, Nat.zero_le _, rfl, by simp [partNum], by simp [jfact], Below.refl _ _⟩
  case round =>
    obtain ⟨j, hj, rfl, rfl, rfl, HI⟩ := hrel
    have hpl : partNum least n order left (trendL order) j ≤ jfact j n := partNum_le least n order left (trendL order) j
    have hjl : jfact j n ≤ 40320 := Nat.le_trans (Nat.mul_le_mul_right _ hj) hfl
    by_cases hlt : j < n + 1
    · have hml : jfact j n + fact n ≤ 40320 := by
        rw [← jfact_succ]
        exact Nat.le_trans (Nat.mul_le_mul_right (fact n) (show j + 1 ≤ n + 1 by omega)) hfl
      have HJS : Hid (jfact (j + 1) n = jfact j n + fact n) := (show _ = _ from jfact_succ _ _)
      have hR := H2.out.below HI.out
      have hR1 := H1.out.below HI.out
      obtain ⟨b, off, x, rfl, hx, hc⟩ := hR.at hlt
      have HPS : Hid (partNum least n order left (trendL order) (j + 1) = partNum least n order left (trendL order) j + nextNum least n (order ++ [x]) (left.take j ++ left.drop (j + 1)) (trendL order + gainL order x)) := (show _ = _ from partNum_succ _ _ _ _ _ _ hx)
      have hnx := nextNum_le least n (order ++ [x]) (left.take j ++ left.drop (j + 1)) (trendL order + gainL order x)
      have HT1 : Hid (trendL (order ++ [x]) = trendL order + gainL order x) := (show _ = _ from trendL_snoc _ _)
      have HT := Lib.hid (hR.take j (by omega))
      have HX := Lib.hid hx
      have hcat : ∃ (A2' : Option Addr) (n2 c2' : Nat), ((c2 = j + 1 ∧ A2' = some ⟨b, off, none⟩ ∧ n2 = 0 ∧ c2' = 0) ∨ (¬ c2 = j + 1 ∧ A2' = some ⟨b, off + (j + 1), none⟩ ∧ n2 = n - j ∧ c2' = c2 - (j + 1))) ∧
          RdI wr A2' n2 c2' (left.drop (j + 1)) := by
        have hnl := HNN2.out
        by_cases hcj : c2 = j + 1
        · refine ⟨_, _, _, .inl ⟨hcj, rfl, rfl, rfl⟩, ⟨by simp; omega, by omega, by omega, fun e => (by cases e), fun k x hx => ?_⟩⟩
          rw [List.drop_eq_nil_of_le (by omega)] at hx
          simp at hx
        · refine ⟨_, _, _, .inr ⟨hcj, rfl, rfl, rfl⟩, ?_⟩
          have := hR.drop (j + 1) (by omega) (some ⟨b, off + (j + 1), none⟩) (fun _ b' off' e => by cases e; rfl) (fun e => (by cases e))
          rwa [show n + 1 - (j + 1) = n - j by omega] at this
      obtain ⟨A2', n2, c2', hor, hd⟩ := hcat
      have HD := Lib.hid hd
      have HR1 := Lib.hid hR1
      clear hR hR1 hx hd
      have a1 : IntKind.i64.wrap ((j : Int) + 1) = (j : Int) + 1 := by rw [IntKind.wrap_i64]; omega
      have a2 : 0 ≤ (j : Int) + 1 := by omega
      have a3 : (j : Int) + 1 ≤ (n : Int) + 1 := by omega
      have a4 : ((j : Int) + 1).toNat = j + 1 := by omega
      obtain ⟨np, hnp⟩ : ∃ np, nextNum least n (order ++ [x]) (left.take j ++ left.drop (j + 1)) (trendL order + gainL order x) = np := ⟨_, rfl⟩
      have HNP := Lib.hid hnp
      rw [hnp] at HPS hnx
      clear hnp
      generalize partNum least n order left (trendL order) j = pp at *
      generalize jfact j n = jq at *
      rcases hor with ⟨rfl, rfl, rfl, rfl⟩ | ⟨hcj, rfl, rfl, rfl⟩
      all_goals
        go_wp2_with fail
        first | have a5 : (j : Int) ≤ (c2 : Int) := by omega | have a5 : (j : Int) ≤ (j : Int) + 1 := by omega
        go_region_law (first
          | (refine step_append_ints rfl _ _ rfl wr.heap.size v1 (0 + j) ([] ++ left.take j) ?_ HO1.out _ _ _ (left.drop (j + 1)) ?_ (HD.out.below HB1.out) (by omega) HB1.out.size ?_
             · simp [Act.eval]
             · simp [Act.eval]
             intro v2 w2 hown2' hg2
             have hown2 : w2.ownsRow wr.heap.size 3 1 v2 n (ints (left.take j ++ left.drop (j + 1))) := by
               first | rwa [show 0 + j + 0 = n by omega, List.nil_append] at hown2' | rwa [show 0 + j + (n - j) = n by omega, List.nil_append] at hown2'
             clear hown2'
             obtain ⟨A7, c7, rfl, hr7⟩ := own_RdI hown2
             have HR7 := Lib.hid hr7
             clear hr7
             have HB2 := Lib.hid (HB1.out.grown hg2 HB1.out.size (fun q hq => (HO1.out.lt q hq).1))
             clear hown2 hg2)
          | (refine step_append_ints rfl _ _ rfl wr.heap.size (.slice none 0 0) 0 [] ?_ (World.ownsRow_nil _ _ _ _) _ _ _ (left.take j) ?_ HT.out.drew (by omega) (Nat.le_refl _) ?_
             · simp [Act.eval]
             · simp [Act.eval, Act.put]
             intro v1 w1 hown1 hg1
             have HO1 := Lib.hid hown1
             have HB1 := Lib.hid (below_trans ((Below.refl _ wr).drew) (grown_none_below hg1 rfl))
             clear hown1 hg1))
        go_wp2_with fail
        try go_simp
        have hcw2 := cell_below HB2.out hc
        have HR8 := Lib.hid (HR1.out.below HB2.out)
        have HIH : Hid (∀ (A6 : Option Addr) (c6 : Nat) (w6 : World), RdI w6 A6 (k + 1) c6 (order ++ [x]) → Below w2.heap.size w2 w6 →
            Calls Try.prog 61 #[.slice A6 (k + 1) c6, .slice A7 n c7, .int .i64 least] w6 fun e w' => e = .returned (.tuple #[.int .i64 np, .int .i64 (fact n)]) ∧ Below w6.heap.size w6 w') := by
          show ∀ (A6 : Option Addr) (c6 : Nat) (w6 : World), _
          intro A6 c6 w6 hr6 hb6
          have := IH.out (order ++ [x]) (left.take j ++ left.drop (j + 1)) least A6 A7 (k + 1) c6 c7 w6 (by omega) hr6 (HR7.out.below hb6)
          rw [HT1.out, HNP.out] at this
          exact this
        generalize fact n = fq at *
        go_region_law (first
          | (refine step_append_ints rfl _ _ rfl w2.heap.size v5 (0 + k) ([] ++ order) ?_ (HO5.out.alloc _) _ _ _ [x] ?_ (RdI.one w5 x) (by omega) (Nat.le_trans HB5.out.size (by simp)) ?_
             · simp [Act.eval]
             · simp [Act.eval]
             intro v6 w6 hown6 hg6
             simp only [Nat.zero_add, List.nil_append] at hown6
             have HB6 := Lib.hid ((below_trans HB5.out (below_a1 w5 _)).grown hg6 (Nat.le_trans HB5.out.size (by simp)) (fun q hq => (HO5.out.lt q hq).1))
             obtain ⟨A6, c6, rfl, hr6⟩ := own_RdI hown6
             have HR6 := Lib.hid hr6
             clear hown6 hg6 hr6)
          | (refine step_append_ints rfl _ _ rfl w2.heap.size v5 (0 + k) ([] ++ order) ?_ HO5.out _ _ _ [x] ?_ HS5.out (by omega) HB5.out.size ?_
             · simp [Act.eval]
             · simp [Act.eval]
             intro v6 w6 hown6 hg6
             simp only [Nat.zero_add, List.nil_append] at hown6
             have HB6 := Lib.hid (HB5.out.grown hg6 HB5.out.size (fun q hq => (HO5.out.lt q hq).1))
             obtain ⟨A6, c6, rfl, hr6⟩ := own_RdI hown6
             have HR6 := Lib.hid hr6
             clear hown6 hg6 hr6)
          | (refine step_append_ints rfl _ _ rfl w2.heap.size (.slice none 0 0) 0 [] ?_ (World.ownsRow_nil _ _ _ _) _ _ _ order ?_ HR8.out.drew (by omega) (Nat.le_refl _) ?_
             · simp [Act.eval]
             · simp [Act.eval, Act.put]
             intro v5 w5 hown5 hg5
             have HO5 := Lib.hid hown5
             have hb5 := below_trans ((Below.refl _ w2).drew) (grown_none_below hg5 rfl)
             have hc5 := cell_below hb5 hcw2
             have HB5 := Lib.hid hb5
             clear hown5 hg5 hb5)
          | (refine step_append_ints rfl _ _ rfl w2.heap.size (.slice none 0 0) 0 [] ?_ (World.ownsRow_nil _ _ _ _) _ _ _ order ?_ ((HR8.out.alloc (.cells #[.int .i64 x] 3)).drew) (by omega) (by simp) ?_
             · simp [Act.eval]
             · simp [Act.eval]
             intro v5 w5 hown5 hg5
             have HO5 := Lib.hid hown5
             have HS5 := Lib.hid ((RdI.oned w2 x).below (grown_none_below hg5 rfl))
             have HB5 := Lib.hid (below_trans ((below_a1 w2 (.cells #[.int .i64 x] 3)).drew) (grown_none_below hg5 rfl))
             clear hown5 hg5)
          | (go_simp; go_at_call 61; refine (HIH.out _ _ _ HR6.out HB6.out).mono ?_; rintro e w8 ⟨rfl, hb8⟩; have HB8 := Lib.hid hb8; clear hb8))
        all_goals
          try go_simp
          go_wp2_with fail
          go_roundw
          case rel => exact ⟨j + 1, by omega, by go_num, by rw [HPS.out]; go_num, by rw [HJS.out]; go_num, below_trans HI.out (below_trans HB2.out (below_trans HB6.out HB8.out))⟩
          case measure => simp [intOf]; omega
    · obtain rfl : j = n + 1 := by omega
      go_wp2_with fail
      go_ret2
      exact ⟨by rw [HNN.out, HQ.out]; rfl, HI.out⟩
theorem ord_any (n : Nat) : OrdCalls n := by
  induction n with
  | zero => exact ord_zero
  | succ n ih => exact ord_succ n ih
set_option maxHeartbeats 1000000 in
theorem Chance_ref (A : Option Addr) (n c : Nat) (xs : List Int) (w : World) (h : RdI w A n c xs) :
    Calls Try.prog 22 #[.slice A n c] w fun e w' => e = .returned (.tuple #[.int .i64 (cA xs), .int .i64 (cB xs), .int .i64 (cE xs)]) ∧ Below w.heap.size w w' := by
  have HV := Lib.hid (valued_ref A n c xs w h)
  have H := Lib.hid h
  have hl := h.len
  clear h
  cases hv : valuedB xs with
  | false =>
    have E1 : Hid (cA xs = 0 ∧ cB xs = 0 ∧ cE xs = 1) := (show _ ∧ _ ∧ _ by simp [cA, cB, cE, hv])
    rw [hv] at HV
    clear hv hl
    go_enter Try.func22, Try.ntmps22
    go_wp2_with (go_at_call 56; refine HV.out.mono ?_; rintro e w1 ⟨rfl, rfl⟩)
    go_ret3
    exact ⟨by rw [E1.out.1, E1.out.2.1, E1.out.2.2]; rfl, Below.refl _ _⟩
  | true =>
    have E1 : Hid (cA xs = lowN (chNum xs) (chDen xs) ∧ cB xs = lowD (chNum xs) (chDen xs) ∧ cE xs = 0) := (show _ ∧ _ ∧ _ by simp [cA, cB, cE, hv])
    have hn := valuedB_len hv
    rw [hl] at hn
    have hd : chDen xs ≤ 40320 := fact_le (by omega)
    have hd0 : 0 < chDen xs := fact_pos _
    have hp := chNum_le xs
    rw [hv] at HV
    clear hv
    have HC : Hid (∀ W, Below w.heap.size w W → Calls Try.prog 61 #[.slice none 0 0, .slice A n c, .int .i64 (trendL xs)] W fun e w' => e = .returned (.tuple #[.int .i64 (chNum xs), .int .i64 (chDen xs)]) ∧ Below W.heap.size W w') := by
      show ∀ W, _
      intro W hb
      have := ord_any n [] xs (trendL xs) none A 0 0 c W (by omega) (RdI.empty W) (H.out.below hb)
      unfold chNum chDen
      rw [hl]
      exact this
    have HT := Lib.hid (trend_ref A n c xs)
    have HL := Lib.hid (lowest_ref (chNum xs) (chDen xs))
    clear hl
    generalize chNum xs = p at *
    generalize chDen xs = q at *
    generalize trendL xs = t at *
    go_enter Try.func22, Try.ntmps22
    go_wp2_with (first
      | (go_at_call 56; refine HV.out.mono ?_; rintro e w1 ⟨rfl, rfl⟩)
      | (go_at_call 57; refine (HT.out _ H.out hn.2).mono ?_; rintro e w1 ⟨rfl, hb1⟩; have HB1 := Lib.hid hb1; clear hb1)
      | (go_at_call 61; refine (HC.out _ HB1.out).mono ?_; rintro e w2 ⟨rfl, hb2⟩; have HB2 := Lib.hid hb2; clear hb2)
      | (go_at_call 60; refine (HL.out _ (by omega) (by omega) (by omega) (by omega)).mono ?_; rintro e w3 ⟨rfl, hb3⟩; have HB3 := Lib.hid hb3; clear hb3))
    go_ret3
    exact ⟨by rw [E1.out.1, E1.out.2.1, E1.out.2.2]; rfl, below_trans (below_trans HB1.out HB2.out) HB3.out⟩
end Go.Proofs.Ytcmjpcmdgnbbpaa
