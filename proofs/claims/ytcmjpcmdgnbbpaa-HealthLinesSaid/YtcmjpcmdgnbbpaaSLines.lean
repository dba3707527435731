/- What the call of the law HealthLines answers: true. -/
import Derived.Test.YtcmjpcmdgnbbpaaSLineP
import Derived.Test.YtcmjpcmdgnbbpaaWorks
namespace Go.Proofs.Ytcmjpcmdgnbbpaa
open Go.RowKit
set_option linter.unusedVariables false
theorem RdI_of_block {w : World} {g n cap : Nat} {cur : Array Value} {xs : List Int} (hl : xs.length = n) (hb : w.heap[g]? = some (.cells cur 3 (0, 0))) (ht : cur.toList.take n = ints xs) (hn : n ≤ cap) (hc : cap ≤ maxLen) : RdI w (some ⟨g, 0, none⟩) n cap xs := by
  refine ⟨hl, hn, by unfold maxLen at hc; omega, (fun e => by cases e), fun k x hx => ⟨g, 0, rfl, ?_⟩⟩
  have hk : k < n := by have := (List.getElem?_eq_some_iff.1 hx).1; omega
  have h1 : (ints xs)[k]? = some (.int .i64 x) := by rw [ints_get, hx]; rfl
  rw [← ht, List.getElem?_take_of_lt hk, Array.getElem?_toList] at h1
  simp [World.cell?, hb, h1]
theorem block_set {w : World} {g n : Nat} {cur : Array Value} {xs : List Int} {k : Nat} (x : Int) (hb : w.heap[g]? = some (.cells cur 3 (0, 0))) (ht : cur.toList.take n = ints xs) :
    (w.setCell ⟨g, k, none⟩ (.int .i64 x)).heap[g]? = some (.cells (cur.setIfInBounds k (.int .i64 x)) 3 (0, 0)) ∧ (cur.setIfInBounds k (.int .i64 x)).toList.take n = ints (xs.set k x) := by
  refine ⟨?_, ?_⟩
  · rw [Sort.setCell_eq]
    simp [Sort.mapBlock, Array.getElem?_modify, hb, Sort.onCells]
  · rw [Array.toList_setIfInBounds, List.take_set, ht]
    unfold ints
    rw [List.map_set]
/-- the guards of the law -/
def lineG (n : Nat) (t s v : Int) : Prop := 2 ≤ n ∧ n ≤ 8 ∧ 0 ≤ t ∧ t ≤ 1000000 ∧ -1000 ≤ s ∧ s ≤ 1000 ∧ -1000 ≤ v ∧ v ≤ 1000
set_option maxRecDepth 100000 in
set_option maxHeartbeats 4000000 in
theorem lines_no (A0 : Option Addr) (n c0 : Nat) (v s o x t : Int) (w : World) (hn : n ≤ 9223372036854775807) (h : ¬ lineG n t s v) :
    Calls Try.prog 16 #[.slice A0 n c0, .agg #[.int .i64 v, .int .i64 s, .int .i64 o, .int .i64 x], .int .i64 t] w fun e w' => e = .returned (.bool true) ∧ Below w.heap.size w w' := by
  have hc : (n : Int) < 2 ∨ (¬ (n : Int) < 2 ∧ (n : Int) > 8) ∨ (¬ (n : Int) < 2 ∧ ¬ (n : Int) > 8 ∧ t < 0) ∨ (¬ (n : Int) < 2 ∧ ¬ (n : Int) > 8 ∧ ¬ t < 0 ∧ t > 1000000) ∨ (¬ (n : Int) < 2 ∧ ¬ (n : Int) > 8 ∧ ¬ t < 0 ∧ ¬ t > 1000000 ∧ s < -1000) ∨ (¬ (n : Int) < 2 ∧ ¬ (n : Int) > 8 ∧ ¬ t < 0 ∧ ¬ t > 1000000 ∧ ¬ s < -1000 ∧ s > 1000)
      ∨ (¬ (n : Int) < 2 ∧ ¬ (n : Int) > 8 ∧ ¬ t < 0 ∧ ¬ t > 1000000 ∧ ¬ s < -1000 ∧ ¬ s > 1000 ∧ v < -1000) ∨ (¬ (n : Int) < 2 ∧ ¬ (n : Int) > 8 ∧ ¬ t < 0 ∧ ¬ t > 1000000 ∧ ¬ s < -1000 ∧ ¬ s > 1000 ∧ ¬ v < -1000 ∧ v > 1000) := by
    unfold lineG at h; omega
  clear h
  rcases hc with h1 | ⟨h1, h2⟩ | ⟨h1, h2, h3⟩ | ⟨h1, h2, h3, h4⟩ | ⟨h1, h2, h3, h4, h5⟩ | ⟨h1, h2, h3, h4, h5, h6⟩ | ⟨h1, h2, h3, h4, h5, h6, h7⟩ | ⟨h1, h2, h3, h4, h5, h6, h7, h8⟩
  all_goals
    go_enter Try.func16, Try.ntmps16
    go_wp2_with (go_at_call 20; refine (works_any _).mono ?_; rintro e w5 ⟨rfl, hb5⟩; have HB5 := Lib.hid hb5; clear hb5)
    go_ret
    exact ⟨rfl, below_trans (below_a1 w _) HB5.out⟩
theorem cells4 {w : World} {g : Nat} {a b c d : Value} {t : TypeId} (h : w.heap[g]? = some (.cells #[a, b, c, d] t (0, 0))) : w.cell? ⟨g, 0, none⟩ = some a ∧ w.cell? ⟨g, 1, none⟩ = some b ∧ w.cell? ⟨g, 2, none⟩ = some c ∧ w.cell? ⟨g, 3, none⟩ = some d := by
  refine ⟨?_, ?_, ?_, ?_⟩ <;> simp [World.cell?, h]
set_option maxRecDepth 100000 in
set_option maxHeartbeats 16000000 in
theorem lines_yes (A0 : Option Addr) (n c0 : Nat) (hs : List Int) (v s o x t : Int) (w : World) (h0 : RdI w A0 n c0 hs) (h : lineG n t s v) :
    Calls Try.prog 16 #[.slice A0 n c0, .agg #[.int .i64 v, .int .i64 s, .int .i64 o, .int .i64 x], .int .i64 t] w fun e w' => e = .returned (.bool true) ∧ Below w.heap.size w w' := by
  obtain ⟨h2, h8, ht0, ht1, hs0, hs1, hv0, hv1⟩ := h
  have g1 : ¬ (n : Int) < 2 := by omega
  have g2 : ¬ (n : Int) > 8 := by omega
  have g3 : ¬ t < 0 := by omega
  have g4 : ¬ t > 1000000 := by omega
  have g5 : ¬ s < -1000 := by omega
  have g6 : ¬ s > 1000 := by omega
  have g7 : ¬ v < -1000 := by omega
  have g8 : ¬ v > 1000 := by omega
  obtain ⟨i3, hi3, hz0, hz1, hz2⟩ := info_parts info3
  have HI0 := Lib.hid hi3
  have HZ0 := Lib.hid hz0
  have HZ1 := Lib.hid hz1
  have HZ2 := Lib.hid hz2
  have H0 := Lib.hid h0
  clear hi3 hz0 hz1 hz2 h0
  go_enter Try.func16, Try.ntmps16
  go_wp2_with fail
  go_loopw [7, 8] (fun s7 s8 wr => ∃ (i : Nat) (v7 : Value), i ≤ n ∧ s8 = .int .i64 i ∧ s7 = v7 ∧ Hid (wr.ownsRow (w.heap.size + 1) 3 1 v7 i (ints (lineTo hs v s i))) ∧ Hid (Below w.heap.size w wr) ∧ Hid (wr.heap[w.heap.size]? = some (.cells #[.int .i64 v, .int .i64 s, .int .i64 o, .int .i64 x] 75 (0, 0))) ∧ Hid (hrTo hs i = true)) (fun _ s8 _ => n - (intOf s8).toNat)
  case atStart => exact ⟨0, _, Nat.zero_le _, rfl, rfl, World.ownsRow_nil _ _ _ _, below_a1 _ _, heap_alloc_new _ _, (show _ = _ from rfl)⟩
  case round =>
    obtain ⟨i, v7, hin, rfl, rfl, HO, HB, HN, HI⟩ := hrel
    by_cases hlt : i < n
    · obtain ⟨b0, o0, y, rfl, hy, hcy⟩ := H0.out.at hlt
      have HCY := Lib.hid hcy
      have hcy' := cell_below HB.out hcy
      have HY := Lib.hid hy
      have HYG := Lib.hid (getD_of hy)
      have HSU := Lib.hid (hrTo_succ hs i)
      clear hy hcy
      by_cases y0 : y < 0
      · clear HSU
        have d1 : decide (y < 0) = true := decide_eq_true y0
        go_wp2_with fail
        go_quiet (fail)
        go_wp2_with (go_at_call 20; refine (works_any _).mono ?_; rintro e w5 ⟨rfl, hb5⟩; have HB5 := Lib.hid (below_trans (below_drewN HB.out _) hb5); clear hb5)
        go_ret
        exact ⟨rfl, HB5.out⟩
      · have d1 : decide (y < 0) = false := decide_eq_false y0
        by_cases y9 : y > 900
        · clear HSU
          have d2 : decide (y > 900) = true := decide_eq_true y9
          have d3 : decide (900 < y) = true := decide_eq_true y9
          go_wp2_with fail
          go_quiet (fail)
          go_wp2_with (go_at_call 20; refine (works_any _).mono ?_; rintro e w5 ⟨rfl, hb5⟩; have HB5 := Lib.hid (below_trans (below_drewN HB.out _) hb5); clear hb5)
          go_ret
          exact ⟨rfl, HB5.out⟩
        · have d2 : decide (y > 900) = false := decide_eq_false y9
          have d3 : decide (900 < y) = false := decide_eq_false y9
          have hsy := mul_bdS (a := s) (b := y) 1000 900 ⟨hs0, hs1⟩ (by omega)
          have hsy1 : -900000 ≤ s * y := by omega
          have hsy2 : s * y ≤ 900000 := by omega
          clear hsy
          by_cases hi0 : i = 0
          · have HI2 : Hid (hrTo hs (i + 1) = true) := (show _ = _ by rw [HSU.out, HI.out, HYG.out, decide_eq_true (show 0 ≤ y by omega), decide_eq_true (show y ≤ 900 by omega), hi0]; rfl)
            subst hi0
            rw [Nat.add_zero] at hcy' HCY
            clear HSU
            have HM : Hid (0 + 1 ≤ maxLen) := (show _ ≤ _ by unfold maxLen; omega)
            have HM2 : Hid ((0 + 1) * 8 ≤ 140737488355328) := (show _ ≤ _ by omega)
            have HLS : Hid (ints (lineTo hs v s (0 + 1)) = ints (lineTo hs v s 0) ++ [.int .i64 (v + s * y)]) := (show _ = _ by rw [lineTo_succ, ints_append, HYG.out]; rfl)
            have k0 : (0 : Int) ≤ ((0 : Nat) : Int) := Int.natCast_nonneg _
            have k1 : ((0 : Nat) : Int) < (n : Int) := by omega
            have n00 : 0 < n := by omega
            go_wp2_with fail
            go_quiet (fail)
            go_wp2_with fail
            obtain ⟨W1, hW1⟩ : ∃ W1, W1 = wr.drewN nq := ⟨_, rfl⟩
            have HO1 : Hid (W1.ownsRow (w.heap.size + 1) 3 1 _ 0 (ints (lineTo hs v s 0))) := (show World.ownsRow _ _ _ _ _ _ _ by rw [hW1]; exact HO.out)
            have HBW : Hid (Below w.heap.size w W1) := (show Below _ _ _ by rw [hW1]; exact below_drewN HB.out _)
            have HNW : Hid (W1.heap[w.heap.size]? = some (.cells #[.int .i64 v, .int .i64 s, .int .i64 o, .int .i64 x] 75 (0, 0))) := (show _ = _ by rw [hW1]; exact HN.out)
            have HSZ : Hid (w.heap.size + 1 ≤ W1.heap.size) := (show _ ≤ _ by have := (Array.getElem?_eq_some_iff.1 HNW.out).1; omega)
            have hcw := cell_below HBW.out HCY.out
            have c4 := cells4 HNW.out
            obtain ⟨z0, z1, z2, z3⟩ := c4
            rw [← hW1]
            clear hW1
            have e1 : IntKind.i64.wrap (s * y) = s * y := by rw [IntKind.wrap_i64]; omega
            have e2 : IntKind.i64.wrap (v + s * y) = v + s * y := by rw [IntKind.wrap_i64]; omega
            go_region_held3 (fun W => W.cell? ⟨w.heap.size, 0, none⟩ = some (.int .i64 v) ∧ W.cell? ⟨w.heap.size, 1, none⟩ = some (.int .i64 s) ∧ W.cell? ⟨b0, o0, none⟩ = some (.int .i64 y))
              (first
                | exact ⟨(cells4 HNX.out).1, (cells4 HNX.out).2.1, cell_below HBX.out HCY.out⟩
                | (refine ⟨cell_below (w := W1) ?_ z0, cell_below (w := W1) ?_ z1, cell_below (w := W1) ?_ hcw⟩ <;> (repeat (first | exact Below.refl _ _ | refine Below.drew ?_ | refine below_drewN ?_ _ | refine below_alloc ?_ _))))
              ((refine step_append_lies _ (by rfl) _ _ _ (by rfl) (w.heap.size + 1) 3 i3 _ 1 8 Try.underlying22 HI0.out HZ0.out HZ1.out HZ2.out rfl (by omega) _ 0 (ints (lineTo hs v s 0)) (by rfl) ((HO1.out.alloc _).drew)
                  ⟨W1.heap.size, 0, none⟩ 1 1 [.int .i64 (v + s * y)] (by rfl) (by rfl) (World.news_of_block (cs := #[.int .i64 (v + s * y)]) (t := 3) (fr := (0, 0)) (heap_alloc_new W1 _)) (by simp [Value.oneCell'])
                  (by omega) HM.out HM2.out (by have := HSZ.out; simp; omega) (W1.heap.size + 1) (by simp) ?_; intro gg cap w1 hown1 hgrow hat hlt1;
                have HO2 := Lib.hid hown1;
                have HBX : Hid (Below w.heap.size w w1) := (show Below _ _ _ from Below.grown (Below.drew (below_alloc HBW.out _)) hgrow (by have := HSZ.out; simp; omega) (fun g hg => by have := (HO1.out.lt g hg).1; omega));
                have HNX : Hid (w1.heap[w.heap.size]? = some (.cells #[.int .i64 v, .int .i64 s, .int .i64 o, .int .i64 x] 75 (0, 0))) := (show _ = _ from (hgrow.block w.heap.size (by have := HSZ.out; simp; omega) (fun he => by have := (HO1.out.lt _ he.symm).1; omega)).trans (((below_a1 W1 _).block _ (by have := HSZ.out; omega)).trans HNW.out));
                clear hown1 hgrow hat hlt1))
            go_wp2_with fail
            go_roundw
            case rel => exact ⟨0 + 1, _, by omega, by first | rfl | go_num, rfl, (show World.ownsRow _ _ _ _ _ _ _ by rw [HLS.out]; exact HO2.out), HBX.out, HNX.out, HI2⟩
            case measure => simp [intOf]; omega
          · obtain ⟨_, _, z, eA, hz, hcz⟩ := H0.out.at (show i - 1 < n by omega)
            cases eA
            have hcz' := cell_below HB.out hcz
            have HS1 : Hid (asc1S hs i = decide (z < y)) := (show _ = _ from asc1S_pos HY.out hz hi0)
            have hk1 : 0 < i := by omega
            have f2 : IntKind.i64.wrap ((i : Int) - 1) = (i : Int) - 1 := by rw [IntKind.wrap_i64]; omega
            have f3 : ((i : Int) - 1).toNat = i - 1 := by omega
            have f4 : (0 : Int) ≤ (i : Int) - 1 := by omega
            have f5 : (i : Int) - 1 < n := by omega
            have f6 : (1 : Int) ≤ i := by omega
            clear hcz hz hi0
            have d4 : decide ((i : Int) > 0) = true := decide_eq_true (by omega)
            have d5 : decide (0 < (i : Int)) = true := decide_eq_true (by omega)
            have d6 : decide (0 < i) = true := decide_eq_true hk1
            by_cases hyz : y ≤ z
            · clear HSU
              have d7 : decide (y ≤ z) = true := decide_eq_true hyz
              go_wp2_with fail
              go_quiet (fail)
              go_wp2_with (go_at_call 20; refine (works_any _).mono ?_; rintro e w5 ⟨rfl, hb5⟩; have HB5 := Lib.hid (below_trans (below_drewN HB.out _) hb5); clear hb5)
              go_ret
              exact ⟨rfl, HB5.out⟩
            · have d7 : decide (y ≤ z) = false := decide_eq_false hyz
              have HI2 : Hid (hrTo hs (i + 1) = true) := (show _ = _ by rw [HSU.out, HI.out, HYG.out, HS1.out, decide_eq_true (show 0 ≤ y by omega), decide_eq_true (show y ≤ 900 by omega), decide_eq_true (show z < y by omega)]; rfl)
              clear HSU
              have HM : Hid (i + 1 ≤ maxLen) := (show _ ≤ _ by unfold maxLen; omega)
              have HM2 : Hid ((i + 1) * 8 ≤ 140737488355328) := (show _ ≤ _ by omega)
              have HLS : Hid (ints (lineTo hs v s (i + 1)) = ints (lineTo hs v s i) ++ [.int .i64 (v + s * y)]) := (show _ = _ by rw [lineTo_succ, ints_append, HYG.out]; rfl)
              have k0 : (0 : Int) ≤ (i : Int) := Int.natCast_nonneg _
              have k1 : (i : Int) < (n : Int) := by omega
              have n00 : 0 < n := by omega
              go_wp2_with fail
              go_quiet (fail)
              go_wp2_with fail
              obtain ⟨W1, hW1⟩ : ∃ W1, W1 = wr.drewN nq := ⟨_, rfl⟩
              have HO1 : Hid (W1.ownsRow (w.heap.size + 1) 3 1 _ i (ints (lineTo hs v s i))) := (show World.ownsRow _ _ _ _ _ _ _ by rw [hW1]; exact HO.out)
              have HBW : Hid (Below w.heap.size w W1) := (show Below _ _ _ by rw [hW1]; exact below_drewN HB.out _)
              have HNW : Hid (W1.heap[w.heap.size]? = some (.cells #[.int .i64 v, .int .i64 s, .int .i64 o, .int .i64 x] 75 (0, 0))) := (show _ = _ by rw [hW1]; exact HN.out)
              have HSZ : Hid (w.heap.size + 1 ≤ W1.heap.size) := (show _ ≤ _ by have := (Array.getElem?_eq_some_iff.1 HNW.out).1; omega)
              have hcw := cell_below HBW.out HCY.out
              have c4 := cells4 HNW.out
              obtain ⟨z0, z1, z2, z3⟩ := c4
              rw [← hW1]
              clear hW1
              have e1 : IntKind.i64.wrap (s * y) = s * y := by rw [IntKind.wrap_i64]; omega
              have e2 : IntKind.i64.wrap (v + s * y) = v + s * y := by rw [IntKind.wrap_i64]; omega
              go_region_held3 (fun W => W.cell? ⟨w.heap.size, 0, none⟩ = some (.int .i64 v) ∧ W.cell? ⟨w.heap.size, 1, none⟩ = some (.int .i64 s) ∧ W.cell? ⟨b0, o0 + i, none⟩ = some (.int .i64 y))
                (first
                  | exact ⟨(cells4 HNX.out).1, (cells4 HNX.out).2.1, cell_below HBX.out HCY.out⟩
                  | (refine ⟨cell_below (w := W1) ?_ z0, cell_below (w := W1) ?_ z1, cell_below (w := W1) ?_ hcw⟩ <;> (repeat (first | exact Below.refl _ _ | refine Below.drew ?_ | refine below_drewN ?_ _ | refine below_alloc ?_ _))))
                ((refine step_append_lies _ (by rfl) _ _ _ (by rfl) (w.heap.size + 1) 3 i3 _ 1 8 Try.underlying22 HI0.out HZ0.out HZ1.out HZ2.out rfl (by omega) _ i (ints (lineTo hs v s i)) (by rfl) ((HO1.out.alloc _).drew)
                    ⟨W1.heap.size, 0, none⟩ 1 1 [.int .i64 (v + s * y)] (by rfl) (by rfl) (World.news_of_block (cs := #[.int .i64 (v + s * y)]) (t := 3) (fr := (0, 0)) (heap_alloc_new W1 _)) (by simp [Value.oneCell'])
                    (by omega) HM.out HM2.out (by have := HSZ.out; simp; omega) (W1.heap.size + 1) (by simp) ?_; intro gg cap w1 hown1 hgrow hat hlt1;
                  have HO2 := Lib.hid hown1;
                  have HBX : Hid (Below w.heap.size w w1) := (show Below _ _ _ from Below.grown (Below.drew (below_alloc HBW.out _)) hgrow (by have := HSZ.out; simp; omega) (fun g hg => by have := (HO1.out.lt g hg).1; omega));
                  have HNX : Hid (w1.heap[w.heap.size]? = some (.cells #[.int .i64 v, .int .i64 s, .int .i64 o, .int .i64 x] 75 (0, 0))) := (show _ = _ from (hgrow.block w.heap.size (by have := HSZ.out; simp; omega) (fun he => by have := (HO1.out.lt _ he.symm).1; omega)).trans (((below_a1 W1 _).block _ (by have := HSZ.out; omega)).trans HNW.out));
                  clear hown1 hgrow hat hlt1))
              go_wp2_with fail
              go_roundw
              case rel => exact ⟨i + 1, _, by omega, by first | rfl | go_num, rfl, (show World.ownsRow _ _ _ _ _ _ _ by rw [HLS.out]; exact HO2.out), HBX.out, HNX.out, HI2⟩
              case measure => simp [intOf]; omega
    · obtain rfl : i = n := by omega
      have HLK : Hid (LineOk hs i v s) := (show LineOk _ _ _ _ from ⟨H0.out.len, h2, h8, ⟨hs0, hs1⟩, ⟨hv0, hv1⟩, HI.out⟩)
      rcases HO.out.2 with ⟨_, hz⟩ | ⟨g, cap, cur, rfl, hg, hb, hnc, hcap, hsz, htk⟩
      · omega
      rw [Nat.mul_one] at htk
      have HR : Hid (RdI wr (some ⟨g, 0, none⟩) i cap (lineTo hs v s i)) := (show RdI _ _ _ _ _ from RdI_of_block (lineTo_len _ _ _ _) hb htk hnc hcap)
      have HBK : Hid (wr.heap[g]? = some (.cells cur 3 (0, 0)) ∧ cur.toList.take i = ints (lineTo hs v s i) ∧ i ≤ cap ∧ cap ≤ maxLen ∧ w.heap.size < g) := (show _ ∧ _ from ⟨hb, htk, hnc, hcap, by omega⟩)
      have hsl : slpN hs (lineTo hs v s i) = s ∧ slpD hs (lineTo hs v s i) = 1 ∧ chkS hs (lineTo hs v s i) 0 = 0 := by
        have hk := HLK.out.chk HLK.out.ok (t := 0) ⟨by omega, by omega⟩
        exact ⟨by unfold slpN; rw [if_pos hk]; exact HLK.out.line.1, by unfold slpD; rw [if_pos hk]; exact HLK.out.line.2, hk⟩
      have hfc := HLK.out.fore (t := t) ⟨ht0, ht1⟩
      have hck := HLK.out.chk HLK.out.ok (t := t) ⟨ht0, ht1⟩
      have HC1 : Hid (Calls Try.prog 50 #[.slice A0 i c0, .slice (some ⟨g, 0, none⟩) i cap] wr fun e w' => e = .returned (.tuple #[.int .i64 s, .int .i64 1, .int .i64 0]) ∧ Below wr.heap.size wr w') := by
        have := Slope_any A0 (some ⟨g, 0, none⟩) i c0 i cap hs (lineTo hs v s i) wr (H0.out.below HB.out) HR.out
        rwa [hsl.1, hsl.2.1, hsl.2.2] at this
      have HC2 : Hid (∀ W, Below wr.heap.size wr W → Calls Try.prog 52 #[.slice A0 i c0, .slice (some ⟨g, 0, none⟩) i cap, .int .i64 t] W fun e w' => e = .returned (.tuple #[.int .i64 (v + s * t), .int .i64 1, .int .i64 0]) ∧ Below W.heap.size W w') := by
        show ∀ W, _
        intro W hbl
        have := Forecast_any A0 (some ⟨g, 0, none⟩) i c0 i cap hs (lineTo hs v s i) t W (H0.out.below (below_trans HB.out hbl)) (HR.out.below hbl)
        rwa [hfc.1, hfc.2, hck] at this
      have hst := mul_bdS (a := s) (b := t) 1000 1000000 ⟨hs0, hs1⟩ ⟨by omega, ht1⟩
      have hst1 : -1000000000 ≤ s * t := by omega
      have hst2 : s * t ≤ 1000000000 := by omega
      obtain ⟨z0, z1, z2, z3⟩ := cells4 HN.out
      have hgs : w.heap.size < wr.heap.size := (Array.getElem?_eq_some_iff.1 HN.out).1
      have HNS : Hid (∀ W, Below wr.heap.size wr W → W.heap[w.heap.size]? = some (.cells #[.int .i64 v, .int .i64 s, .int .i64 o, .int .i64 x] 75 (0, 0))) := (show ∀ W, _ from fun W hbl => (hbl.block _ hgs).trans HN.out)
      have hcase : (i : Int) < 5 ∨ (¬ (i : Int) < 5 ∧ o < 0) ∨ (¬ (i : Int) < 5 ∧ ¬ o < 0 ∧ o ≥ (i : Int)) ∨ (¬ (i : Int) < 5 ∧ ¬ o < 0 ∧ ¬ o ≥ (i : Int) ∧ x < -1000000) ∨ (¬ (i : Int) < 5 ∧ ¬ o < 0 ∧ ¬ o ≥ (i : Int) ∧ ¬ x < -1000000 ∧ x > 1000000) ∨ (¬ (i : Int) < 5 ∧ ¬ o < 0 ∧ ¬ o ≥ (i : Int) ∧ ¬ x < -1000000 ∧ ¬ x > 1000000) := by omega
      clear hst hsl hfc hck hb hnc hcap hsz htk hgs HO HR
      rcases hcase with q1 | ⟨q1, q2⟩ | ⟨q1, q2, q3⟩ | ⟨q1, q2, q3, q4⟩ | ⟨q1, q2, q3, q4, q5⟩ | ⟨q1, q2, q3, q4, q5⟩
      · go_wp2_with (first
          | (go_at_call 50; refine HC1.out.mono ?_; rintro e w2 ⟨rfl, hb2⟩; have HB2 := Lib.hid hb2; obtain ⟨y0, y1, y2, y3⟩ := cells4 (HNS.out _ hb2); clear hb2)
          | (go_at_call 52; refine (HC2.out _ HB2.out).mono ?_; rintro e w3 ⟨rfl, hb3⟩; have HB3 := Lib.hid (below_trans HB2.out hb3); clear y0 y1 y2 y3; obtain ⟨y0, y1, y2, y3⟩ := cells4 (HNS.out _ HB3.out); clear hb3)
          | (go_at_call 20; refine (works_any _).mono ?_; rintro e w5 ⟨rfl, hb5⟩; have HB5 := Lib.hid (below_trans HB3.out hb5); clear hb5))
        go_ret
        exact ⟨rfl, below_trans HB.out HB5.out⟩
      · go_wp2_with (first
          | (go_at_call 50; refine HC1.out.mono ?_; rintro e w2 ⟨rfl, hb2⟩; have HB2 := Lib.hid hb2; obtain ⟨y0, y1, y2, y3⟩ := cells4 (HNS.out _ hb2); clear hb2)
          | (go_at_call 52; refine (HC2.out _ HB2.out).mono ?_; rintro e w3 ⟨rfl, hb3⟩; have HB3 := Lib.hid (below_trans HB2.out hb3); clear y0 y1 y2 y3; obtain ⟨y0, y1, y2, y3⟩ := cells4 (HNS.out _ HB3.out); clear hb3)
          | (go_at_call 20; refine (works_any _).mono ?_; rintro e w5 ⟨rfl, hb5⟩; have HB5 := Lib.hid (below_trans HB3.out hb5); clear hb5))
        go_ret
        exact ⟨rfl, below_trans HB.out HB5.out⟩
      · go_wp2_with (first
          | (go_at_call 50; refine HC1.out.mono ?_; rintro e w2 ⟨rfl, hb2⟩; have HB2 := Lib.hid hb2; obtain ⟨y0, y1, y2, y3⟩ := cells4 (HNS.out _ hb2); clear hb2)
          | (go_at_call 52; refine (HC2.out _ HB2.out).mono ?_; rintro e w3 ⟨rfl, hb3⟩; have HB3 := Lib.hid (below_trans HB2.out hb3); clear y0 y1 y2 y3; obtain ⟨y0, y1, y2, y3⟩ := cells4 (HNS.out _ HB3.out); clear hb3)
          | (go_at_call 20; refine (works_any _).mono ?_; rintro e w5 ⟨rfl, hb5⟩; have HB5 := Lib.hid (below_trans HB3.out hb5); clear hb5))
        go_ret
        exact ⟨rfl, below_trans HB.out HB5.out⟩
      · go_wp2_with (first
          | (go_at_call 50; refine HC1.out.mono ?_; rintro e w2 ⟨rfl, hb2⟩; have HB2 := Lib.hid hb2; obtain ⟨y0, y1, y2, y3⟩ := cells4 (HNS.out _ hb2); clear hb2)
          | (go_at_call 52; refine (HC2.out _ HB2.out).mono ?_; rintro e w3 ⟨rfl, hb3⟩; have HB3 := Lib.hid (below_trans HB2.out hb3); clear y0 y1 y2 y3; obtain ⟨y0, y1, y2, y3⟩ := cells4 (HNS.out _ HB3.out); clear hb3)
          | (go_at_call 20; refine (works_any _).mono ?_; rintro e w5 ⟨rfl, hb5⟩; have HB5 := Lib.hid (below_trans HB3.out hb5); clear hb5))
        go_ret
        exact ⟨rfl, below_trans HB.out HB5.out⟩
      · go_wp2_with (first
          | (go_at_call 50; refine HC1.out.mono ?_; rintro e w2 ⟨rfl, hb2⟩; have HB2 := Lib.hid hb2; obtain ⟨y0, y1, y2, y3⟩ := cells4 (HNS.out _ hb2); clear hb2)
          | (go_at_call 52; refine (HC2.out _ HB2.out).mono ?_; rintro e w3 ⟨rfl, hb3⟩; have HB3 := Lib.hid (below_trans HB2.out hb3); clear y0 y1 y2 y3; obtain ⟨y0, y1, y2, y3⟩ := cells4 (HNS.out _ HB3.out); clear hb3)
          | (go_at_call 20; refine (works_any _).mono ?_; rintro e w5 ⟨rfl, hb5⟩; have HB5 := Lib.hid (below_trans HB3.out hb5); clear hb5))
        go_ret
        exact ⟨rfl, below_trans HB.out HB5.out⟩
      · obtain ⟨k, rfl⟩ := Int.eq_ofNat_of_zero_le (show 0 ≤ o by omega)
        have hki : k < i := by omega
        have hi5 : 5 ≤ i := by omega
        have HOD := Lib.hid (HLK.out.odd hi5 hki (x := x) ⟨by omega, by omega⟩)
        go_upto_region 16 with (first
          | (go_at_call 50; refine HC1.out.mono ?_; rintro e w2 ⟨rfl, hb2⟩; have HB2 := Lib.hid hb2; obtain ⟨y0, y1, y2, y3⟩ := cells4 (HNS.out _ hb2); clear hb2)
          | (go_at_call 52; refine (HC2.out _ HB2.out).mono ?_; rintro e w3 ⟨rfl, hb3⟩; have HB3 := Lib.hid (below_trans HB2.out hb3); clear y0 y1 y2 y3; obtain ⟨y0, y1, y2, y3⟩ := cells4 (HNS.out _ HB3.out); clear hb3))
        have hgb : w3.heap[g]? = some (.cells cur 3 (0, 0)) := (HB3.out.block g (Array.getElem?_eq_some_iff.1 HBK.out.1).1).trans HBK.out.1
        have hr3 := RdI_of_block (lineTo_len hs v s i) hgb HBK.out.2.1 HBK.out.2.2.1 HBK.out.2.2.2.1
        obtain ⟨_, _, u, ea, _, hcell⟩ := hr3.at hki
        cases ea
        rw [Nat.zero_add] at hcell
        have hfr : w3.frozen? ⟨g, k, none⟩ = false := by simp [World.frozen?, hgb]
        have HGB := Lib.hid hgb
        clear hgb hr3
        have k0 : (0 : Int) ≤ (k : Int) := Int.natCast_nonneg _
        have k1 : (k : Int) < (i : Int) := by omega
        go_wp2_with fail
        have hs1 := block_set (k := k) x HGB.out HBK.out.2.1
        have hg3 : w.heap.size < w3.heap.size := (Array.getElem?_eq_some_iff.1 (HNS.out _ HB3.out)).1
        have hbw3 : Below w.heap.size w (w3.setCell ⟨g, k, none⟩ (.int .i64 x)) := (below_trans HB.out HB3.out).setCell (by have := HBK.out.2.2.2.2; show w.heap.size ≤ g; omega) _
        obtain ⟨W4, hW4⟩ : ∃ W4, W4 = w3.setCell ⟨g, k, none⟩ (.int .i64 x) := ⟨_, rfl⟩
        have HN4 : Hid (W4.heap[w.heap.size]? = some (.cells #[.int .i64 v, .int .i64 s, .int .i64 ((k : Nat) : Int), .int .i64 x] 75 (0, 0))) := (show _ = _ by
          rw [hW4, Below.heap_setCell _ _ _ _ (by have := HBK.out.2.2.2.2; show w.heap.size ≠ g; omega)]; exact HNS.out _ HB3.out)
        rw [← hW4] at hs1 hbw3 ⊢
        have hR4 := RdI_of_block (by rw [List.length_set, lineTo_len]) hs1.1 hs1.2 HBK.out.2.2.1 HBK.out.2.2.2.1
        have hc0 := HLK.out.chk HOD.out.1 (t := 0) ⟨by omega, by omega⟩
        have HC3 : Hid (Calls Try.prog 50 #[.slice A0 i c0, .slice (some ⟨g, 0, none⟩) i cap] W4 fun e w' => e = .returned (.tuple #[.int .i64 s, .int .i64 1, .int .i64 0]) ∧ Below W4.heap.size W4 w') := by
          have := Slope_any A0 (some ⟨g, 0, none⟩) i c0 i cap hs _ W4 (H0.out.below hbw3) hR4
          rwa [show slpN hs ((lineTo hs v s i).set k x) = s by unfold slpN; rw [if_pos hc0]; exact HOD.out.2.1, show slpD hs ((lineTo hs v s i).set k x) = 1 by unfold slpD; rw [if_pos hc0]; exact HOD.out.2.2, hc0] at this
        have HBW4 := Lib.hid hbw3
        have hN4 : w.heap.size < W4.heap.size := (Array.getElem?_eq_some_iff.1 HN4.out).1
        clear hs1 hbw3 hR4 hc0 hW4 hcell hfr hg3 y0 y1 y2 y3
        refine HC3.out.mono ?_
        rintro e w6 ⟨rfl, hb6⟩
        have HB6 := Lib.hid hb6
        obtain ⟨y0, y1, y2, y3⟩ := cells4 ((hb6.block _ hN4).trans HN4.out)
        clear hb6
        go_wp2_with (go_at_call 20; refine (works_any _).mono ?_; rintro e w5 ⟨rfl, hb5⟩; have HB5 := Lib.hid (below_trans HB6.out hb5); clear hb5)
        go_ret
        exact ⟨rfl, below_trans HBW4.out HB5.out⟩
theorem lines_walk (A0 : Option Addr) (n c0 : Nat) (hs : List Int) (v s o x t : Int) (w : World) (h0 : RdI w A0 n c0 hs) :
    Calls Try.prog 16 #[.slice A0 n c0, .agg #[.int .i64 v, .int .i64 s, .int .i64 o, .int .i64 x], .int .i64 t] w fun e w' => e = .returned (.bool true) ∧ Below w.heap.size w w' := by
  by_cases h : lineG n t s v
  · exact lines_yes A0 n c0 hs v s o x t w h0 h
  · exact lines_no A0 n c0 v s o x t w h0.size h
end Go.Proofs.Ytcmjpcmdgnbbpaa
