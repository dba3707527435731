/- What the calls of median, slope and Slope answer: the fraction in the middle of all pairs' slopes. -/
import Derived.Test.YtcmjpcmdgnbbpaaSWalk1
import Derived.Deep.AppendLies
namespace Go.Proofs.Ytcmjpcmdgnbbpaa
open Go.RowKit
set_option linter.unusedVariables false
theorem info80 : (Try.prog.info? 80).map (fun i => (i.zero, i.size, i.bytes)) = some (some (.agg #[.int .i64 0, .int .i64 0]), 2, 16) := by kernel_rfl
theorem grown_new {w w1 : World} {o : Obj} {g : Nat} (h : (w.alloc o).grownBy w1 (some g)) (hg : g < w.heap.size) : w1.heap[w.heap.size]? = some o := by
  rw [h.block w.heap.size (by simp) (by simp; omega)]
  exact heap_alloc_new w o
theorem cells2 {w : World} {g : Nat} {x y : Value} {t : TypeId} (h : w.heap[g]? = some (.cells #[x, y] t (0, 0))) : (w.cell? ⟨g, 0, none⟩ = some x ∧ w.cell? ⟨g, 1, none⟩ = some y) ∧ w.frozen? ⟨g, 0, none⟩ = false ∧ w.frozen? ⟨g, 1, none⟩ = false := by
  refine ⟨⟨?_, ?_⟩, ?_, ?_⟩ <;> simp [World.cell?, World.frozen?, h]
theorem set2_at {w : World} {p : Nat} {x y u v : Value} {t : TypeId} (h : w.heap[p]? = some (.cells #[x, y] t (0, 0))) : ((w.setCell ⟨p, 0, none⟩ u).setCell ⟨p, 1, none⟩ v).heap[p]? = some (.cells #[u, v] t (0, 0)) := by
  rw [Sort.setCell_eq, Sort.setCell_eq]
  simp [Sort.mapBlock, Array.getElem?_modify, h, Sort.onCells]
set_option maxHeartbeats 2000000 in
theorem median_any (B g cap n : Nat) (l : List Frac) (cur : Array Value) (w : World) (hn : l.length = n) (hb : w.heap[g]? = some (.cells cur 80 (0, 0))) (ht : cur.toList.take (n * 2) = fl l) (hB : B ≤ g) (hl : 0 < n) (hs : n ≤ 1000) :
    Calls Try.prog 108 #[.slice (some ⟨g, 0, none⟩) n cap] w fun e w' => ∃ x, Mid l x ∧ e = .returned (.agg #[.int .i64 x.num, .int .i64 x.den]) ∧ Below B w w' := by
  have hg : g < w.heap.size := (Array.getElem?_eq_some_iff.1 hb).1
  have HC : Hid (Calls Try.prog 119 #[.slice (some ⟨g, 0, none⟩) n cap, .func (.func 65) #[] #[]] (w.alloc (.cells #[.int .i64 0, .int .i64 0] 80)) fun e w' => e = .returned (.tuple #[]) ∧ ∃ x, Mid l x ∧ w'.cell? ⟨g, (n - 1) / 2 * 2, none⟩ = some (.int .i64 x.num) ∧ w'.cell? ⟨g, (n - 1) / 2 * 2 + 1, none⟩ = some (.int .i64 x.den) ∧ (w.alloc (.cells #[.int .i64 0, .int .i64 0] 80)).grownBy w' (some g)) := by
    have hb' : (w.alloc (.cells #[.int .i64 0, .int .i64 0] 80)).heap[g]? = some (.cells cur 80 (0, 0)) := by rw [(below_a1 w _).block g hg]; exact hb
    subst hn
    exact sort119 g cap l _ (holds_fl hb' ht) (by simp; omega) hl hs
  clear hb ht hn
  obtain ⟨m, hm⟩ : ∃ m, (n - 1) / 2 = m := ⟨_, rfl⟩
  rw [hm] at HC
  have hmn : m < n := by omega
  have e1 : IntKind.i64.wrap ((n : Int) - 1) = (n : Int) - 1 := by rw [IntKind.wrap_i64]; omega
  have e2 : ((n : Int) - 1) / 2 = (m : Int) := by omega
  have e3 : ((n : Int) - 1).tdiv 2 = (m : Int) := by rw [Int.tdiv_eq_ediv_of_nonneg (by omega)]; omega
  clear hm
  go_enter Try.func108, Try.ntmps108
  go_wp2_with (go_at_call 119; refine HC.out.mono ?_; rintro e w1 ⟨rfl, x, hx, c0, c1, hgr⟩; have HX := Lib.hid hx; have HG := Lib.hid hgr; obtain ⟨⟨z0, z1⟩, z2, z3⟩ := cells2 (grown_new hgr hg); clear hx hgr)
  have hbl : Below B w ((w1.setCell ⟨w.heap.size, 0, none⟩ (.int .i64 x.num)).setCell ⟨w.heap.size, 1, none⟩ (.int .i64 x.den)) := by
    have h1 : Below B w w1 := Below.grown ((Below.refl B w).alloc (by omega) _) HG.out (by simp; omega) (fun k hk => by cases hk; exact hB)
    exact (h1.setCell (by show B ≤ w.heap.size; omega) _).setCell (by show B ≤ w.heap.size; omega) _
  refine bodyPost_ret (v := .agg #[.int .i64 x.num, .int .i64 x.den]) ?_ rfl ⟨x, HX.out, rfl, hbl⟩
  have hz := set2_at (u := .int .i64 x.num) (v := .int .i64 x.den) (grown_new HG.out hg)
  obtain ⟨⟨y0, y1⟩, _, _⟩ := cells2 hz
  simp [results, Try.results108, go_sem, y0, y1]
theorem getD_of {xs : List Int} {k : Nat} {x : Int} (h : xs[k]? = some x) : xs.getD k 0 = x := by rw [List.getD_eq_getElem?_getD, h]; rfl
set_option maxRecDepth 100000 in
set_option maxHeartbeats 8000000 in
theorem slope_any (A0 A1 : Option Addr) (n c0 c1 : Nat) (hs vs : List Int) (w : World) (h0 : RdI w A0 n c0 hs) (h1 : RdI w A1 n c1 vs) (hok : okS hs vs = true) (h2 : 2 ≤ n) :
    Calls Try.prog 90 #[.slice A0 n c0, .slice A1 n c1] w fun e w' => ∃ x, Mid (slL hs vs) x ∧ e = .returned (.agg #[.int .i64 x.num, .int .i64 x.den]) ∧ Below w.heap.size w w' := by
  obtain ⟨i0, hi0, hz0, hz1, hz2⟩ := info_parts info80
  have OK := OkS.of hok
  have hn8 : n ≤ 8 := by have := OK.n8; have := h1.len; omega
  have HI0 := Lib.hid hi0
  have HZ0 := Lib.hid hz0
  have HZ1 := Lib.hid hz1
  have HZ2 := Lib.hid hz2
  have HOK := Lib.hid OK
  have H0 := Lib.hid h0
  have H1 := Lib.hid h1
  have HP : Hid (0 < (slL hs vs).length) := (show 0 < _ from slL_pos (by rw [h1.len]; exact h2))
  have HSL : Hid (slL hs vs = slTo hs vs n 0) := (show _ = _ by unfold slL; rw [h1.len])
  clear hi0 hz0 hz1 hz2 OK h0 h1 hok
  go_enter Try.func90, Try.ntmps90
  go_wp2_with fail
  go_loopw [5, 6, 7, 10] (fun s5 s6 s7 i wr => ∃ (k : Nat) (v u6 u7 : Value), k ≤ n ∧ i = .int .i64 k ∧ s5 = v ∧ s6 = u6 ∧ s7 = u7 ∧ Hid (wr.ownsRow (w.heap.size + 1) 80 2 v (slTo hs vs k 0).length (fl (slTo hs vs k 0))) ∧ Hid (Below w.heap.size w wr) ∧ Hid (wr.heap[w.heap.size]? = some (.cells #[.int .i64 0, .int .i64 0] 80 (0, 0)))) (fun _ _ _ i _ => n - (intOf i).toNat)
  case atStart => exact ⟨0, _, _, _, Nat.zero_le _, rfl, rfl, rfl, rfl, World.ownsRow_nil _ _ _ _, below_a1 _ _, heap_alloc_new _ _⟩
  case round =>
    obtain ⟨k, v, u6, u7, hk, rfl, rfl, rfl, rfl, HO, HB, HN⟩ := hrel
    by_cases hlt : k < n
    · obtain ⟨b1, o1, x, rfl, hx, hcx⟩ := H1.out.at hlt
      obtain ⟨b0, o0, p, rfl, hp, hcp⟩ := H0.out.at hlt
      have HXG := Lib.hid (getD_of hx)
      have HPG := Lib.hid (getD_of hp)
      have HCX := Lib.hid hcx
      have HCP := Lib.hid hcp
      clear hx hcx hp hcp
      go_wp2_with fail
      go_loopw [5, 7, 14] (fun s5 s7 i wi => ∃ (j : Nat) (v' u7' : Value), j ≤ k ∧ i = .int .i64 j ∧ s5 = v' ∧ s7 = u7' ∧ Hid (wi.ownsRow (w.heap.size + 1) 80 2 v' (slTo hs vs k j).length (fl (slTo hs vs k j))) ∧ Hid (Below w.heap.size w wi) ∧ Hid (wi.heap[w.heap.size]? = some (.cells #[.int .i64 0, .int .i64 0] 80 (0, 0)))) (fun _ _ i _ => k - (intOf i).toNat)
      case atStart => exact ⟨0, _, _, Nat.zero_le _, rfl, rfl, rfl, HO.out, HB.out, HN.out⟩
      case round =>
        obtain ⟨j, v', u7', hj, rfl, rfl, rfl, HO1, HB1, HN1⟩ := hrel
        by_cases hjk : j < k
        · obtain ⟨_, _, y, e1, hy, hcy⟩ := H1.out.at (show j < n by omega)
          cases e1
          obtain ⟨_, _, q, e2, hq, hcq⟩ := H0.out.at (show j < n by omega)
          cases e2
          have hc1 := cell_below HB1.out HCX.out
          have hc2 := cell_below HB1.out hcy
          have hc3 := cell_below HB1.out HCP.out
          have hc4 := cell_below HB1.out hcq
          have HCY := Lib.hid hcy
          have HCQ := Lib.hid hcq
          have hnum := slF_num HOK.out hjk (by rw [H1.out.len]; exact hlt)
          rw [HXG.out, HPG.out, getD_of hy, getD_of hq] at hnum
          have hnb := (slF hs vs (k, j)).nb
          have hdb := (slF hs vs (k, j)).db
          rw [hnum.1] at hnb
          rw [hnum.2] at hdb
          have e3 : IntKind.i64.wrap (x - y) = x - y := by rw [IntKind.wrap_i64]; omega
          have e4 : IntKind.i64.wrap (p - q) = p - q := by rw [IntKind.wrap_i64]; omega
          have hlen := slTo_len hs vs (k := k) (i := j) (by omega) (by omega)
          have HSN : Hid (fl (slTo hs vs k (j + 1)) = fl (slTo hs vs k j) ++ [.int .i64 (x - y), .int .i64 (p - q)]) := (show _ = _ by rw [slTo_succ, fl_snoc, hnum.1, hnum.2])
          have HLN : Hid ((slTo hs vs k (j + 1)).length = (slTo hs vs k j).length + 1) := (show _ = _ by rw [slTo_succ, List.length_append]; rfl)
          have HM : Hid ((slTo hs vs k j).length + 1 ≤ maxLen) := (show _ ≤ _ by unfold maxLen; omega)
          have HM2 : Hid (((slTo hs vs k j).length + 1) * 16 ≤ 140737488355328) := (show _ ≤ _ by omega)
          have hz1 := HN1.out
          have HSZ : Hid (w.heap.size + 1 ≤ wr.heap.size) := (show _ ≤ _ by have := (Array.getElem?_eq_some_iff.1 HN1.out).1; omega)
          clear hcy hcq hy hq hnum hnb hdb hz1 HO HB HN
          generalize hL : (slTo hs vs k j).length = L at *
          have k0 : (0 : Int) ≤ (k : Int) := Int.natCast_nonneg _
          have k1 : (k : Int) < (n : Int) := by omega
          have j0 : (0 : Int) ≤ (j : Int) := Int.natCast_nonneg _
          have j1 : (j : Int) < (n : Int) := by omega
          have n0 : 0 < n := by omega
          clear hL
          go_wp2_with fail
          go_region_held3 (fun W => W.cell? ⟨b1, o1 + k, none⟩ = some (.int .i64 x) ∧ W.cell? ⟨b1, o1 + j, none⟩ = some (.int .i64 y) ∧ W.cell? ⟨b0, o0 + k, none⟩ = some (.int .i64 p) ∧ W.cell? ⟨b0, o0 + j, none⟩ = some (.int .i64 q))
            (refine ⟨cell_below ?_ HCX.out, cell_below ?_ HCY.out, cell_below ?_ HCP.out, cell_below ?_ HCQ.out⟩ <;> (repeat (first | exact HBG.out | exact HB1.out | refine Below.drew ?_ | refine below_drewN ?_ _ | refine below_alloc ?_ _)))
            ((refine step_append_lies _ (by rfl) _ _ _ (by rfl) (w.heap.size + 1) 80 i0 _ 2 16 Try.underlying133 HI0.out HZ0.out HZ1.out HZ2.out rfl (by omega) _ L (fl (slTo hs vs k j)) (by rfl) ((HO1.out.alloc _).drew)
                ⟨wr.heap.size, 0, none⟩ 1 1 [.int .i64 (x - y), .int .i64 (p - q)] (by rfl) (by rfl) (World.news_of_block (cs := #[.int .i64 (x - y), .int .i64 (p - q)]) (t := 80) (fr := (0, 0)) (heap_alloc_new wr _)) (by simp [Value.oneCell'])
                (by omega) HM.out HM2.out (by have := HSZ.out; simp; omega) (wr.heap.size + 1) (by simp) ?_; intro gg cap w1 hown1 hgrow hat hlt1;
              have HO2 := Lib.hid hown1;
              have HBG : Hid (Below w.heap.size w w1) := (show Below _ _ _ from Below.grown (Below.drew (below_alloc HB1.out _)) hgrow (by have := HB1.out.size; simp; omega) (fun g hg => by have := (HO1.out.lt g hg).1; omega));
              have HN2 : Hid (w1.heap[w.heap.size]? = some (.cells #[.int .i64 0, .int .i64 0] 80 (0, 0))) := (show _ = _ from (hgrow.block w.heap.size (by have := HSZ.out; simp; omega) (fun he => by have := (HO1.out.lt _ he.symm).1; omega)).trans (((below_a1 wr _).block _ (by have := HSZ.out; omega)).trans HN1.out));
              clear hown1 hgrow hat hlt1))
          go_wp2_with fail
          go_roundw
          case rel => exact ⟨j + 1, _, _, by omega, by first | rfl | go_num, rfl, rfl, (show World.ownsRow _ _ _ _ _ _ _ by rw [HSN.out, HLN.out]; exact HO2.out), HBG.out, HN2.out⟩
          case measure => simp [intOf]; omega
        · obtain rfl : j = k := by omega
          go_wp2_with fail
          go_roundw
          case rel => exact ⟨j + 1, _, _, _, by omega, by first | rfl | go_num, rfl, rfl, rfl, (show World.ownsRow _ _ _ _ _ _ _ by rw [slTo_next]; exact HO1.out), HB1.out, HN1.out⟩
          case measure => simp [intOf]; omega
    · obtain rfl : k = n := by omega
      have hown := HO.out
      have hlen := slTo_len hs vs (k := k) (i := 0) (by omega) (by omega)
      rw [← HSL.out] at hown hlen
      have hpos := HP.out
      rcases hown.2 with ⟨_, hz⟩ | ⟨g, cap, cur, rfl, hg, hb, hn, hcap, hsz, htk⟩
      · omega
      · have HM := Lib.hid (median_any (w.heap.size + 1) g cap _ (slL hs vs) cur wr rfl hb htk hg hpos (by omega))
        have HGN : Hid (g < wr.heap.size ∧ w.heap.size < wr.heap.size) := (show _ ∧ _ from ⟨(Array.getElem?_eq_some_iff.1 hb).1, (Array.getElem?_eq_some_iff.1 HN.out).1⟩)
        clear hown hb hn hcap hsz htk hpos hlen HO
        generalize (slL hs vs).length = L at *
        go_wp2_with (go_at_call 108; refine HM.out.mono ?_; rintro e w1 ⟨x, hx, rfl, hb1⟩; have HX := Lib.hid hx; have HB1 := Lib.hid hb1; obtain ⟨⟨z0, z1⟩, z2, z3⟩ := cells2 ((hb1.block w.heap.size (by omega)).trans HN.out); clear hx hb1)
        have hbl : Below w.heap.size w ((w1.setCell ⟨w.heap.size, 0, none⟩ (.int .i64 x.num)).setCell ⟨w.heap.size, 1, none⟩ (.int .i64 x.den)) := by
          have h1 : Below w.heap.size w w1 := HB.out.trans ⟨HB1.out.os, HB1.out.tape, HB1.out.output, HB1.out.size, fun i hi => HB1.out.block i (by omega)⟩
          exact (h1.setCell (Nat.le_refl _) _).setCell (Nat.le_refl _) _
        refine bodyPost_ret (v := .agg #[.int .i64 x.num, .int .i64 x.den]) ?_ rfl ⟨x, HX.out, rfl, hbl⟩
        have hz := set2_at (u := .int .i64 x.num) (v := .int .i64 x.den) ((HB1.out.block w.heap.size (by omega)).trans HN.out)
        obtain ⟨⟨y0, y1⟩, _, _⟩ := cells2 hz
        simp [results, Try.results90, go_sem, y0, y1]
theorem chk0 {hs vs : List Int} {t : Int} (h : chkS hs vs t = 0) : okS hs vs = true ∧ withinB t 0 1000000 = true ∧ 2 ≤ vs.length := by
  unfold chkS at h
  split at h
  · rename_i hh
    have := (OkS.of hh.1).n1
    split at h
    · cases h
    · exact ⟨hh.1, hh.2, by omega⟩
  · cases h
def slpN (hs vs : List Int) : Int := if chkS hs vs 0 = 0 then sN hs vs else 0
def slpD (hs vs : List Int) : Int := if chkS hs vs 0 = 0 then sD hs vs else 0
set_option maxHeartbeats 2000000 in
theorem Slope_any (A0 A1 : Option Addr) (n0 c0 n1 c1 : Nat) (hs vs : List Int) (w : World) (h0 : RdI w A0 n0 c0 hs) (h1 : RdI w A1 n1 c1 vs) :
    Calls Try.prog 50 #[.slice A0 n0 c0, .slice A1 n1 c1] w fun e w' => e = .returned (.tuple #[.int .i64 (slpN hs vs), .int .i64 (slpD hs vs), .int .i64 (chkS hs vs 0)]) ∧ Below w.heap.size w w' := by
  have HK := Lib.hid (checkSlope_any A0 A1 n0 c0 n1 c1 hs vs 0 w h0 h1)
  by_cases hc : chkS hs vs 0 = 0
  · obtain ⟨ok, hw, h2⟩ := chk0 hc
    have hn := (OkS.of ok).hl
    obtain rfl : n0 = n1 := by rw [← h0.len, ← h1.len]; exact hn
    have HS : Hid (∀ W, Below w.heap.size w W → Calls Try.prog 90 #[.slice A0 n0 c0, .slice A1 n0 c1] W fun e w' => ∃ x, Mid (slL hs vs) x ∧ e = .returned (.agg #[.int .i64 x.num, .int .i64 x.den]) ∧ Below W.heap.size W w') :=
      (show ∀ W, _ from fun W hb => slope_any A0 A1 n0 c0 c1 hs vs W (h0.below hb) (h1.below hb) ok (by rw [← h1.len]; exact h2))
    have HN : Hid (slpN hs vs = sN hs vs ∧ slpD hs vs = sD hs vs ∧ chkS hs vs 0 = 0) := (show _ ∧ _ from ⟨if_pos hc, if_pos hc, hc⟩)
    have HP : Hid (Mid (slL hs vs) (midF (slL hs vs))) := (show Mid _ _ from midF_mid (slL_pos h2))
    rw [hc] at HK
    clear hc ok hw h2 hn h0 h1
    go_enter Try.func50, Try.ntmps50
    go_wp2_with (first
      | (go_at_call 89; refine HK.out.mono ?_; rintro e w1 ⟨rfl, hb1⟩; have HB1 := Lib.hid hb1; clear hb1)
      | (go_at_call 90; refine (HS.out _ HB1.out).mono ?_; rintro e w2 ⟨x, hx, rfl, hb2⟩; have HX := Lib.hid hx; have HB2 := Lib.hid (below_trans HB1.out hb2); have HLW := Lib.hid (fun W => lowest_any x.num x.den W (by have := x.nb; omega) (by have := x.nb; omega) (by have := x.db; omega) (by have := x.db; omega)); clear hx hb2)
      | (go_at_call 59; refine (HLW.out _).mono ?_; rintro e w3 ⟨rfl, hb3⟩; have HB3 := Lib.hid (below_trans HB2.out hb3); clear hb3))
    go_ret3
    have hm := mid_low HX.out HP.out
    exact ⟨by rw [hm.1, hm.2, HN.out.1, HN.out.2.1, HN.out.2.2]; rfl, HB3.out⟩
  · have HN : Hid (slpN hs vs = 0 ∧ slpD hs vs = 0) := (show _ ∧ _ from ⟨if_neg hc, if_neg hc⟩)
    clear h0 h1
    generalize chkS hs vs 0 = r at *
    go_enter Try.func50, Try.ntmps50
    go_wp2_with (go_at_call 89; refine HK.out.mono ?_; rintro e w1 ⟨rfl, hb1⟩; have HB1 := Lib.hid hb1; clear hb1)
    go_ret3
    exact ⟨by rw [HN.out.1, HN.out.2]; rfl, HB1.out⟩
end Go.Proofs.Ytcmjpcmdgnbbpaa
