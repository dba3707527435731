/- What the calls of the reference's median and Slope answer: the fraction in the middle, too. -/
import Derived.Test.YtcmjpcmdgnbbpaaSSlope
import Derived.Test.YtcmjpcmdgnbbpaaSIns
namespace Go.Proofs.Ytcmjpcmdgnbbpaa
open Go.RowKit
set_option linter.unusedVariables false
theorem info69S : (Try.prog.info? 69).map (fun i => (i.zero, i.size, i.bytes)) = some (some (.agg #[.int .i64 0, .int .i64 0]), 2, 16) := by kernel_rfl
/-- a row of fractions, its block known -/
structure RowF (w : World) (g n : Nat) (L : List Frac) : Prop where
  len : L.length = n
  row : ∃ cur : Array Value, w.heap[g]? = some (.cells cur 69 (0, 0)) ∧ cur.toList.take (n * 2) = fl L
theorem RowF.move {w w1 : World} {g n : Nat} {L : List Frac} (h : RowF w g n L) (e : w1.heap[g]? = w.heap[g]?) : RowF w1 g n L := by
  obtain ⟨cur, h1, h2⟩ := h.row
  exact ⟨h.len, cur, e.trans h1, h2⟩
theorem RowF.drewN {w : World} {g n : Nat} {L : List Frac} (h : RowF w g n L) (m : Nat) : RowF (w.drewN m) g n L := h.move rfl
theorem RowF.cell {w : World} {g n : Nat} {L : List Frac} (h : RowF w g n L) {k : Nat} (hk : k < n) :
    (w.cell? ⟨g, k * 2, none⟩ = some (.int .i64 (gF L k).num) ∧ w.cell? ⟨g, k * 2 + 1, none⟩ = some (.int .i64 (gF L k).den)) ∧ w.frozen? ⟨g, k * 2, none⟩ = false ∧ w.frozen? ⟨g, k * 2 + 1, none⟩ = false := by
  obtain ⟨cur, h1, h2⟩ := h.row
  have hf := fl_num (L := L) (k := k) (by rw [h.len]; exact hk)
  rw [← h2, List.getElem?_take_of_lt (by omega), List.getElem?_take_of_lt (by omega), Array.getElem?_toList, Array.getElem?_toList] at hf
  refine ⟨⟨?_, ?_⟩, ?_, ?_⟩
  · simp [World.cell?, h1, hf.1]
  · simp [World.cell?, h1, hf.2]
  · simp [World.frozen?, h1]
  · simp [World.frozen?, h1]
theorem RowF.set {w : World} {g n : Nat} {L : List Frac} (h : RowF w g n L) {k : Nat} (hk : k < n) (x : Frac) :
    RowF ((w.setCell ⟨g, k * 2, none⟩ (.int .i64 x.num)).setCell ⟨g, k * 2 + 1, none⟩ (.int .i64 x.den)) g n (L.set k x) := by
  obtain ⟨cur, h1, h2⟩ := h.row
  refine ⟨by rw [List.length_set]; exact h.len, (cur.setIfInBounds (k * 2) (.int .i64 x.num)).setIfInBounds (k * 2 + 1) (.int .i64 x.den), ?_, ?_⟩
  · rw [Sort.setCell_eq, Sort.setCell_eq]
    simp [Sort.mapBlock, Array.getElem?_modify, h1, Sort.onCells]
  · rw [Array.toList_setIfInBounds, Array.toList_setIfInBounds, List.take_set, List.take_set, h2, fl_set L k x (by rw [h.len]; exact hk)]
set_option maxRecDepth 100000 in
set_option maxHeartbeats 8000000 in
theorem median_ref (g0 cap0 n : Nat) (l : List Frac) (cur : Array Value) (w : World) (hn : l.length = n) (hb : w.heap[g0]? = some (.cells cur 69 (0, 0))) (ht : cur.toList.take (n * 2) = fl l) (hl : 0 < n) (hs : n ≤ 1000) :
    Calls Try.prog 92 #[.slice (some ⟨g0, 0, none⟩) n cap0] w fun e w' => ∃ x, Mid l x ∧ e = .returned (.agg #[.int .i64 x.num, .int .i64 x.den]) ∧ Below w.heap.size w w' := by
  obtain ⟨i0, hi0, hz0, hz1, hz2⟩ := info_parts info69S
  have hg0 : g0 < w.heap.size := (Array.getElem?_eq_some_iff.1 hb).1
  have HI0 := Lib.hid hi0
  have HZ0 := Lib.hid hz0
  have HZ1 := Lib.hid hz1
  have HZ2 := Lib.hid hz2
  have HLN := Lib.hid hn
  have HMID : Hid (Mid l (gF (isort l n) ((n - 1) / 2))) := (show Mid _ _ by have := isort_mid (L := l) (by omega); rwa [hn] at this)
  have HSRC : Hid (∀ W, Below w.heap.size w W → ∀ j u, (fl l)[j]? = some u → W.cell? ((⟨g0, 0, none⟩ : Addr).add j) = some u) := by
    show ∀ W, _
    intro W hbl j u hj
    rw [Addr.add_lit, Nat.zero_add]
    refine cell_below hbl ?_
    rw [← ht] at hj
    have hjn : j < n * 2 := by
      have := (List.getElem?_eq_some_iff.1 hj).1
      rw [List.length_take] at this; omega
    rw [List.getElem?_take_of_lt hjn, Array.getElem?_toList] at hj
    simp [World.cell?, hb, hj]
  have HFL : Hid ((fl l).length = n * 2) := (show _ = _ by rw [fl_len, hn])
  have HONE : Hid (∀ u ∈ fl l, u.oneCell' = true) := by
    show ∀ u ∈ fl l, _
    intro u hu
    unfold fl at hu
    obtain ⟨x, _, hx⟩ := List.mem_flatMap.1 hu
    simp [encF] at hx
    rcases hx with rfl | rfl <;> rfl
  clear hi0 hz0 hz1 hz2 hn hb ht
  go_enter Try.func92, Try.ntmps92
  go_wp2_with (at_builtin; go_must (refine wpList_append_own _ rfl _ _ 39 rfl (w.heap.size + 1) 69 i0 _ 2 16 Try.underlying39 HI0.out HZ0.out HZ1.out HZ2.out rfl (by omega) (.slice none 0 0) 0 [] rfl (World.ownsRow_nil _ _ _ _) ⟨g0, 0, none⟩ n cap0 (fl l) rfl HFL.out (HSRC.out _ (below_a1 _ _)) HONE.out (by unfold maxLen; omega) (by omega) (by simp) ?_); intro v1 w1 hown hgr hnil; have HO := Lib.hid hown; have HG := Lib.hid hgr; clear hown hgr hnil)
  have hown := HO.out
  rw [Nat.zero_add, List.nil_append] at hown
  rcases hown.2 with ⟨_, hz⟩ | ⟨g, cap, cur1, e1, hg, hb1, hn1, hcap, hsz, htk⟩
  · omega
  subst e1
  have HB0 : Hid (Below w.heap.size w w1) := (show Below _ _ _ from Below.grown (below_a1 w _) HG.out (by simp) (fun k hk => by cases hk))
  have HN0 : Hid (w1.heap[w.heap.size]? = some (.cells #[.int .i64 0, .int .i64 0] 69 (0, 0))) := (show _ = _ from (HG.out.block w.heap.size (by simp) (by simp [Value.ownBlock])).trans (heap_alloc_new w _))
  have HR0 : Hid (RowF w1 g n (isort l 1)) := (show RowF _ _ _ _ from ⟨HLN.out, cur1, hb1, htk⟩)
  clear hown hb1 hn1 hcap hsz htk HO HG
  go_wp2_with fail
  go_loopw [3, 4] (fun s3 s4 wr => ∃ (i : Nat) (u4 : Value), 1 ≤ i ∧ i ≤ n ∧ s3 = .int .i64 i ∧ s4 = u4 ∧ Hid (RowF wr g n (isort l i)) ∧ Hid (Below w.heap.size w wr) ∧ Hid (wr.heap[w.heap.size]? = some (.cells #[.int .i64 0, .int .i64 0] 69 (0, 0)))) (fun s3 _ _ => n - (intOf s3).toNat)
  case atStart => exact ⟨1, _, Nat.le_refl _, by omega, by first | rfl | go_num, rfl, HR0.out, HB0.out, HN0.out⟩
  case round =>
    obtain ⟨i, u4, hi1, hin, rfl, rfl, HR, HB, HN⟩ := hrel
    clear HR0 HB0 HN0
    by_cases hlt : i < n
    · have HLL : Hid ((isort l i).length = n) := (show _ = _ from HR.out.len)
      go_wp2_with fail
      obtain ⟨L0, hL0⟩ : ∃ L0, isort l i = L0 := ⟨_, rfl⟩
      have HL0 := Lib.hid hL0
      rw [hL0] at HR HLL
      clear hL0
      go_loopw [4] (fun s4 wi => ∃ (k : Nat) (L : List Frac), k ≤ i ∧ s4 = .int .i64 k ∧ Hid (sift L0 i = sift L k) ∧ Hid (RowF wi g n L) ∧ Hid (Below w.heap.size w wi) ∧ Hid (wi.heap[w.heap.size]? = some (.cells #[.int .i64 0, .int .i64 0] 69 (0, 0)))) (fun s4 _ => (intOf s4).toNat)
      case atStart => exact ⟨i, L0, Nat.le_refl _, rfl, (show _ = _ from rfl), HR.out, HB.out, HN.out⟩
      case round =>
        obtain ⟨k, L, hk, rfl, HS, HR1, HB1, HN1⟩ := hrel
        by_cases hk0 : k = 0
        · subst hk0
          have HE : Hid (isort l (i + 1) = L) := (show _ = _ by show sift (isort l i) i = L; rw [HL0.out, HS.out]; rfl)
          go_wp2_with fail
          go_quiet (fail)
          go_wp2_with fail
          go_roundw
          case rel => exact ⟨i + 1, _, by omega, by omega, by first | rfl | go_num, rfl, (show RowF _ _ _ _ by rw [HE.out]; exact HR1.out.move rfl), below_drewN HB1.out _, HN1.out⟩
          case measure => simp [intOf]; omega
        · obtain ⟨⟨ca, cb⟩, fa, fb⟩ := HR1.out.cell (show k < n by omega)
          obtain ⟨⟨cc, cd⟩, fc, fd⟩ := HR1.out.cell (show k - 1 < n by omega)
          have HX : Hid (∃ x, x = gF L k) := ⟨_, rfl⟩
          obtain ⟨x, hx⟩ := HX.out
          obtain ⟨y, hy⟩ : ∃ y, y = gF L (k - 1) := ⟨_, rfl⟩
          rw [← hx] at ca cb
          rw [← hy] at cc cd
          have HSK : Hid (sift L k = if Frac.lt x y = true then sift (swapL L (k - 1)) (k - 1) else L) := by
            show _ = _
            obtain ⟨k', rfl⟩ : ∃ k', k = k' + 1 := ⟨k - 1, by omega⟩
            rw [hx, hy]; rfl
          have HSW : Hid (swapL L (k - 1) = (L.set k y).set (k - 1) x) := (show _ = _ by unfold swapL; rw [hx, hy, show k - 1 + 1 = k by omega])
          have p1 := prodF x y
          have p2 := prodF y x
          have e7 : IntKind.i64.wrap (x.num * y.den) = x.num * y.den := by rw [IntKind.wrap_i64]; omega
          have e8 : IntKind.i64.wrap (y.num * x.den) = y.num * x.den := by rw [IntKind.wrap_i64]; omega
          have e2 : IntKind.i64.wrap ((k : Int) - 1) = (k : Int) - 1 := by rw [IntKind.wrap_i64]; omega
          have e3 : ((k : Int) - 1).toNat = k - 1 := by omega
          have e4 : (0 : Int) ≤ (k : Int) - 1 := by omega
          have e5 : (k : Int) - 1 < n := by omega
          have e6 : (1 : Int) ≤ k := by omega
          have e9 : 0 < k := by omega
          have e10 : (k : Int) < n := by omega
          have e11 : k < n := by omega
          clear p1 p2 hx hy HX
          have hlt' : Frac.lt x y = decide (x.num * y.den < y.num * x.den) := rfl
          by_cases hxy : x.num * y.den < y.num * x.den
          · have HE : Hid (sift L0 i = sift (swapL L (k - 1)) (k - 1)) := (show _ = _ by rw [HS.out, HSK.out, hlt', decide_eq_true hxy, if_pos rfl])
            clear hlt' hk0
            go_wp2_with fail
            go_quiet (fail)
            go_wp2_with fail
            have hne1 : k * 2 ≠ (k - 1) * 2 ∧ k * 2 ≠ (k - 1) * 2 + 1 ∧ k * 2 + 1 ≠ (k - 1) * 2 ∧ k * 2 + 1 ≠ (k - 1) * 2 + 1 := by omega
            have hne2 : (k - 1) * 2 ≠ k * 2 ∧ (k - 1) * 2 + 1 ≠ k * 2 ∧ (k - 1) * 2 ≠ k * 2 + 1 ∧ (k - 1) * 2 + 1 ≠ k * 2 + 1 := by omega
            go_region_law (fail)
            all_goals go_wp2_with fail
            all_goals go_roundw
            all_goals first | (simp [intOf]; omega; done) | skip
            all_goals
              refine ⟨k - 1, swapL L (k - 1), by omega, ?_, HE.out, ?_, ?_, ?_⟩
              · congr 1; omega
              · show RowF _ _ _ _
                rw [HSW.out]
                exact ((HR1.out.drewN _).set (show k < n by omega) y).set (show k - 1 < n by omega) x
              · exact ((((below_drewN HB1.out _).setCell (by show w.heap.size ≤ g; omega) _).setCell (by show w.heap.size ≤ g; omega) _).setCell (by show w.heap.size ≤ g; omega) _).setCell (by show w.heap.size ≤ g; omega) _
              · show _ = _
                rw [Below.heap_setCell _ _ _ _ (by show w.heap.size ≠ g; omega), Below.heap_setCell _ _ _ _ (by show w.heap.size ≠ g; omega), Below.heap_setCell _ _ _ _ (by show w.heap.size ≠ g; omega), Below.heap_setCell _ _ _ _ (by show w.heap.size ≠ g; omega)]
                exact HN1.out
          · have HE : Hid (isort l (i + 1) = L) := (show _ = _ by show sift (isort l i) i = L; rw [HL0.out, HS.out, HSK.out, hlt', decide_eq_false hxy]; rfl)
            clear hlt' hk0
            go_wp2_with fail
            go_quiet (fail)
            go_wp2_with fail
            go_roundw
            case rel => exact ⟨i + 1, _, by omega, by omega, by first | rfl | go_num, rfl, (show RowF _ _ _ _ by rw [HE.out]; exact HR1.out.move rfl), below_drewN HB1.out _, HN1.out⟩
            case measure => simp [intOf]; omega
    · obtain rfl : i = n := by omega
      obtain ⟨m, hm⟩ : ∃ m, (i - 1) / 2 = m := ⟨_, rfl⟩
      rw [hm] at HMID
      have hmn : m < i := by omega
      obtain ⟨⟨ca, cb⟩, fa, fb⟩ := HR.out.cell hmn
      obtain ⟨⟨z0, z1⟩, z2, z3⟩ := cells2 HN.out
      generalize gF (isort l i) m = x at *
      have e1 : IntKind.i64.wrap ((i : Int) - 1) = (i : Int) - 1 := by rw [IntKind.wrap_i64]; omega
      have e2 : ((i : Int) - 1) / 2 = (m : Int) := by omega
      have e3 : ((i : Int) - 1).tdiv 2 = (m : Int) := by rw [Int.tdiv_eq_ediv_of_nonneg (by omega)]; omega
      clear hm
      go_wp2_with fail
      have hbl : Below w.heap.size w ((wr.setCell ⟨w.heap.size, 0, none⟩ (.int .i64 x.num)).setCell ⟨w.heap.size, 1, none⟩ (.int .i64 x.den)) := (HB.out.setCell (Nat.le_refl _) _).setCell (Nat.le_refl _) _
      refine bodyPost_ret (v := .agg #[.int .i64 x.num, .int .i64 x.den]) ?_ rfl ⟨x, HMID.out, rfl, hbl⟩
      have hz := set2_at (u := .int .i64 x.num) (v := .int .i64 x.den) HN.out
      obtain ⟨⟨y0, y1⟩, _, _⟩ := cells2 hz
      simp [results, Try.results92, go_sem, y0, y1]
set_option maxRecDepth 100000 in
set_option maxHeartbeats 8000000 in
theorem Slope_ref (A0 A1 : Option Addr) (n0 c0 n1 c1 : Nat) (hs vs : List Int) (w : World) (h0 : RdI w A0 n0 c0 hs) (h1 : RdI w A1 n1 c1 vs) :
    Calls Try.prog 51 #[.slice A0 n0 c0, .slice A1 n1 c1] w fun e w' => e = .returned (.tuple #[.int .i64 (slpN hs vs), .int .i64 (slpD hs vs), .int .i64 (chkS hs vs 0)]) ∧ Below w.heap.size w w' := by
  have HT := Lib.hid (timed_any A0 A1 n0 c0 n1 c1 hs vs w h0 h1)
  have hl1 := h1.len
  have hm1 := h1.size
  have hw0 : withinB 0 0 1000000 = true := rfl
  cases hok : okS hs vs with
  | false =>
    rw [hok] at HT
    have hc : chkS hs vs 0 = 1 := chk_no (.inl hok)
    have HN : Hid (slpN hs vs = 0 ∧ slpD hs vs = 0 ∧ chkS hs vs 0 = 1) := (show _ ∧ _ from ⟨by unfold slpN; rw [hc]; rfl, by unfold slpD; rw [hc]; rfl, hc⟩)
    clear hc hok hw0 h0 h1 hl1
    go_enter Try.func51, Try.ntmps51
    go_wp2_with (go_at_call 91; refine HT.out.mono ?_; rintro e w1 ⟨rfl, hb1⟩; have HB1 := Lib.hid hb1; clear hb1)
    go_ret3
    exact ⟨by rw [HN.out.1, HN.out.2.1, HN.out.2.2]; rfl, HB1.out⟩
  | true =>
    rw [hok] at HT
    by_cases h11 : n1 = 1
    · have hc : chkS hs vs 0 = 3 := by unfold chkS; rw [if_pos ⟨hok, hw0⟩, hl1, if_pos h11]
      have HN : Hid (slpN hs vs = 0 ∧ slpD hs vs = 0 ∧ chkS hs vs 0 = 3) := (show _ ∧ _ from ⟨by unfold slpN; rw [hc]; rfl, by unfold slpD; rw [hc]; rfl, hc⟩)
      subst h11
      clear hc hok hw0 h0 h1 hl1
      go_enter Try.func51, Try.ntmps51
      go_wp2_with (go_at_call 91; refine HT.out.mono ?_; rintro e w1 ⟨rfl, hb1⟩; have HB1 := Lib.hid hb1; clear hb1)
      go_ret3
      exact ⟨by rw [HN.out.1, HN.out.2.1, HN.out.2.2]; rfl, HB1.out⟩
    · have OK := OkS.of hok
      have h2 : 2 ≤ n1 := by have := OK.n1; omega
      have hn8 : n1 ≤ 8 := by have := OK.n8; omega
      obtain rfl : n0 = n1 := by rw [← h0.len, ← hl1]; exact OK.hl
      have hc : chkS hs vs 0 = 0 := by unfold chkS; rw [if_pos ⟨hok, hw0⟩, hl1, if_neg h11]
      have HN : Hid (slpN hs vs = sN hs vs ∧ slpD hs vs = sD hs vs ∧ chkS hs vs 0 = 0) := (show _ ∧ _ from ⟨if_pos hc, if_pos hc, hc⟩)
      have HPM : Hid (Mid (slL hs vs) (midF (slL hs vs))) := (show Mid _ _ from midF_mid (slL_pos (by omega)))
      obtain ⟨i0, hi0, hz0, hz1, hz2⟩ := info_parts info69S
      have HI0 := Lib.hid hi0
      have HZ0 := Lib.hid hz0
      have HZ1 := Lib.hid hz1
      have HZ2 := Lib.hid hz2
      have HOK := Lib.hid OK
      have H0 := Lib.hid h0
      have H1 := Lib.hid h1
      have HP : Hid (0 < (slL hs vs).length) := (show 0 < _ from slL_pos (by omega))
      have HSL : Hid (slL hs vs = slTo hs vs n0 0) := (show _ = _ by unfold slL; rw [hl1])
      have h1b : ((n0 : Int) == 1) = false := by simp; omega
      clear hi0 hz0 hz1 hz2 OK h0 h1 hok hc hw0 hl1 h11
      go_enter Try.func51, Try.ntmps51
      go_wp2_with (go_at_call 91; refine HT.out.mono ?_; rintro e w1 ⟨rfl, hb1⟩; have HB1 := Lib.hid hb1; clear hb1)
      go_loopw [7, 8, 9] (fun s7 s8 s9 wr => ∃ (k : Nat) (v u9 : Value), k ≤ n0 ∧ s8 = .int .i64 k ∧ s7 = v ∧ s9 = u9 ∧ Hid (wr.ownsRow w.heap.size 69 2 v (slTo hs vs k 0).length (fl (slTo hs vs k 0))) ∧ Hid (Below w.heap.size w wr)) (fun _ s8 _ _ => n0 - (intOf s8).toNat)
      case atStart => exact ⟨0, _, _, Nat.zero_le _, rfl, rfl, rfl, World.ownsRow_nil _ _ _ _, HB1.out⟩
      case round =>
        obtain ⟨k, v, u9, hk, rfl, rfl, rfl, HO, HB⟩ := hrel
        by_cases hlt : k < n0
        · obtain ⟨b1, o1, x, rfl, hx, hcx⟩ := H1.out.at hlt
          obtain ⟨b0, o0, p, rfl, hp, hcp⟩ := H0.out.at hlt
          have HXG := Lib.hid (getD_of hx)
          have HPG := Lib.hid (getD_of hp)
          have HCX := Lib.hid hcx
          have HCP := Lib.hid hcp
          clear hx hcx hp hcp
          go_wp2_with fail
          go_loopw [7, 9] (fun s7 i wi => ∃ (j : Nat) (v' : Value), j ≤ k ∧ i = .int .i64 j ∧ s7 = v' ∧ Hid (wi.ownsRow w.heap.size 69 2 v' (slTo hs vs k j).length (fl (slTo hs vs k j))) ∧ Hid (Below w.heap.size w wi)) (fun _ i _ => k - (intOf i).toNat)
          case atStart => exact ⟨0, _, Nat.zero_le _, rfl, rfl, HO.out, HB.out⟩
          case round =>
            obtain ⟨j, v', hj, rfl, rfl, HO1, HBI⟩ := hrel
            by_cases hjk : j < k
            · obtain ⟨_, _, y, e1, hy, hcy⟩ := H1.out.at (show j < n0 by omega)
              cases e1
              obtain ⟨_, _, q, e2, hq, hcq⟩ := H0.out.at (show j < n0 by omega)
              cases e2
              have hc1 := cell_below HBI.out HCX.out
              have hc2 := cell_below HBI.out hcy
              have hc3 := cell_below HBI.out HCP.out
              have hc4 := cell_below HBI.out hcq
              have HCY := Lib.hid hcy
              have HCQ := Lib.hid hcq
              have hnum := slF_num HOK.out hjk (by rw [H1.out.len]; exact hlt)
              rw [HXG.out, HPG.out, getD_of hy, getD_of hq] at hnum
              have hnb := (slF hs vs (k, j)).nb
              have hdb := (slF hs vs (k, j)).db
              rw [hnum.1] at hnb
              rw [hnum.2] at hdb
              have e3 : IntKind.i64.wrap (x - y) = x - y := by rw [IntKind.wrap_i64]; omega
              have e4 : IntKind.i64.wrap (p - q) = p - q := by rw [IntKind.wrap_i64]; omega
              have hlen := slTo_len hs vs (k := k) (i := j) (by omega) (by omega)
              have HSN : Hid (fl (slTo hs vs k (j + 1)) = fl (slTo hs vs k j) ++ [.int .i64 (x - y), .int .i64 (p - q)]) := (show _ = _ by rw [slTo_succ, fl_snoc, hnum.1, hnum.2])
              have HLN : Hid ((slTo hs vs k (j + 1)).length = (slTo hs vs k j).length + 1) := (show _ = _ by rw [slTo_succ, List.length_append]; rfl)
              have HM : Hid ((slTo hs vs k j).length + 1 ≤ maxLen) := (show _ ≤ _ by unfold maxLen; omega)
              have HM2 : Hid (((slTo hs vs k j).length + 1) * 16 ≤ 140737488355328) := (show _ ≤ _ by omega)
              have HSZ : Hid (w.heap.size ≤ wr.heap.size) := (show _ ≤ _ from HBI.out.size)
              clear hcy hcq hy hq hnum hnb hdb HO HB
              generalize hL : (slTo hs vs k j).length = L at *
              have k0 : (0 : Int) ≤ (k : Int) := Int.natCast_nonneg _
              have k1 : (k : Int) < (n0 : Int) := by omega
              have j0 : (0 : Int) ≤ (j : Int) := Int.natCast_nonneg _
              have j1 : (j : Int) < (n0 : Int) := by omega
              have n00 : 0 < n0 := by omega
              clear hL
              go_wp2_with fail
              go_region_held3 (fun W => W.cell? ⟨b1, o1 + k, none⟩ = some (.int .i64 x) ∧ W.cell? ⟨b1, o1 + j, none⟩ = some (.int .i64 y) ∧ W.cell? ⟨b0, o0 + k, none⟩ = some (.int .i64 p) ∧ W.cell? ⟨b0, o0 + j, none⟩ = some (.int .i64 q))
                (refine ⟨cell_below ?_ HCX.out, cell_below ?_ HCY.out, cell_below ?_ HCP.out, cell_below ?_ HCQ.out⟩ <;> (repeat (first | exact HBG.out | exact HBI.out | refine Below.drew ?_ | refine below_drewN ?_ _ | refine below_alloc ?_ _)))
                ((refine step_append_lies _ (by rfl) _ _ _ (by rfl) w.heap.size 69 i0 _ 2 16 Try.underlying39 HI0.out HZ0.out HZ1.out HZ2.out rfl (by omega) _ L (fl (slTo hs vs k j)) (by rfl) ((HO1.out.alloc _).drew)
                    ⟨wr.heap.size, 0, none⟩ 1 1 [.int .i64 (x - y), .int .i64 (p - q)] (by rfl) (by rfl) (World.news_of_block (cs := #[.int .i64 (x - y), .int .i64 (p - q)]) (t := 69) (fr := (0, 0)) (heap_alloc_new wr _)) (by simp [Value.oneCell'])
                    (by omega) HM.out HM2.out (by have := HSZ.out; simp; omega) (wr.heap.size + 1) (by simp) ?_; intro gg cap w1 hown1 hgrow hat hlt1;
                  have HO2 := Lib.hid hown1;
                  have HBG : Hid (Below w.heap.size w w1) := (show Below _ _ _ from Below.grown (Below.drew (below_alloc HBI.out _)) hgrow (by have := HBI.out.size; simp; omega) (fun g hg => (HO1.out.lt g hg).1));
                  clear hown1 hgrow hat hlt1))
              go_wp2_with fail
              go_roundw
              case rel => exact ⟨j + 1, _, by omega, by first | rfl | go_num, rfl, (show World.ownsRow _ _ _ _ _ _ _ by rw [HSN.out, HLN.out]; exact HO2.out), HBG.out⟩
              case measure => simp [intOf]; omega
            · obtain rfl : j = k := by omega
              go_wp2_with fail
              go_roundw
              case rel => exact ⟨j + 1, _, _, by omega, by first | rfl | go_num, rfl, rfl, (show World.ownsRow _ _ _ _ _ _ _ by rw [slTo_next]; exact HO1.out), HBI.out⟩
              case measure => simp [intOf]; omega
        · obtain rfl : k = n0 := by omega
          have hown := HO.out
          have hlen := slTo_len hs vs (k := k) (i := 0) (by omega) (by omega)
          rw [← HSL.out] at hown hlen
          have hpos := HP.out
          rcases hown.2 with ⟨_, hz⟩ | ⟨g, cap, cur, rfl, hg, hb, hn, hcap, hsz, htk⟩
          · omega
          · have HM := Lib.hid (median_ref g cap _ (slL hs vs) cur wr rfl hb htk hpos (by omega))
            clear hown hb hn hcap hsz htk hpos hlen HO
            generalize (slL hs vs).length = L at *
            go_wp2_with (first
              | (go_at_call 92; refine HM.out.mono ?_; rintro e w2 ⟨x, hx, rfl, hb2⟩; have HX := Lib.hid hx; have HB2 := Lib.hid (below_trans HB.out hb2); have HLW := Lib.hid (fun W => lowest_ref x.num x.den W (by have := x.nb; omega) (by have := x.nb; omega) (by have := x.db; omega) (by have := x.db; omega)); clear hx hb2)
              | (go_at_call 60; refine (HLW.out _).mono ?_; rintro e w3 ⟨rfl, hb3⟩; have HB3 := Lib.hid hb3; clear hb3))
            go_ret3
            have hm := mid_low HX.out HPM.out
            have hsz2 := HB2.out.size
            refine ⟨by rw [hm.1, hm.2, HN.out.1, HN.out.2.1, HN.out.2.2]; rfl, below_then ?_ ?_ HB3.out⟩
            · repeat (first | exact HB2.out | refine below_alloc ?_ _ | refine Below.setCell ?_ (by simp; omega) _)
            · simp; omega
end Go.Proofs.Ytcmjpcmdgnbbpaa
