/- What the call of the reference's Forecast answers: the number in the middle, found by counting. -/
import Derived.Test.YtcmjpcmdgnbbpaaSFore
namespace Go.Proofs.Ytcmjpcmdgnbbpaa
open Go.RowKit
set_option linter.unusedVariables false
/-- the cells of pairs whose second numbers are all d -/
def cl (d : Int) (l : List Int) : List Value := l.flatMap fun x => [.int .i64 x, .int .i64 d]
theorem cl_snoc (d : Int) (l : List Int) (x : Int) : cl d (l ++ [x]) = cl d l ++ [.int .i64 x, .int .i64 d] := by unfold cl; rw [List.flatMap_append]; rfl
theorem cl_get (d : Int) : ∀ (l : List Int) (k : Nat), k < l.length → (cl d l)[k * 2]? = some (.int .i64 (l.getD k 0))
  | [], k, h => by simp at h
  | x :: l, 0, h => rfl
  | x :: l, k + 1, h => by
    have := cl_get d l k (by simpa using h)
    rw [show (k + 1) * 2 = k * 2 + 1 + 1 by omega]
    show (_ :: _ :: cl d l)[k * 2 + 1 + 1]? = _
    rw [List.getElem?_cons_succ, List.getElem?_cons_succ, this]
    rfl
structure RowC (w : World) (g n : Nat) (d : Int) (L : List Int) : Prop where
  len : L.length = n
  row : ∃ cur : Array Value, w.heap[g]? = some (.cells cur 69 (0, 0)) ∧ cur.toList.take (n * 2) = cl d L
theorem RowC.cell {w : World} {g n : Nat} {d : Int} {L : List Int} (h : RowC w g n d L) {k : Nat} (hk : k < n) : w.cell? ⟨g, k * 2, none⟩ = some (.int .i64 (L.getD k 0)) := by
  obtain ⟨cur, h1, h2⟩ := h.row
  have hf := cl_get d L k (by rw [h.len]; exact hk)
  rw [← h2, List.getElem?_take_of_lt (by omega), Array.getElem?_toList] at hf
  simp [World.cell?, h1, hf]
theorem chk_t {hs vs : List Int} {t : Int} (hok : okS hs vs = true) (hw : withinB t 0 1000000 = true) : chkS hs vs t = chkS hs vs 0 := by
  have h0 : withinB 0 0 1000000 = true := rfl
  unfold chkS
  simp only [hok, hw, h0]
theorem below_take {l : List Int} {k : Nat} {y x : Int} (h : l[k]? = some y) : belowN (l.take (k + 1)) x = belowN (l.take k) x + (if y < x then 1 else 0) ∧ sameN (l.take (k + 1)) x = sameN (l.take k) x + (if y = x then 1 else 0) := by
  unfold belowN sameN
  rw [take_succ_of h, List.countP_append, List.countP_append]
  simp [List.countP_cons]
theorem belowN_le (l : List Int) (x : Int) : belowN l x ≤ l.length ∧ sameN l x ≤ l.length := ⟨List.countP_le_length, List.countP_le_length⟩
set_option maxRecDepth 100000 in
set_option maxHeartbeats 16000000 in
theorem Forecast_ref (A0 A1 : Option Addr) (n0 c0 n1 c1 : Nat) (hs vs : List Int) (t : Int) (w : World) (h0 : RdI w A0 n0 c0 hs) (h1 : RdI w A1 n1 c1 vs) :
    Calls Try.prog 53 #[.slice A0 n0 c0, .slice A1 n1 c1, .int .i64 t] w fun e w' => e = .returned (.tuple #[.int .i64 (fcN hs vs t), .int .i64 (fcD hs vs t), .int .i64 (chkS hs vs t)]) ∧ Below w.heap.size w w' := by
  have HT := Lib.hid (timed_any A0 A1 n0 c0 n1 c1 hs vs w h0 h1)
  have HW : Hid (∀ W, Calls Try.prog 63 #[.int .i64 t, .int .i64 0, .int .i64 1000000] W fun e w' => e = .returned (.bool (withinB t 0 1000000)) ∧ W = w') := (show ∀ W, _ from fun W => within_ref t 0 1000000 W)
  have HSL : Hid (∀ W, Below w.heap.size w W → Calls Try.prog 51 #[.slice A0 n0 c0, .slice A1 n1 c1] W fun e w' => e = .returned (.tuple #[.int .i64 (slpN hs vs), .int .i64 (slpD hs vs), .int .i64 (chkS hs vs 0)]) ∧ Below W.heap.size W w') :=
    (show ∀ W, _ from fun W hb => Slope_ref A0 A1 n0 c0 n1 c1 hs vs W (h0.below hb) (h1.below hb))
  have hl1 := h1.len
  have hm1 := h1.size
  cases hok : okS hs vs with
  | false =>
    rw [hok] at HT
    have hc : chkS hs vs t = 1 := chk_no (.inl hok)
    have HN : Hid (fcN hs vs t = 0 ∧ fcD hs vs t = 0 ∧ chkS hs vs t = 1) := (show _ ∧ _ from ⟨by unfold fcN; rw [hc]; rfl, by unfold fcD; rw [hc]; rfl, hc⟩)
    clear hc hok h0 h1 hl1
    go_enter Try.func53, Try.ntmps53
    go_wp2_with (go_at_call 91; refine HT.out.mono ?_; rintro e w1 ⟨rfl, hb1⟩; have HB1 := Lib.hid hb1; clear hb1)
    go_ret3
    exact ⟨by rw [HN.out.1, HN.out.2.1, HN.out.2.2]; rfl, HB1.out⟩
  | true =>
    rw [hok] at HT
    cases hw : withinB t 0 1000000 with
    | false =>
      rw [hw] at HW
      have hc : chkS hs vs t = 1 := chk_no (.inr hw)
      have HN : Hid (fcN hs vs t = 0 ∧ fcD hs vs t = 0 ∧ chkS hs vs t = 1) := (show _ ∧ _ from ⟨by unfold fcN; rw [hc]; rfl, by unfold fcD; rw [hc]; rfl, hc⟩)
      clear hc hok h0 h1 hl1 hw
      go_enter Try.func53, Try.ntmps53
      go_wp2_with (first
        | (go_at_call 91; refine HT.out.mono ?_; rintro e w1 ⟨rfl, hb1⟩; have HB1 := Lib.hid hb1; clear hb1)
        | (go_at_call 63; refine (HW.out _).mono ?_; rintro e w4 ⟨rfl, rfl⟩))
      go_ret3
      exact ⟨by rw [HN.out.1, HN.out.2.1, HN.out.2.2]; rfl, HB1.out⟩
    | true =>
      rw [hw] at HW
      have hct := chk_t hok hw
      by_cases hc : chkS hs vs 0 = 0
      · have hct0 : chkS hs vs t = 0 := hct.trans hc
        have h2 := (chk0 hc).2.2
        have OK := OkS.of hok
        obtain rfl : n0 = n1 := by rw [← h0.len, ← hl1]; exact OK.hl
        have hn8 : n0 ≤ 8 := by have := OK.n8; omega
        have hn2 : 2 ≤ n0 := by omega
        have HSV : Hid (slpN hs vs = sN hs vs ∧ slpD hs vs = sD hs vs) := (show _ ∧ _ from ⟨if_pos hc, if_pos hc⟩)
        have HN : Hid (fcN hs vs t = lowN (medI (endsTo hs vs t n0)) (sD hs vs) ∧ fcD hs vs t = lowD (medI (endsTo hs vs t n0)) (sD hs vs) ∧ chkS hs vs t = 0) := (show _ ∧ _ from ⟨by unfold fcN; rw [if_pos hct0, hl1], by unfold fcD; rw [if_pos hct0, hl1], hct0⟩)
        have HEB : Hid (∀ i, i < n0 → EndB (vs.getD i 0) (sD hs vs) (sN hs vs) t (hs.getD i 0)) := (show ∀ i, _ from fun i hi => end_bd hct0 (by omega))
        have HMB : Hid (-3000000000000 ≤ medI (endsTo hs vs t n0) ∧ medI (endsTo hs vs t n0) ≤ 3000000000000) := (show _ ∧ _ by have := ends_bd hct0; rwa [hl1] at this)
        have HSB : Hid (1 ≤ sD hs vs ∧ sD hs vs ≤ 1000000) := (show _ ∧ _ from (low_bd _).2)
        have HBT : Hid (bestTo (endsTo hs vs t n0) n0 = medI (endsTo hs vs t n0)) := (show _ = _ by have := bestTo_med (l := endsTo hs vs t n0) (by rw [endsTo_len]; omega); rwa [endsTo_len] at this)
        rw [hc, HSV.out.1, HSV.out.2] at HSL
        have H0 := Lib.hid h0
        have H1 := Lib.hid h1
        obtain ⟨i0, hi0, hz0, hz1, hz2⟩ := info_parts info69S
        have HI0 := Lib.hid hi0
        have HZ0 := Lib.hid hz0
        have HZ1 := Lib.hid hz1
        have HZ2 := Lib.hid hz2
        obtain ⟨d, hd⟩ : ∃ d, sD hs vs = d := ⟨_, rfl⟩
        obtain ⟨m, hm⟩ : ∃ m, sN hs vs = m := ⟨_, rfl⟩
        have HEF : Hid (∀ i, endF hs vs t i = vs.getD i 0 * d + m * (t - hs.getD i 0)) := (show ∀ i, _ from fun i => by unfold endF; rw [hd, hm])
        rw [hd, hm] at HEB HSL
        rw [hd] at HN HSB
        have hsb := HSB.out
        clear hc hct hct0 hok hw h2 OK h0 h1 hl1 hi0 hz0 hz1 hz2 hd hm HSV
        go_enter Try.func53, Try.ntmps53
        go_wp2_with (first
          | (go_at_call 91; refine HT.out.mono ?_; rintro e w1 ⟨rfl, hb1⟩; have HB1 := Lib.hid hb1; clear hb1)
          | (go_at_call 63; refine (HW.out _).mono ?_; rintro e w4 ⟨rfl, rfl⟩)
          | (go_at_call 51; refine (HSL.out _ HB1.out).mono ?_; rintro e w5 ⟨rfl, hb5⟩; have HB5 := Lib.hid (below_trans HB1.out hb5); clear hb5))
        go_loopw [12, 13] (fun s12 s13 wr => ∃ (k : Nat) (v : Value), k ≤ n0 ∧ s13 = .int .i64 k ∧ s12 = v ∧ Hid (wr.ownsRow w5.heap.size 69 2 v k (cl d (endsTo hs vs t k))) ∧ Hid (Below w5.heap.size w5 wr)) (fun _ s13 _ => n0 - (intOf s13).toNat)
        case atStart => exact ⟨0, _, Nat.zero_le _, rfl, rfl, World.ownsRow_nil _ _ _ _, Below.refl _ _⟩
        case round =>
          obtain ⟨k, v, hk, rfl, rfl, HO, HB⟩ := hrel
          by_cases hlt : k < n0
          · obtain ⟨b1, o1, y, rfl, hy, hcy⟩ := H1.out.at hlt
            obtain ⟨b0, o0, p, rfl, hp, hcp⟩ := H0.out.at hlt
            have HCP : Hid (w5.cell? ⟨b0, o0 + k, none⟩ = some (.int .i64 p)) := (show _ = _ from cell_below HB5.out hcp)
            have HCY : Hid (w5.cell? ⟨b1, o1 + k, none⟩ = some (.int .i64 y)) := (show _ = _ from cell_below HB5.out hcy)
            have hcp' := cell_below HB.out HCP.out
            have hcy' := cell_below HB.out HCY.out
            have HE := HEB.out k hlt
            rw [getD_of hy, getD_of hp] at HE
            obtain ⟨q1, q2, q3⟩ := HE
            have HEK : Hid (cl d (endsTo hs vs t (k + 1)) = cl d (endsTo hs vs t k) ++ [.int .i64 (y * d + m * (t - p)), .int .i64 d]) := (show _ = _ by rw [endsTo_succ, cl_snoc, HEF.out, getD_of hy, getD_of hp])
            have e1 : IntKind.i64.wrap (y * d) = y * d := by rw [IntKind.wrap_i64]; omega
            have e2 : IntKind.i64.wrap (t - p) = t - p := by rw [IntKind.wrap_i64]; omega
            have e3 : IntKind.i64.wrap (m * (t - p)) = m * (t - p) := by rw [IntKind.wrap_i64]; omega
            have e4 : IntKind.i64.wrap (y * d + m * (t - p)) = y * d + m * (t - p) := by rw [IntKind.wrap_i64]; omega
            have HM : Hid (k + 1 ≤ maxLen) := (show _ ≤ _ by unfold maxLen; omega)
            have HM2 : Hid ((k + 1) * 16 ≤ 140737488355328) := (show _ ≤ _ by omega)
            have HSZ : Hid (w5.heap.size ≤ wr.heap.size) := (show _ ≤ _ from HB.out.size)
            have k0 : (0 : Int) ≤ (k : Int) := Int.natCast_nonneg _
            have k1 : (k : Int) < (n0 : Int) := by omega
            have n00 : 0 < n0 := by omega
            clear hy hcy hp hcp q1 q2 q3
            go_wp2_with fail
            go_region_held3 (fun W => W.cell? ⟨b1, o1 + k, none⟩ = some (.int .i64 y) ∧ W.cell? ⟨b0, o0 + k, none⟩ = some (.int .i64 p))
              (refine ⟨cell_below ?_ HCY.out, cell_below ?_ HCP.out⟩ <;> (repeat (first | exact HBG.out | exact HB.out | refine Below.drew ?_ | refine below_drewN ?_ _ | refine below_alloc ?_ _)))
              ((refine step_append_lies _ (by rfl) _ _ _ (by rfl) w5.heap.size 69 i0 _ 2 16 Try.underlying39 HI0.out HZ0.out HZ1.out HZ2.out rfl (by omega) _ k (cl d (endsTo hs vs t k)) (by rfl) ((HO.out.alloc _).drew)
                  ⟨wr.heap.size, 0, none⟩ 1 1 [.int .i64 (y * d + m * (t - p)), .int .i64 d] (by rfl) (by rfl) (World.news_of_block (cs := #[.int .i64 (y * d + m * (t - p)), .int .i64 d]) (t := 69) (fr := (0, 0)) (heap_alloc_new wr _)) (by simp [Value.oneCell'])
                  (by omega) HM.out HM2.out (by have := HSZ.out; simp; omega) (wr.heap.size + 1) (by simp) ?_; intro gg cap w1 hown1 hgrow hat hlt1;
                have HO2 := Lib.hid hown1;
                have HBG : Hid (Below w5.heap.size w5 w1) := (show Below _ _ _ from Below.grown (Below.drew (below_alloc HB.out _)) hgrow (by have := HB.out.size; simp; omega) (fun g hg => (HO.out.lt g hg).1));
                clear hown1 hgrow hat hlt1))
            go_wp2_with fail
            go_roundw
            case rel => exact ⟨k + 1, _, by omega, by first | rfl | go_num, rfl, (show World.ownsRow _ _ _ _ _ _ _ by rw [HEK.out]; exact HO2.out), HBG.out⟩
            case measure => simp [intOf]; omega
          · obtain rfl : k = n0 := by omega
            rcases HO.out.2 with ⟨_, hz⟩ | ⟨g, cap, cur, rfl, hg, hb, hn, hcap, hsz, htk⟩
            · omega
            · obtain ⟨L, hL⟩ : ∃ L, endsTo hs vs t k = L := ⟨_, rfl⟩
              have hLn : L.length = k := by rw [← hL]; exact endsTo_len _ _ _ _
              rw [hL] at htk HN HMB HBT
              have HR : Hid (RowC wr g k d L) := (show RowC _ _ _ _ _ from ⟨hLn, cur, hb, htk⟩)
              have HBW : Hid (Below w.heap.size w wr) := (show Below _ _ _ from below_trans HB5.out HB.out)
              have HLN := Lib.hid hLn
              have HGS : Hid (g < wr.heap.size) := (show _ < _ from (Array.getElem?_eq_some_iff.1 hb).1)
              have hc00 := HR.out.cell (show 0 < k by omega)
              rw [Nat.zero_mul] at hc00
              clear hL hLn hg hb hn hcap hsz htk HO HB
              have kp : 0 < k := by omega
              obtain ⟨W6, hW6⟩ : ∃ W6, W6 = wr := ⟨_, rfl⟩
              subst hW6
              obtain ⟨mm, hmm⟩ : ∃ mm, (k - 1) / 2 = mm := ⟨_, rfl⟩
              have HMM : Hid (∀ x, mid1 L x = (decide (belowN L x ≤ mm) && decide (mm < belowN L x + sameN L x))) := (show ∀ x, _ from fun x => by unfold mid1; rw [HLN.out, hmm])
              have e1 : IntKind.i64.wrap ((k : Int) - 1) = (k : Int) - 1 := by rw [IntKind.wrap_i64]; omega
              have e2 : ((k : Int) - 1) / 2 = (mm : Int) := by omega
              have e3 : ((k : Int) - 1).tdiv 2 = (mm : Int) := by rw [Int.tdiv_eq_ediv_of_nonneg (by omega)]; omega
              have HMK : Hid (mm < k) := (show _ < _ by omega)
              clear hmm
              go_wp2_with fail
              go_loopw [14, 15, 16, 17, 18, 19] (fun s14 s15 s16 s17 s18 s19 wq => ∃ (i : Nat) (u16 u17 u18 u19 : Value), i ≤ k ∧ s15 = .int .i64 i ∧ s14 = .int .i64 (bestTo L i) ∧ s16 = u16 ∧ s17 = u17 ∧ s18 = u18 ∧ s19 = u19 ∧ Hid (Below W6.heap.size W6 wq)) (fun _ s15 _ _ _ _ _ => k - (intOf s15).toNat)
              case atStart => exact ⟨0, _, _, _, _, Nat.zero_le _, rfl, rfl, rfl, rfl, rfl, rfl, Below.refl _ _⟩
              case round =>
                obtain ⟨i, u16, u17, u18, u19, hi, rfl, rfl, rfl, rfl, rfl, rfl, HB⟩ := hrel
                by_cases hik : i < k
                · have HCX : Hid (W6.cell? ⟨g, i * 2, none⟩ = some (.int .i64 (L.getD i 0))) := (show _ = _ from HR.out.cell hik)
                  have HBS : Hid (bestTo L (i + 1) = if mid1 L (L.getD i 0) = true then L.getD i 0 else bestTo L i) := (show _ = _ from rfl)
                  obtain ⟨x, hx⟩ : ∃ x, L.getD i 0 = x := ⟨_, rfl⟩
                  rw [hx] at HCX HBS
                  clear hx
                  go_wp2_with fail
                  go_loopw [16, 17, 18] (fun s16 s17 s18 wi => ∃ (j : Nat), j ≤ k ∧ s18 = .int .i64 j ∧ s16 = .int .i64 (belowN (L.take j) x) ∧ s17 = .int .i64 (sameN (L.take j) x) ∧ Hid (Below W6.heap.size W6 wi)) (fun _ _ s18 _ => k - (intOf s18).toNat)
                  case atStart => exact ⟨0, Nat.zero_le _, rfl, rfl, rfl, HB.out⟩
                  case round =>
                    obtain ⟨j, hj, rfl, rfl, rfl, HBI⟩ := hrel
                    have hbn := belowN_le (L.take j) x
                    have hlt1 : (L.take j).length ≤ j := List.length_take_le _ _
                    by_cases hjk : j < k
                    · have hcj := cell_below HBI.out (HR.out.cell hjk)
                      have hci := cell_below HBI.out HCX.out
                      have hyj : L[j]? = some (L.getD j 0) := by rw [List.getD_eq_getElem?_getD, List.getElem?_eq_getElem (by rw [HLN.out]; exact hjk)]; rfl
                      have hbt := below_take (x := x) hyj
                      obtain ⟨y, hy⟩ : ∃ y, L.getD j 0 = y := ⟨_, rfl⟩
                      rw [hy] at hcj hbt
                      have HBT2 := Lib.hid hbt
                      clear hyj hy hbt
                      generalize belowN (L.take j) x = bn at *
                      generalize sameN (L.take j) x = sn at *
                      rcases Int.lt_trichotomy y x with h | h | h
                      · have h1 : y < x := h
                        have h2 : (y == x) = false := by simp; omega
                        have HQ : Hid (belowN (L.take (j + 1)) x = bn + 1 ∧ sameN (L.take (j + 1)) x = sn) := (show _ ∧ _ by rw [HBT2.out.1, HBT2.out.2, if_pos h, if_neg (by omega)]; exact ⟨rfl, rfl⟩)
                        clear h
                        go_wp2_with fail
                        go_quiet (fail)
                        go_wp2_with fail
                        go_quiet (fail)
                        go_wp2_with fail
                        go_roundw
                        case rel => exact ⟨j + 1, by omega, by first | rfl | go_num, by rw [HQ.out.1]; first | rfl | go_num, by rw [HQ.out.2], below_drewN HBI.out _⟩
                        case measure => simp [intOf]; omega
                      · have h1 : ¬ y < x := by omega
                        have h2 : (y == x) = true := by simp; omega
                        have HQ : Hid (belowN (L.take (j + 1)) x = bn ∧ sameN (L.take (j + 1)) x = sn + 1) := (show _ ∧ _ by rw [HBT2.out.1, HBT2.out.2, if_neg h1, if_pos h]; exact ⟨rfl, rfl⟩)
                        clear h
                        go_wp2_with fail
                        go_quiet (fail)
                        go_wp2_with fail
                        go_quiet (fail)
                        go_wp2_with fail
                        go_roundw
                        case rel => exact ⟨j + 1, by omega, by first | rfl | go_num, by rw [HQ.out.1], by rw [HQ.out.2]; first | rfl | go_num, below_drewN HBI.out _⟩
                        case measure => simp [intOf]; omega
                      · have h1 : ¬ y < x := by omega
                        have h2 : (y == x) = false := by simp; omega
                        have HQ : Hid (belowN (L.take (j + 1)) x = bn ∧ sameN (L.take (j + 1)) x = sn) := (show _ ∧ _ by rw [HBT2.out.1, HBT2.out.2, if_neg h1, if_neg (by omega)]; exact ⟨rfl, rfl⟩)
                        clear h
                        go_wp2_with fail
                        go_quiet (fail)
                        go_wp2_with fail
                        go_quiet (fail)
                        go_wp2_with fail
                        go_roundw
                        case rel => exact ⟨j + 1, by omega, by first | rfl | go_num, by rw [HQ.out.1], by rw [HQ.out.2], below_drewN HBI.out _⟩
                        case measure => simp [intOf]; omega
                    · obtain rfl : j = k := by omega
                      have et : L.take j = L := List.take_of_length_le (by rw [HLN.out]; exact Nat.le_refl _)
                      rw [et] at hbn ⊢
                      have hm1 := HMM.out x
                      have hci := cell_below HBI.out HCX.out
                      clear et
                      generalize belowN L x = bn at *
                      generalize sameN L x = sn at *
                      have hb8 : bn ≤ 8 ∧ sn ≤ 8 := by have := HLN.out; omega
                      have hb9 : (bn : Int) ≤ 8 := by omega
                      have hb10 : (sn : Int) ≤ 8 := by omega
                      clear hbn hb8
                      by_cases c1 : bn ≤ mm
                      · by_cases c2 : mm < bn + sn
                        · have HE : Hid (bestTo L (i + 1) = x) := (show _ = _ by rw [HBS.out, hm1, decide_eq_true c1, decide_eq_true c2]; rfl)
                          have d1 : (bn : Int) ≤ (mm : Int) := by omega
                          have d2 : (mm : Int) < (bn : Int) + (sn : Int) := by omega
                          clear hm1
                          go_wp2_with fail
                          go_roundw
                          case rel => exact ⟨i + 1, _, _, _, _, by omega, by first | rfl | go_num, by rw [HE.out], rfl, rfl, rfl, rfl, HBI.out⟩
                          case measure => simp [intOf]; omega
                        · have HE : Hid (bestTo L (i + 1) = bestTo L i) := (show _ = _ by rw [HBS.out, hm1, decide_eq_true c1, decide_eq_false c2]; rfl)
                          have d1 : (bn : Int) ≤ (mm : Int) := by omega
                          have d2 : ¬ (mm : Int) < (bn : Int) + (sn : Int) := by omega
                          clear hm1
                          go_wp2_with fail
                          go_roundw
                          case rel => exact ⟨i + 1, _, _, _, _, by omega, by first | rfl | go_num, by rw [HE.out], rfl, rfl, rfl, rfl, HBI.out⟩
                          case measure => simp [intOf]; omega
                      · have HE : Hid (bestTo L (i + 1) = bestTo L i) := (show _ = _ by rw [HBS.out, hm1, decide_eq_false c1]; rfl)
                        have d1 : ¬ (bn : Int) ≤ (mm : Int) := by omega
                        clear hm1
                        go_wp2_with fail
                        go_roundw
                        case rel => exact ⟨i + 1, _, _, _, _, by omega, by first | rfl | go_num, by rw [HE.out], rfl, rfl, rfl, rfl, HBI.out⟩
                        case measure => simp [intOf]; omega
                · obtain rfl : i = k := by omega
                  rw [HBT.out]
                  obtain ⟨r, hr⟩ : ∃ r, medI L = r := ⟨_, rfl⟩
                  rw [hr] at HN HMB ⊢
                  have HLW := Lib.hid (fun W => lowest_ref r d W (by have := HMB.out; omega) (by have := HMB.out; omega) (by omega) (by omega))
                  clear hr
                  go_wp2_with (go_at_call 60; refine (HLW.out _).mono ?_; rintro e w8 ⟨rfl, hb8⟩; have HB8 := Lib.hid hb8; clear hb8)
                  go_ret3
                  exact ⟨by rw [HN.out.1, HN.out.2.1, HN.out.2.2]; rfl, below_trans HBW.out (below_trans HB.out HB8.out)⟩
      · have HN : Hid (fcN hs vs t = 0 ∧ fcD hs vs t = 0 ∧ chkS hs vs t = chkS hs vs 0) := (show _ ∧ _ from ⟨by unfold fcN; rw [hct, if_neg hc], by unfold fcD; rw [hct, if_neg hc], hct⟩)
        clear hct hok h0 h1 hl1 hw
        generalize chkS hs vs 0 = r at *
        go_enter Try.func53, Try.ntmps53
        go_wp2_with (first
          | (go_at_call 91; refine HT.out.mono ?_; rintro e w1 ⟨rfl, hb1⟩; have HB1 := Lib.hid hb1; clear hb1)
          | (go_at_call 63; refine (HW.out _).mono ?_; rintro e w4 ⟨rfl, rfl⟩)
          | (go_at_call 51; refine (HSL.out _ HB1.out).mono ?_; rintro e w5 ⟨rfl, hb5⟩; have HB5 := Lib.hid (below_trans HB1.out hb5); clear hb5))
        go_ret3
        exact ⟨by rw [HN.out.1, HN.out.2.1, HN.out.2.2]; rfl, HB5.out⟩
end Go.Proofs.Ytcmjpcmdgnbbpaa
