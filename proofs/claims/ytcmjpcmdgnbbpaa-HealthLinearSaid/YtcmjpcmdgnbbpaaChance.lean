/- The chance of a trend: what the program's functions and the reference's answer. -/
import Derived.Test.YtcmjpcmdgnbbpaaNext
import Derived.Deep.RegionLaw
import Derived.Laws.EntriesVeiled
namespace Go.Proofs.Ytcmjpcmdgnbbpaa
open Go.RowKit
theorem run_make22 (n : Nat) (hn : n ≤ 1000) (w : World) : (Instr.makeSlice 22 (.int .i64 0) (.int .i64 n)).run Try.prog w = .ok (.slice (some ⟨w.heap.size, 0, none⟩) 0 n) (w.alloc (.cells (madeCells #[.int .i64 0] n) 3)) := by
  obtain ⟨i, hi, hz0, hz1, hz2⟩ := info_parts info3
  have h := run_make (P := Try.prog) w 22 3 i (.int .i64 0) Try.underlying22 hi hz0 .i64 .i64 0 n (by omega) (by omega) (by rw [hz2]; omega) (by omega)
  rw [hz1] at h
  simpa [Value.cells] using h

theorem next_any (N bf bw bn bo : Nat) (want : Int) (hN : N ≤ 8) (hd1 : bw ≠ bf) (hd2 : bo ≠ bf) (hd3 : bw ≠ bo) (hd4 : bn ≠ bf) (hd5 : bn ≠ bo) (n : Nat) : NextCalls N bf bw bn bo want n := by
  induction n with
  | zero =>
    intro k order left so p q A c w hlk hlen hr hA hf hw hn ho hp hq hs1 hs2
    have := next_zero N bf bw bn bo k order want so p q A c w hd1 hd2 hf hw ho (by omega) (by omega)
    simpa [nextNum, fact] using this
  | succ n ih => exact next_succ N bf bw bn bo want hN hd1 hd2 hd3 hd4 hd5 n ih
theorem fact_le {n : Nat} (h : n ≤ 8) : fact n ≤ 40320 := by
  have : ∀ n, n ≤ 8 → fact n ≤ 40320 := by decide
  exact this n h
theorem cell_of_heap {w : World} {b o : Nat} {c : Array Value} {t : TypeId} {z : Nat × Nat} {v : Value} (h : w.heap[b]? = some (.cells c t z)) (hv : c[o]? = some v) : w.cell? ⟨b, o, none⟩ = some v := by
  simp [World.cell?, h, hv]
theorem frozen_of_heap {w : World} {b o : Nat} {c : Array Value} {t : TypeId} (h : w.heap[b]? = some (.cells c t (0, 0))) : w.frozen? ⟨b, o, none⟩ = false := by
  simp [World.frozen?, h]
theorem heap_five (w : World) (o1 o2 o3 o4 o5 : Obj) (k : Nat) : ((((((w.alloc o1).alloc o2).alloc o3).alloc o4).alloc o5).drew).heap[k]? =
    if k = w.heap.size + 1 + 1 + 1 + 1 then some o5 else if k = w.heap.size + 1 + 1 + 1 then some o4 else if k = w.heap.size + 1 + 1 then some o3 else if k = w.heap.size + 1 then some o2 else if k = w.heap.size then some o1 else w.heap[k]? := by
  show (((((w.heap.push o1).push o2).push o3).push o4).push o5)[k]? = _
  simp only [Array.getElem?_push, Array.size_push]
def chNum (xs : List Int) : Nat := nextNum (trendL xs) xs.length [] xs 0
def chDen (xs : List Int) : Nat := fact xs.length
set_option maxHeartbeats 4000000 in
theorem chance_any (A : Option Addr) (n c : Nat) (xs : List Int) (w : World) (h : RdI w A n c xs) (hn : n ≤ 8) (hn1 : 1 ≤ n) :
    Calls Try.prog 58 #[.slice A n c] w fun e w' => e = .returned (.agg #[.int .i64 (chNum xs), .int .i64 (chDen xs)]) ∧ Below w.heap.size w w' := by
  have HT := Lib.hid (trend_any A n c xs)
  have H := Lib.hid h
  have hmk := run_make22 n (by omega)
  have hN : Hid (chNum xs = nextNum (trendL xs) n [] xs 0 ∧ chDen xs = fact n) := (show _ ∧ _ by unfold chNum chDen; rw [h.len]; exact ⟨rfl, rfl⟩)
  have hAlt : Hid (∀ b off s, A = some ⟨b, off, s⟩ → b < w.heap.size) := by
    show ∀ b off s, _
    intro b off s e
    obtain ⟨b', off', x, e', _, hc⟩ := h.at (show 0 < n by omega)
    rw [e] at e'
    cases e'
    exact World.block_lt_of_cell? w _ hc
  have hfl := fact_le hn
  -- the call, at its world
  obtain ⟨W0, hW0⟩ : ∃ W0, W0 = (((((w.alloc (Obj.cells #[Value.int IntKind.i64 0, Value.int IntKind.i64 0] 80)).alloc (Obj.cells #[Value.int IntKind.i64 (trendL xs)] 3)).alloc
      (Obj.cells #[Value.int IntKind.i64 0, Value.int IntKind.i64 0] 80)).alloc
      (Obj.cells #[Value.func (Fn.func 95) #[] #[Value.pointer (some { block := w.heap.size + 1 + 1, off := 0 }), Value.pointer (some { block := w.heap.size + 1, off := 0 }), Value.pointer (some { block := w.heap.size + 1 + 1 + 1, off := 0 })]] 121)).alloc (Obj.cells (madeCells #[.int .i64 0] n) 3)).drew := ⟨_, rfl⟩
  have hb0 : Below w.heap.size w W0 := by
    rw [hW0]
    exact (((below_a3 _ _ _ _).alloc (by simp; omega) _).alloc (by simp; omega) _).drew
  have hX : Calls Try.prog 95 #[.slice (some ⟨w.heap.size + 1 + 1 + 1 + 1, 0, none⟩) 0 n, .slice A n c, .int .i64 0, .pointer (some ⟨w.heap.size + 1 + 1, 0, none⟩), .pointer (some ⟨w.heap.size + 1, 0, none⟩), .pointer (some ⟨w.heap.size + 1 + 1 + 1, 0, none⟩)] W0
        (NextPost (w.heap.size + 1 + 1) (w.heap.size + 1 + 1 + 1 + 1) n 0 [] (nextNum (trendL xs) n [] xs 0) (fact n) W0) := by
    have h1 : W0.heap[w.heap.size + 1 + 1]? = some (.cells #[.int .i64 0, .int .i64 0] 80 (0, 0)) := by rw [hW0]; rw [heap_five]; simp
    have h2 : W0.heap[w.heap.size + 1]? = some (.cells #[.int .i64 (trendL xs)] 3 (0, 0)) := by rw [hW0]; rw [heap_five]; simp
    have h3 : W0.heap[w.heap.size + 1 + 1 + 1]? = some (.cells #[.func (.func 95) #[] #[.pointer (some ⟨w.heap.size + 1 + 1, 0, none⟩), .pointer (some ⟨w.heap.size + 1, 0, none⟩), .pointer (some ⟨w.heap.size + 1 + 1 + 1, 0, none⟩)]] 121 (0, 0)) := by rw [hW0]; rw [heap_five]; simp
    have h4 : W0.heap[w.heap.size + 1 + 1 + 1 + 1]? = some (.cells (madeCells #[.int .i64 0] n) 3 (0, 0)) := by rw [hW0]; rw [heap_five]; simp
    have := next_any n (w.heap.size + 1 + 1) (w.heap.size + 1) (w.heap.size + 1 + 1 + 1) (w.heap.size + 1 + 1 + 1 + 1) (trendL xs) hn (by omega) (by omega) (by omega) (by omega) (by omega) n 0 [] xs 0 0 0 A c W0 rfl (by omega) (h.below hb0) (fun b off s e => by have := hAlt.out b off s e; omega) h1 (cell_of_heap h2 rfl) (cell_of_heap h3 rfl)
      ⟨by simp [ints], .inr ⟨_, n, _, rfl, by omega, h4, by omega, by unfold maxLen; omega, by simp [size_madeCells], by simp [ints]⟩⟩ (by omega) (by omega) (by omega) (by omega)
    simpa using this
  have c0 : W0.heap[w.heap.size]? = some (.cells #[.int .i64 0, .int .i64 0] 80 (0, 0)) := by rw [hW0]; rw [heap_five, if_neg (by omega), if_neg (by omega), if_neg (by omega), if_neg (by omega), if_pos rfl]
  have hs0 : w.heap.size < W0.heap.size := (Array.getElem?_eq_some_iff.1 c0).1
  have HX := Lib.hid hX
  have C0 := Lib.hid c0
  have HS0 := Lib.hid hs0
  have HB0 := Lib.hid hb0
  clear hX c0 hb0 hs0
  subst hW0
  clear h
  go_enter Try.func58, Try.ntmps58
  go_wp2_with (go_at_call 55; refine (HT.out _ (H.out.below (below_a1 _ _)) hn).mono ?_; rintro e w' ⟨rfl, rfl⟩)
  generalize trendL xs = tr at *
  go_region_with (go_at_call 95; refine HX.out.mono ?_; rintro e w3 ⟨rfl, hk, _, hf⟩; have HK := Lib.hid hk; have HF := Lib.hid hf; clear hk hf)
  all_goals
    have q0 : w3.heap[w.heap.size]? = some (.cells #[.int .i64 0, .int .i64 0] 80 (0, 0)) := (HK.out.block _ HS0.out (by omega) (by omega)).trans C0.out
    have d0 : w3.cell? ⟨w.heap.size, 0, none⟩ = some (.int .i64 0) := cell_of_heap (o := 0) q0 rfl
    have d1 : w3.cell? ⟨w.heap.size, 1, none⟩ = some (.int .i64 0) := cell_of_heap (o := 1) q0 rfl
    have g0 := frozen_of_heap (o := 0) q0
    have g1 := frozen_of_heap (o := 1) q0
    have e0 : w3.cell? ⟨w.heap.size + 1 + 1, 0, none⟩ = some (.int .i64 (nextNum tr n [] xs 0 : Nat)) := cell_of_heap (o := 0) HF.out rfl
    have e1 : w3.cell? ⟨w.heap.size + 1 + 1, 1, none⟩ = some (.int .i64 (fact n : Nat)) := cell_of_heap (o := 1) HF.out rfl
    clear q0
    have hB3 : Hid (Below w.heap.size w w3) := (show Below _ _ _ from HB0.out.trans ⟨HK.out.os, HK.out.tape, HK.out.output, HK.out.size, fun k hk => HK.out.block k (by have := HS0.out; omega) (by omega) (by omega)⟩)
    generalize nextNum tr n [] xs 0 = p at *
    generalize fact n = q at *
    go_wp2_with fail
    refine bodyPost_ret (v := .agg #[.int .i64 p, .int .i64 q]) (by simp [results, Try.results58, go_sem, d0, d1]) rfl ⟨by rw [hN.out.1, hN.out.2], ?_⟩
    exact (hB3.out.setCell (by simp) _).setCell (by simp) _

/-! ### Chance and Trend of the program -/
def cA (xs : List Int) : Int := if valuedB xs = true then lowN (chNum xs) (chDen xs) else 0
def cB (xs : List Int) : Int := if valuedB xs = true then lowD (chNum xs) (chDen xs) else 0
def cE (xs : List Int) : Int := if valuedB xs = true then 0 else 1
def tA (xs : List Int) : Int := if valuedB xs = true then trendL xs else 0
theorem valuedB_len {xs : List Int} (h : valuedB xs = true) : 1 ≤ xs.length ∧ xs.length ≤ 8 := by
  simp [valuedB] at h; omega
theorem chNum_le (xs : List Int) : chNum xs ≤ chDen xs := nextNum_le _ _ _ _ _
set_option maxHeartbeats 1000000 in
theorem Chance_any (A : Option Addr) (n c : Nat) (xs : List Int) (w : World) (h : RdI w A n c xs) :
    Calls Try.prog 21 #[.slice A n c] w fun e w' => e = .returned (.tuple #[.int .i64 (cA xs), .int .i64 (cB xs), .int .i64 (cE xs)]) ∧ Below w.heap.size w w' := by
  have HV := Lib.hid (valued_any A n c xs w h)
  have H := Lib.hid h
  have hl := h.len
  clear h
  cases hv : valuedB xs with
  | false =>
    have E1 : Hid (cA xs = 0 ∧ cB xs = 0 ∧ cE xs = 1) := (show _ ∧ _ ∧ _ by simp [cA, cB, cE, hv])
    rw [hv] at HV
    clear hv hl
    go_enter Try.func21, Try.ntmps21
    go_wp2_with (go_at_call 54; refine HV.out.mono ?_; rintro e w1 ⟨rfl, hb1⟩; have HB1 := Lib.hid hb1; clear hb1)
    go_ret3
    exact ⟨by rw [E1.out.1, E1.out.2.1, E1.out.2.2]; rfl, HB1.out⟩
  | true =>
    have E1 : Hid (cA xs = lowN (chNum xs) (chDen xs) ∧ cB xs = lowD (chNum xs) (chDen xs) ∧ cE xs = 0) := (show _ ∧ _ ∧ _ by simp [cA, cB, cE, hv])
    have hn := valuedB_len hv
    rw [hl] at hn
    have hd : chDen xs ≤ 40320 := fact_le (by omega)
    have hd0 : 0 < chDen xs := fact_pos _
    have hp := chNum_le xs
    rw [hv] at HV
    clear hv hl
    have HC := Lib.hid (chance_any A n c xs)
    have HL := Lib.hid (lowest_any (chNum xs) (chDen xs))
    generalize chNum xs = p at *
    generalize chDen xs = q at *
    go_enter Try.func21, Try.ntmps21
    go_wp2_with (first
      | (go_at_call 54; refine HV.out.mono ?_; rintro e w1 ⟨rfl, hb1⟩; have HB1 := Lib.hid hb1; clear hb1)
      | (go_at_call 58; refine (HC.out _ (H.out.below HB1.out) hn.2 hn.1).mono ?_; rintro e w2 ⟨rfl, hb2⟩; have HB2 := Lib.hid hb2; clear hb2)
      | (go_at_call 59; refine (HL.out _ (by omega) (by omega) (by omega) (by omega)).mono ?_; rintro e w3 ⟨rfl, hb3⟩; have HB3 := Lib.hid hb3; clear hb3))
    go_ret3
    exact ⟨by rw [E1.out.1, E1.out.2.1, E1.out.2.2]; rfl, below_trans (below_trans HB1.out HB2.out) HB3.out⟩
theorem Trend_any (A : Option Addr) (n c : Nat) (xs : List Int) (w : World) (h : RdI w A n c xs) :
    Calls Try.prog 17 #[.slice A n c] w fun e w' => e = .returned (.tuple #[.int .i64 (tA xs), .int .i64 (cE xs)]) ∧ Below w.heap.size w w' := by
  have HV := Lib.hid (valued_any A n c xs w h)
  have H := Lib.hid h
  have hl := h.len
  clear h
  cases hv : valuedB xs with
  | false =>
    have E1 : Hid (tA xs = 0 ∧ cE xs = 1) := (show _ ∧ _ by simp [tA, cE, hv])
    rw [hv] at HV
    clear hv hl
    go_enter Try.func17, Try.ntmps17
    go_wp2_with (go_at_call 54; refine HV.out.mono ?_; rintro e w1 ⟨rfl, hb1⟩; have HB1 := Lib.hid hb1; clear hb1)
    go_ret2
    exact ⟨by rw [E1.out.1, E1.out.2]; rfl, HB1.out⟩
  | true =>
    have E1 : Hid (tA xs = trendL xs ∧ cE xs = 0) := (show _ ∧ _ by simp [tA, cE, hv])
    have hn := valuedB_len hv
    rw [hl] at hn
    rw [hv] at HV
    clear hv hl
    have HC := Lib.hid (trend_any A n c xs)
    generalize trendL xs = p at *
    go_enter Try.func17, Try.ntmps17
    go_wp2_with (first
      | (go_at_call 54; refine HV.out.mono ?_; rintro e w1 ⟨rfl, hb1⟩; have HB1 := Lib.hid hb1; clear hb1)
      | (go_at_call 55; refine (HC.out _ (H.out.below HB1.out) hn.2).mono ?_; rintro e w2 ⟨rfl, rfl⟩))
    go_ret2
    exact ⟨by rw [E1.out.1, E1.out.2]; rfl, HB1.out⟩

/-! ### the reference -/
set_option maxHeartbeats 1000000 in
theorem valued_ref (A : Option Addr) (n c : Nat) (xs : List Int) (w : World) (h : RdI w A n c xs) :
    Calls Try.prog 56 #[.slice A n c] w fun e w' => e = .returned (.bool (valuedB xs)) ∧ w = w' := by
  have hm := h.size
  have H := Lib.hid h; clear h
  have HV : Hid (valuedB xs = (withinB n 1 8 && allB xs (-1000000) 1000000)) := by
    show _ = _
    unfold valuedB withinB; rw [H.out.len]
    congr 2 <;> simp <;> omega
  have HA : Hid (allB xs (-1000000) 1000000 = allB (xs.drop 0) (-1000000) 1000000) := (show _ = _ by simp)
  go_enter Try.func56, Try.ntmps56
  go_wp2_with fail
  go_loop [3] (fun i => ∃ k : Nat, k ≤ n ∧ i = .int .i64 k ∧ Hid (allB xs (-1000000) 1000000 = allB (xs.drop k) (-1000000) 1000000)) (fun i => n - (intOf i).toNat)
  case atStart => exact ⟨0, Nat.zero_le _, rfl, HA⟩
  case round =>
    obtain ⟨k, hk, rfl, HI⟩ := hrel
    by_cases hlt : k < n
    · obtain ⟨b, off, x, rfl, hx, hc⟩ := H.out.at hlt
      have HX := Lib.hid hx; clear hx
      cases hw : withinB x (-1000000) 1000000 with
      | true =>
        have HW := Lib.hid hw; clear hw
        go_wp2_with (go_at_call 63; refine (within_ref _ _ _ _).mono ?_; rw [HW.out]; rintro e w' ⟨rfl, rfl⟩)
        go_round
        case rel => exact ⟨k + 1, by omega, by go_num, (show _ = _ by rw [HI.out, drop_of HX.out]; simp [allB, HW.out])⟩
        case measure => simp [intOf]; omega
      | false =>
        have HW := Lib.hid hw; clear hw
        go_wp2_with (go_at_call 63; refine (within_ref _ _ _ _).mono ?_; rw [HW.out]; rintro e w' ⟨rfl, rfl⟩)
        go_ret
        exact ⟨ret_bool (by rw [HV.out, HI.out, drop_of HX.out]; simp [allB, HW.out]), rfl⟩
    · obtain rfl : k = n := by omega
      go_wp2_with (go_at_call 63; refine (within_ref _ _ _ _).mono ?_; rintro e w' ⟨rfl, rfl⟩)
      go_ret
      exact ⟨ret_bool (by rw [HV.out, HI.out, List.drop_eq_nil_of_le (by have := H.out.len; omega)]; simp [allB]), rfl⟩
theorem Trend_ref (A : Option Addr) (n c : Nat) (xs : List Int) (w : World) (h : RdI w A n c xs) :
    Calls Try.prog 18 #[.slice A n c] w fun e w' => e = .returned (.tuple #[.int .i64 (tA xs), .int .i64 (cE xs)]) ∧ Below w.heap.size w w' := by
  have HV := Lib.hid (valued_ref A n c xs w h)
  have H := Lib.hid h
  have hl := h.len
  clear h
  cases hv : valuedB xs with
  | false =>
    have E1 : Hid (tA xs = 0 ∧ cE xs = 1) := (show _ ∧ _ by simp [tA, cE, hv])
    rw [hv] at HV
    clear hv hl
    go_enter Try.func18, Try.ntmps18
    go_wp2_with (go_at_call 56; refine HV.out.mono ?_; rintro e w1 ⟨rfl, rfl⟩)
    go_ret2
    exact ⟨by rw [E1.out.1, E1.out.2]; rfl, Below.refl _ _⟩
  | true =>
    have E1 : Hid (tA xs = trendL xs ∧ cE xs = 0) := (show _ ∧ _ by simp [tA, cE, hv])
    have hn := valuedB_len hv
    rw [hl] at hn
    rw [hv] at HV
    clear hv hl
    have HC := Lib.hid (trend_ref A n c xs)
    generalize trendL xs = p at *
    go_enter Try.func18, Try.ntmps18
    go_wp2_with (first
      | (go_at_call 56; refine HV.out.mono ?_; rintro e w1 ⟨rfl, rfl⟩)
      | (go_at_call 57; refine (HC.out _ H.out hn.2).mono ?_; rintro e w2 ⟨rfl, hb⟩; have HB := Lib.hid hb; clear hb))
    go_ret2
    exact ⟨by rw [E1.out.1, E1.out.2]; rfl, HB.out⟩
end Go.Proofs.Ytcmjpcmdgnbbpaa
