/- What the call of leveled answers: whether rows are a table of levels. -/
import Derived.Test.YtcmjpcmdgnbbpaaPEx0
import Derived.Test.YtcmjpcmdgnbbpaaHAll
import Derived.Test.YtcmjpcmdgnbbpaaNewBox
namespace Go.Proofs.Ytcmjpcmdgnbbpaa.PE
open Go.RowKit Go.Proofs.YtcmjpcmdgnbbpaaW.PrintWords Go.Proofs.YtcmjpcmdgnbbpaaW.PrintLast Go.Proofs.YtcmjpcmdgnbbpaaW.PrintMore
open PH (RdW all_w)
set_option linter.unusedVariables false
/-- A slice of slices reads as these rows. -/
structure RdRs (w : World) (A : Option Addr) (n : Nat) (rows : List (List Int)) : Prop where
  len : rows.length = n
  size : n ≤ 9223372036854775807
  cells : ∀ k xs, rows[k]? = some xs → ∃ b off A' c', A = some ⟨b, off, none⟩ ∧ w.cell? ⟨b, off + k, none⟩ = some (.slice A' xs.length c') ∧ RdW w A' xs.length xs
theorem RdRs.at {w : World} {A : Option Addr} {n : Nat} {rows : List (List Int)} (h : RdRs w A n rows) {k : Nat} (hk : k < n) :
    ∃ b off A' c' xs, A = some ⟨b, off, none⟩ ∧ rows[k]? = some xs ∧ w.cell? ⟨b, off + k, none⟩ = some (.slice A' xs.length c') ∧ RdW w A' xs.length xs := by
  have hk' : k < rows.length := by rw [h.len]; exact hk
  obtain ⟨b, off, A', c', hA, hc, hr⟩ := h.cells k rows[k] (List.getElem?_eq_getElem hk')
  exact ⟨b, off, A', c', rows[k], hA, List.getElem?_eq_getElem hk', hc, hr⟩
theorem RdRs.below {w w1 : World} {A : Option Addr} {n : Nat} {rows : List (List Int)} (h : RdRs w A n rows) (hb : Below w.heap.size w w1) : RdRs w1 A n rows :=
  ⟨h.len, h.size, fun k x hx => by obtain ⟨b, off, A', c', hA, hc, hr⟩ := h.cells k x hx; exact ⟨b, off, A', c', hA, cell_below hb hc, hr.below hb⟩⟩
theorem RdRs.of {w : World} {A : Option Addr} {n : Nat} {rows : List (List Int)} (h : Kd.C (Kd.slice 3 (Kd.int .i64)) w A n rows) : RdRs w A n rows := by
  obtain ⟨h1, h2, h3⟩ := h
  refine ⟨h1, h2, fun k x hx => ?_⟩
  have hk := (List.getElem?_eq_some_iff.1 hx).1
  obtain ⟨ad, rfl, hc⟩ := h3 (by omega)
  have h00 : 0 < rows.length := by omega
  obtain ⟨c0, _, ⟨B0, d0, rfl, _, _⟩, hcell0⟩ := hc 0 _ (List.getElem?_eq_getElem h00)
  have g0 := hcell0 0 _ rfl
  simp only [Nat.zero_mul, Nat.add_zero] at g0
  have e0 : ad.add 0 = ad := by simp [Addr.add]
  rw [e0] at g0
  have hs := PH.spot_none' g0
  obtain ⟨c, hl, ⟨B1, d1, rfl, hle, hC⟩, hcell⟩ := hc k x hx
  have f0 := hcell 0 _ rfl
  have esz : (Kd.slice 3 (Kd.int .i64)).sz = 1 := rfl
  rw [esz, Nat.mul_one, Nat.add_zero, hs, Addr.add_lit] at f0
  exact ⟨ad.block, ad.off, B1, d1, by rw [← hs], f0, RdW.of hC⟩
def idxR (p : List Int → Bool) : List (List Int) → Nat → Int
  | [], _ => -1
  | x :: xs, k => if p x then k else idxR p xs (k + 1)
theorem idxR_any (p : List Int → Bool) (xs : List (List Int)) (k : Nat) : decide (0 ≤ idxR p xs k) = xs.any p := by
  induction xs generalizing k with
  | nil => simp [idxR]
  | cons x xs ih =>
    unfold idxR
    cases hp : p x
    · simp [ih, hp]
    · simp [hp]
def AnswersR (g : Nat) (lb : Array Value) (p : List Int → Bool) (w : World) : Prop :=
  ∀ (W : World) (A : Option Addr) (c : Nat) (xs : List Int), Below w.heap.size w W → RdW W A xs.length xs → Calls Try.prog g (#[.slice A xs.length c] ++ lb) W fun e w' => e = .returned (.bool (p xs)) ∧ Below W.heap.size W w'
set_option maxHeartbeats 1000000 in
theorem indexFuncR (p : List Int → Bool) (g : Nat) (lb : Array Value) (A : Option Addr) (n c : Nat) (rows : List (List Int)) (w : World) (h : RdRs w A n rows)
    (eg : ∀ args w, (callFunc g args).run Try.prog w = .ok (.enter g args) w) (hp : AnswersR g lb p w) :
    Calls Try.prog 114 #[.slice A n c, .func (.func g) #[] lb] w fun e w' => e = .returned (.int .i64 (idxR p rows 0)) ∧ Below w.heap.size w w' := by
  have hbig := h.size
  have H := Lib.hid h
  have HP := Lib.hid hp
  have HS : Hid (idxR p rows 0 = idxR p (rows.drop 0) 0) := (show _ = _ by simp)
  clear h hp
  go_enter Try.func114, Try.ntmps114
  go_wp2_with fail
  go_loopw [5, 8] (fun s i wr => ∃ k : Nat, k ≤ n ∧ i = .int .i64 k ∧ Below w.heap.size w wr ∧ Hid (idxR p rows 0 = idxR p (rows.drop k) k)) (fun _ i _ => n - (intOf i).toNat)
  case atStart => exact ⟨0, Nat.zero_le _, rfl, Below.refl _ _, HS⟩
  case round =>
    obtain ⟨k, hk, rfl, hb, HI⟩ := hrel
    by_cases hlt : k < n
    · obtain ⟨b, off, A', c', x, rfl, hx, hc, hr⟩ := H.out.at hlt
      have hc' := cell_below hb hc
      have hcall := HP.out wr A' c' x hb (hr.below hb)
      clear hc HS hr
      have HX := Lib.hid hx; clear hx
      cases hq : p x with
      | true =>
        rw [hq] at hcall
        have HQ := Lib.hid hq; clear hq
        go_wp2_with (go_at_fn g; refine hcall.mono ?_; rintro e w' ⟨rfl, hb'⟩)
        go_ret
        refine ⟨ret_int ?_, below_trans hb hb'⟩
        rw [HI.out, drop_of HX.out, idxR, if_pos HQ.out]
      | false =>
        rw [hq] at hcall
        have HQ := Lib.hid hq; clear hq
        go_wp2_with (go_at_fn g; refine hcall.mono ?_; rintro e w' ⟨rfl, hb'⟩)
        go_roundw
        case rel => exact ⟨k + 1, by omega, by go_num, below_trans hb hb', (show _ = _ by rw [HI.out, drop_of HX.out, idxR, if_neg (by simp [HQ.out])])⟩
        case measure => simp [intOf]; omega
    · go_wp2_with fail
      go_ret
      refine ⟨ret_int ?_, hb⟩
      rw [HI.out, List.drop_eq_nil_of_le (by have := H.out.len; omega)]; rfl
theorem containsFuncR (p : List Int → Bool) (g : Nat) (lb : Array Value) (A : Option Addr) (n c : Nat) (rows : List (List Int)) (w : World) (h : RdRs w A n rows)
    (eg : ∀ args w, (callFunc g args).run Try.prog w = .ok (.enter g args) w) (hp : AnswersR g lb p w) :
    Calls Try.prog 100 #[.slice A n c, .func (.func g) #[] lb] w fun e w' => e = .returned (.bool (rows.any p)) ∧ Below w.heap.size w w' := by
  have H := Lib.hid (indexFuncR p g lb A n c rows w h eg hp)
  have HS : Hid (decide (0 ≤ idxR p rows 0) = rows.any p) := (show _ = _ from idxR_any _ _ _)
  clear h hp
  generalize idxR p rows 0 = r at *
  go_enter Try.func100, Try.ntmps100
  go_wp2_with (go_at_call 114; refine H.out.mono ?_; rintro e w' ⟨rfl, hb'⟩)
  go_ret
  exact ⟨ret_bool (by rw [← HS.out]), hb'⟩
/-- a row of a table of levels whose first row has m levels is none -/
def badR (m : Nat) (row : List Int) : Bool := decide (row.length ≠ m) || !withinB row.length 1 12 || !allB row 0 1000000
theorem badR_len {m : Nat} {row : List Int} (h : row.length ≠ m) : badR m row = true := by simp [badR, h]
theorem badR_rest {m : Nat} {row : List Int} (h : row.length = m) : badR m row = (!withinB row.length 1 12 || !allB row 0 1000000) := by simp [badR, h]
set_option maxHeartbeats 2000000 in
theorem leveled1_any (b1 b off c c1 m n : Nat) (A1 A : Option Addr) (row : List Int) (w : World) (h1 : w.cell? ⟨b1, 0, none⟩ = some (.slice (some ⟨b, off, none⟩) n c)) (hn : 0 < n) (h2 : w.cell? ⟨b, off, none⟩ = some (.slice A1 m c1)) (hr : RdW w A row.length row) (cr : Nat) :
    Calls Try.prog 101 #[.slice A row.length cr, .pointer (some ⟨b1, 0, none⟩)] w fun e w' => e = .returned (.bool (badR m row)) ∧ Below w.heap.size w w' := by
  have HA := Lib.hid (all_w A row.length cr row 0 1000000 w hr)
  have HW := Lib.hid (within_any (row.length : Int) 1 12)
  by_cases hl : row.length = m
  · have HB := Lib.hid (badR_rest hl)
    have hli : ((row.length : Int) != (m : Int)) = false := by simp; omega
    have hli2 : ((row.length : Int) == (m : Int)) = true := by simp; omega
    clear hr
    generalize allB row 0 1000000 = ra at *
    cases hw : withinB row.length 1 12
    all_goals
      rw [hw] at HB HW
      clear hw
      have HL := Lib.hid hl
      clear hl
      generalize row.length = q at *
      go_enter Try.func101, Try.ntmps101
      go_wp2_with (first | (go_at_call 62; refine (HW.out _).mono ?_; rintro e w' ⟨rfl, rfl⟩) | (go_at_call 64; refine HA.out.mono ?_; rintro e w' ⟨rfl, hb'⟩))
      go_ret
      exact ⟨ret_bool (by rw [HB.out]; simp), by first | exact hb' | exact Below.refl _ _⟩
  · have HB := Lib.hid (badR_len hl)
    have hli : ((row.length : Int) != (m : Int)) = true := by simp; omega
    have hli2 : ((row.length : Int) == (m : Int)) = false := by simp; omega
    clear hr hl
    generalize row.length = q at *
    go_enter Try.func101, Try.ntmps101
    go_wp2_with (first | (go_at_call 62; refine (HW.out _).mono ?_; rintro e w' ⟨rfl, rfl⟩) | (go_at_call 64; refine HA.out.mono ?_; rintro e w' ⟨rfl, hb'⟩))
    go_ret
    exact ⟨ret_bool (by rw [HB.out]), Below.refl _ _⟩
def levB (l : List (List Int)) : Bool := withinB l.length 1 8 && !l.any (badR (l.headD []).length)
def health_leveled.f (l0 : List (List Int)) : Option (Bool) := some (levB l0)
set_option maxHeartbeats 2000000 in
theorem leveled_any (A : Option Addr) (n c : Nat) (l : List (List Int)) (w : World) (h : RdRs w A n l) :
    Calls Try.prog 66 #[.slice A n c] w fun e w' => e = .returned (.bool (levB l)) ∧ Below w.heap.size w w' := by
  have HW := Lib.hid (within_any (n : Int) 1 8)
  have hln := h.len
  cases hw : withinB n 1 8 with
  | false =>
    have HB : Hid (levB l = false) := (show _ = _ by unfold levB; rw [hln, hw]; rfl)
    rw [hw] at HW
    clear hw h hln
    go_enter Try.func66, Try.ntmps66
    go_wp2_with (go_at_call 62; refine (HW.out _).mono ?_; rintro e w' ⟨rfl, rfl⟩)
    go_ret
    exact ⟨ret_bool (by rw [HB.out]), below_a1 _ _⟩
  | true =>
    have g := (withinB_iff _ _ _).1 hw
    have HB : Hid (levB l = !l.any (badR (l.headD []).length)) := (show _ = _ by unfold levB; rw [hln, hw]; rfl)
    obtain ⟨b, off, A', c', xs, rfl, hx, hc, hrow⟩ := h.at (show 0 < n by omega)
    rw [Nat.add_zero] at hc
    have hhd : (l.headD []) = xs := by cases l with | nil => simp at hx | cons a t => simpa using hx
    have eg := enters_of Try.func101 (by kernel_rfl) rfl
    have HCF : Hid (∀ W b1, Below w.heap.size w W → W.cell? ⟨b1, 0, none⟩ = some (.slice (some ⟨b, off, none⟩) n c) →
        Calls Try.prog 100 #[.slice (some ⟨b, off, none⟩) n c, .func (.func 101) #[] #[.pointer (some ⟨b1, 0, none⟩)]] W fun e w' => e = .returned (.bool (l.any (badR xs.length))) ∧ Below W.heap.size W w') :=
      (show ∀ W b1, _ from fun W b1 hb h1 => containsFuncR (badR xs.length) 101 _ _ n c l W (h.below hb) eg (fun W' A2 c2 row hb' hr => leveled1_any b1 b off c c' xs.length n A' A2 row W' (cell_below hb' h1) (by omega) (cell_below hb' (cell_below hb hc)) hr c2))
    rw [hhd] at HB
    rw [hw] at HW
    generalize l.any (badR xs.length) = r at *
    clear hw h hln hx hc hrow hhd eg
    go_enter Try.func66, Try.ntmps66
    go_wp2_with (first
      | (go_at_call 62; refine (HW.out _).mono ?_; rintro e w' ⟨rfl, rfl⟩)
      | (go_at_call 100; refine (HCF.out _ _ (below_a1 _ _) (by simp)).mono ?_; rintro e w' ⟨rfl, hb'⟩))
    go_ret
    exact ⟨ret_bool (by rw [HB.out]), below_trans (below_a1 _ _) hb'⟩
theorem health_leveled.calls (A0 : Option Addr) (c0 : Nat) (l0 : List (List Int)) (r : Bool) (w : World) (hr0 : Kd.C (Kd.slice 3 (Kd.int .i64)) w A0 l0.length l0) (hc0 : l0.length ≤ c0) (h : health_leveled.f l0 = some r) :
    Calls Try.prog 66 #[.slice A0 l0.length c0] w fun e w' => e = .returned (.bool r) ∧ Below w.heap.size w w' := by
  obtain rfl : levB l0 = r := Option.some.inj h
  exact leveled_any A0 l0.length c0 l0 w (RdRs.of hr0)
end Go.Proofs.Ytcmjpcmdgnbbpaa.PE
