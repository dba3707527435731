/- What the call of 'all' answers: whether all numbers of a slice lie between two bounds (for any slice that reads as a list). -/
import Derived.Test.YtcmjpcmdgnbbpaaLow
import Derived.Test.YtcmjpcmdgnbbpaaWWords
namespace Go.Proofs.Ytcmjpcmdgnbbpaa.PH
open Go.RowKit Go.Proofs.YtcmjpcmdgnbbpaaW.PrintWords
set_option linter.unusedVariables false
/-- A slice's value reads as these numbers (whatever its capacity is). -/
structure RdW (w : World) (A : Option Addr) (n : Nat) (xs : List Int) : Prop where
  len : xs.length = n
  size : n ≤ 9223372036854775807
  cells : ∀ k x, xs[k]? = some x → ∃ b off, A = some ⟨b, off, none⟩ ∧ w.cell? ⟨b, off + k, none⟩ = some (.int .i64 x)
theorem RdW.at {w : World} {A : Option Addr} {n : Nat} {xs : List Int} (h : RdW w A n xs) {k : Nat} (hk : k < n) :
    ∃ b off x, A = some ⟨b, off, none⟩ ∧ xs[k]? = some x ∧ w.cell? ⟨b, off + k, none⟩ = some (.int .i64 x) := by
  have hk' : k < xs.length := by rw [h.len]; exact hk
  obtain ⟨b, off, hA, hc⟩ := h.cells k xs[k] (List.getElem?_eq_getElem hk')
  exact ⟨b, off, xs[k], hA, List.getElem?_eq_getElem hk', hc⟩
theorem RdW.below {w w1 : World} {A : Option Addr} {n : Nat} {xs : List Int} (h : RdW w A n xs) (hb : Below w.heap.size w w1) : RdW w1 A n xs :=
  ⟨h.len, h.size, fun k x hx => by obtain ⟨b, off, hA, hc⟩ := h.cells k x hx; exact ⟨b, off, hA, cell_below hb hc⟩⟩
theorem spot_none' {w : World} {x : Addr} {v : Value} (h : w.cell? x = some v) : x = ⟨x.block, x.off, none⟩ := by
  obtain ⟨b, o, s⟩ := x
  cases s with
  | none => rfl
  | some s =>
    simp only [World.cell?] at h
    split at h <;> simp at h
theorem RdW.of {w : World} {A : Option Addr} {n : Nat} {xs : List Int} (h : Kd.C (Kd.int .i64) w A n xs) : RdW w A n xs := by
  obtain ⟨h1, h2, h3⟩ := h
  refine ⟨h1, h2, fun k x hx => ?_⟩
  have hk := (List.getElem?_eq_some_iff.1 hx).1
  obtain ⟨ad, rfl, hc⟩ := h3 (by omega)
  have h00 : 0 < xs.length := by omega
  obtain ⟨c0, _, hr0, hcell0⟩ := hc 0 _ (List.getElem?_eq_getElem h00)
  obtain rfl : c0 = [.int .i64 xs[0]] := hr0
  have g0 := hcell0 0 _ rfl
  simp only [Nat.zero_mul, Nat.add_zero] at g0
  have e0 : ad.add 0 = ad := by simp [Addr.add]
  rw [e0] at g0
  have hs := spot_none' g0
  obtain ⟨c, hl, hr, hcell⟩ := hc k x hx
  obtain rfl : c = [.int .i64 x] := hr
  have h0 := hcell 0 _ rfl
  simp only [Kd.int, Kd.scalar, Nat.mul_one, Nat.add_zero] at h0
  rw [hs, Addr.add_lit] at h0
  exact ⟨ad.block, ad.off, by rw [← hs], h0⟩
set_option maxHeartbeats 1000000 in
theorem indexFunc_w (p : Int → Bool) (g : Nat) (lb : Array Value) (A : Option Addr) (n c : Nat) (xs : List Int) (w : World) (h : RdW w A n xs)
    (eg : ∀ args w, (callFunc g args).run Try.prog w = .ok (.enter g args) w) (hp : Answers g lb p w) :
    Calls Try.prog 112 #[.slice A n c, .func (.func g) #[] lb] w fun e w' => e = .returned (.int .i64 (idxOf p xs 0)) ∧ Below w.heap.size w w' := by
  have hbig := h.size
  have H := Lib.hid h
  have HP := Lib.hid hp
  have HS : Hid (idxOf p xs 0 = idxOf p (xs.drop 0) 0) := (show _ = _ by simp)
  clear h hp
  go_enter Try.func112, Try.ntmps112
  go_wp2_with fail
  go_loopw [5, 8] (fun s i wr => ∃ k : Nat, k ≤ n ∧ i = .int .i64 k ∧ Below w.heap.size w wr ∧ Hid (idxOf p xs 0 = idxOf p (xs.drop k) k)) (fun _ i _ => n - (intOf i).toNat)
  case atStart => exact ⟨0, Nat.zero_le _, rfl, Below.refl _ _, HS⟩
  case round =>
    obtain ⟨k, hk, rfl, hb, HI⟩ := hrel
    by_cases hlt : k < n
    · obtain ⟨b, off, x, rfl, hx, hc⟩ := H.out.at hlt
      have hc' := cell_below hb hc
      have hcall := HP.out wr x hb
      clear hc HS
      have HX := Lib.hid hx; clear hx
      cases hq : p x with
      | true =>
        rw [hq] at hcall
        have HQ := Lib.hid hq; clear hq
        go_wp2_with (go_at_fn g; refine hcall.mono ?_; rintro e w' ⟨rfl, hb'⟩)
        go_ret
        refine ⟨ret_int ?_, below_trans hb hb'⟩
        rw [HI.out, drop_of HX.out, idxOf, if_pos HQ.out]
      | false =>
        rw [hq] at hcall
        have HQ := Lib.hid hq; clear hq
        go_wp2_with (go_at_fn g; refine hcall.mono ?_; rintro e w' ⟨rfl, hb'⟩)
        go_roundw
        case rel => exact ⟨k + 1, by omega, by go_num, below_trans hb hb', (show _ = _ by rw [HI.out, drop_of HX.out, idxOf, if_neg (by simp [HQ.out])])⟩
        case measure => simp [intOf]; omega
    · go_wp2_with fail
      go_ret
      refine ⟨ret_int ?_, hb⟩
      rw [HI.out, List.drop_eq_nil_of_le (by have := H.out.len; omega)]; rfl
theorem containsFunc_w (p : Int → Bool) (g : Nat) (lb : Array Value) (A : Option Addr) (n c : Nat) (xs : List Int) (w : World) (h : RdW w A n xs)
    (eg : ∀ args w, (callFunc g args).run Try.prog w = .ok (.enter g args) w) (hp : Answers g lb p w) :
    Calls Try.prog 97 #[.slice A n c, .func (.func g) #[] lb] w fun e w' => e = .returned (.bool (xs.any p)) ∧ Below w.heap.size w w' := by
  have H := Lib.hid (indexFunc_w p g lb A n c xs w h eg hp)
  have HS : Hid (decide (0 ≤ idxOf p xs 0) = xs.any p) := (show _ = _ from idxOf_any _ _ _)
  clear h hp
  generalize idxOf p xs 0 = r at *
  go_enter Try.func97, Try.ntmps97
  go_wp2_with (go_at_call 112; refine H.out.mono ?_; rintro e w' ⟨rfl, hb'⟩)
  go_ret
  exact ⟨ret_bool (by rw [← HS.out]), hb'⟩
theorem all_w (A : Option Addr) (n c : Nat) (xs : List Int) (l h : Int) (w : World) (hr : RdW w A n xs) :
    Calls Try.prog 64 #[.slice A n c, .int .i64 l, .int .i64 h] w fun e w' => e = .returned (.bool (allB xs l h)) ∧ Below w.heap.size w w' := by
  have HS : Hid ((!xs.any fun x => !withinB x l h) = allB xs l h) := (show _ = _ by simp [allB, List.any_eq_not_all_not])
  have eg := enters_of Try.func98 (by kernel_rfl) rfl
  have hc : ∀ W b1 b2, Below w.heap.size w W → W.cell? ⟨b1, 0, none⟩ = some (.int .i64 l) → W.cell? ⟨b2, 0, none⟩ = some (.int .i64 h) →
      Calls Try.prog 97 #[.slice A n c, .func (.func 98) #[] #[.pointer (some ⟨b1, 0, none⟩), .pointer (some ⟨b2, 0, none⟩)]] W fun e w' => e = .returned (.bool (xs.any fun x => !withinB x l h)) ∧ Below W.heap.size W w' :=
    fun W b1 b2 hb h1 h2 => containsFunc_w (fun x => !withinB x l h) 98 _ A n c xs W (hr.below hb) eg (fun W' x hb' => (all1_any x l h b1 b2 W' (cell_below hb' h1) (cell_below hb' h2)).mono fun e w' ⟨he, hw⟩ => ⟨he, hw ▸ Below.refl _ _⟩)
  have HC := Lib.hid hc
  generalize (xs.any fun x => !withinB x l h) = r at *
  clear hr hc eg
  go_enter Try.func64, Try.ntmps64
  go_wp2_with fail
  refine (HC.out _ _ _ ?_ ?_ ?_).mono ?_
  · exact ((Below.refl _ _).alloc (Nat.le_refl _) _).alloc (by simp) _
  · simp
  · simp
  rintro e w' ⟨rfl, hb'⟩
  go_wp2_with fail
  go_ret
  exact ⟨ret_bool (by rw [← HS.out]), below_trans (below_a2 _ _ _) hb'⟩
def health_all.f (l0 : List Int) (a1 : Int) (a2 : Int) : Option (Bool) := some (allB l0 a1 a2)
theorem health_all.calls (A0 : Option Addr) (c0 : Nat) (l0 : List Int) (a1 : Int) (a2 : Int) (r : Bool) (w : World) (hr0 : Kd.C (Kd.int .i64) w A0 l0.length l0) (hc0 : l0.length ≤ c0) (h : health_all.f l0 a1 a2 = some r) :
    Calls Try.prog 64 #[.slice A0 l0.length c0, .int .i64 a1, .int .i64 a2] w fun e w' => e = .returned (.bool r) ∧ Below w.heap.size w w' := by
  obtain rfl : allB l0 a1 a2 = r := Option.some.inj h
  exact all_w A0 l0.length c0 l0 a1 a2 w (RdW.of hr0)
end Go.Proofs.Ytcmjpcmdgnbbpaa.PH
