/- The small functions of the program and of its reference: comparisons, trends, lowest terms: what each call answers. -/
import Derived.Test.YtcmjpcmdgnbbpaaBase
namespace Go.Proofs.Ytcmjpcmdgnbbpaa
open Go.RowKit
def withinB (n l h : Int) : Bool := decide (l ≤ n) && decide (n ≤ h)
set_option maxHeartbeats 400000 in
theorem within_any (n l h : Int) (w : World) :
    Calls Try.prog 62 #[.int .i64 n, .int .i64 l, .int .i64 h] w fun e w' => e = .returned (.bool (withinB n l h)) ∧ w = w' := by
  by_cases h1 : l ≤ n
  all_goals
    go_enter Try.func62, Try.ntmps62
    go_wp2_with fail
    go_ret
    exact ⟨ret_bool (by first | (simp [withinB, h1]; done) | (simp [withinB]; omega)), rfl⟩
set_option maxHeartbeats 400000 in
theorem within_ref (n l h : Int) (w : World) :
    Calls Try.prog 63 #[.int .i64 n, .int .i64 l, .int .i64 h] w fun e w' => e = .returned (.bool (withinB n l h)) ∧ w = w' := by
  by_cases h1 : l ≤ n
  all_goals
    go_enter Try.func63, Try.ntmps63
    go_wp2_with fail
    go_ret
    exact ⟨ret_bool (by first | (simp [withinB, h1]; done) | (simp [withinB]; omega)), rfl⟩
theorem nan_any (n : Int) (w : World) :
    Calls Try.prog 113 #[.int .i64 n] w fun e w' => e = .returned (.bool false) ∧ w = w' := by
  go_enter Try.func113, Try.ntmps113
  go_wp2
  go_ret
  exact ⟨ret_bool (by simp), rfl⟩
def cmpI (x y : Int) : Int := if x < y then -1 else if x > y then 1 else 0
theorem cmpI_bd (x y : Int) : -1 ≤ cmpI x y ∧ cmpI x y ≤ 1 := by unfold cmpI; split <;> (try split) <;> omega
set_option maxHeartbeats 400000 in
theorem compare_any (x y : Int) (w : World) :
    Calls Try.prog 99 #[.int .i64 x, .int .i64 y] w fun e w' => e = .returned (.int .i64 (cmpI x y)) ∧ w = w' := by
  have H : Hid (cmpI x y = if x < y then -1 else if x > y then 1 else 0) := (show _ = _ from rfl)
  go_enter Try.func99, Try.ntmps99
  go_wp2_with (go_at_call 113; refine (nan_any _ _).mono ?_; rintro e w' ⟨rfl, rfl⟩)
  all_goals go_ret
  all_goals exact ⟨ret_int (by rw [H.out]; (repeat' split) <;> first | rfl | omega), rfl⟩
/-- all$1: not within, low and high in boxes -/
theorem all1_any (n l h : Int) (b1 b2 : Nat) (w : World) (h1 : w.cell? ⟨b1, 0, none⟩ = some (.int .i64 l)) (h2 : w.cell? ⟨b2, 0, none⟩ = some (.int .i64 h)) :
    Calls Try.prog 98 #[.int .i64 n, .pointer (some ⟨b1, 0, none⟩), .pointer (some ⟨b2, 0, none⟩)] w fun e w' => e = .returned (.bool (!withinB n l h)) ∧ w = w' := by
  go_enter Try.func98, Try.ntmps98
  go_wp2_with (go_at_call 62; refine (within_any _ _ _ _).mono ?_; rintro e w' ⟨rfl, rfl⟩)
  go_ret
  exact ⟨ret_bool (by simp), rfl⟩
def idxOf (p : Int → Bool) : List Int → Nat → Int
  | [], _ => -1
  | x :: xs, k => if p x then k else idxOf p xs (k + 1)
theorem idxOf_any (p : Int → Bool) (xs : List Int) (k : Nat) : decide (0 ≤ idxOf p xs k) = xs.any p := by
  induction xs generalizing k with
  | nil => simp [idxOf]
  | cons x xs ih =>
    unfold idxOf
    cases hp : p x
    · simp [ih, hp]
    · simp [hp]
/-- what a function value answers -/
def Answers (g : Nat) (lb : Array Value) (p : Int → Bool) (w : World) : Prop :=
  ∀ (W : World) (x : Int), Below w.heap.size w W → Calls Try.prog g (#[.int .i64 x] ++ lb) W fun e w' => e = .returned (.bool (p x)) ∧ Below W.heap.size W w'
set_option maxHeartbeats 1000000 in
theorem indexFunc_any (p : Int → Bool) (g : Nat) (lb : Array Value) (A : Option Addr) (n c : Nat) (xs : List Int) (w : World) (h : RdI w A n c xs)
    (eg : ∀ args w, (callFunc g args).run Try.prog w = .ok (.enter g args) w) (hp : Answers g lb p w) :
    Calls Try.prog 112 #[.slice A n c, .func (.func g) #[] lb] w fun e w' => e = .returned (.int .i64 (idxOf p xs 0)) ∧ Below w.heap.size w w' := by
  have hbig := h.size
  have H := Lib.hid h
  have HP := Lib.hid hp
  have HS : Hid (idxOf p xs 0 = idxOf p (xs.drop 0) 0) := (show _ = _ by simp)
  clear h hp
  go_enter Try.func112, Try.ntmps112
  go_wp2_with fail
  go_loopw [5, 8] (fun s i wr => ∃ k : Nat, k ≤ n ∧ i = .int .i64 k ∧ Below w.heap.size w wr ∧ Hid (idxOf p xs 0 = idxOf p (xs.drop k) k)) (fun _ i _ => n - (intOf i).toNat)
  case atStart => exact ⟨0, Nat.zero_le _, rfl, Below.refl _ _, HS⟩
  case round =>
    obtain ⟨k, hk, rfl, hb, HI⟩ := hrel
    by_cases hlt : k < n
    · obtain ⟨b, off, x, rfl, hx, hc⟩ := H.out.at hlt
      have hc' := cell_below hb hc
      have hcall := HP.out wr x hb
      clear hc HS
      have HX := Lib.hid hx; clear hx
      cases hq : p x with
      | true =>
        rw [hq] at hcall
        have HQ := Lib.hid hq; clear hq
        go_wp2_with (go_at_fn g; refine hcall.mono ?_; rintro e w' ⟨rfl, hb'⟩)
        go_ret
        refine ⟨ret_int ?_, below_trans hb hb'⟩
        rw [HI.out, drop_of HX.out, idxOf, if_pos HQ.out]
      | false =>
        rw [hq] at hcall
        have HQ := Lib.hid hq; clear hq
        go_wp2_with (go_at_fn g; refine hcall.mono ?_; rintro e w' ⟨rfl, hb'⟩)
        go_roundw
        case rel => exact ⟨k + 1, by omega, by go_num, below_trans hb hb', (show _ = _ by rw [HI.out, drop_of HX.out, idxOf, if_neg (by simp [HQ.out])])⟩
        case measure => simp [intOf]; omega
    · go_wp2_with fail
      go_ret
      refine ⟨ret_int ?_, hb⟩
      rw [HI.out, List.drop_eq_nil_of_le (by have := H.out.len; omega)]; rfl
theorem containsFunc_any (p : Int → Bool) (g : Nat) (lb : Array Value) (A : Option Addr) (n c : Nat) (xs : List Int) (w : World) (h : RdI w A n c xs)
    (eg : ∀ args w, (callFunc g args).run Try.prog w = .ok (.enter g args) w) (hp : Answers g lb p w) :
    Calls Try.prog 97 #[.slice A n c, .func (.func g) #[] lb] w fun e w' => e = .returned (.bool (xs.any p)) ∧ Below w.heap.size w w' := by
  have H := Lib.hid (indexFunc_any p g lb A n c xs w h eg hp)
  have HS : Hid (decide (0 ≤ idxOf p xs 0) = xs.any p) := (show _ = _ from idxOf_any _ _ _)
  clear h hp
  generalize idxOf p xs 0 = r at *
  go_enter Try.func97, Try.ntmps97
  go_wp2_with (go_at_call 112; refine H.out.mono ?_; rintro e w' ⟨rfl, hb'⟩)
  go_ret
  exact ⟨ret_bool (by rw [← HS.out]), hb'⟩
def allB (xs : List Int) (l h : Int) : Bool := xs.all fun x => withinB x l h
theorem all_any (A : Option Addr) (n c : Nat) (xs : List Int) (l h : Int) (w : World) (hr : RdI w A n c xs) :
    Calls Try.prog 64 #[.slice A n c, .int .i64 l, .int .i64 h] w fun e w' => e = .returned (.bool (allB xs l h)) ∧ Below w.heap.size w w' := by
  have HS : Hid ((!xs.any fun x => !withinB x l h) = allB xs l h) := (show _ = _ by simp [allB, List.any_eq_not_all_not])
  have eg := enters_of Try.func98 (by kernel_rfl) rfl
  have hc : ∀ W b1 b2, Below w.heap.size w W → W.cell? ⟨b1, 0, none⟩ = some (.int .i64 l) → W.cell? ⟨b2, 0, none⟩ = some (.int .i64 h) →
      Calls Try.prog 97 #[.slice A n c, .func (.func 98) #[] #[.pointer (some ⟨b1, 0, none⟩), .pointer (some ⟨b2, 0, none⟩)]] W fun e w' => e = .returned (.bool (xs.any fun x => !withinB x l h)) ∧ Below W.heap.size W w' :=
    fun W b1 b2 hb h1 h2 => containsFunc_any (fun x => !withinB x l h) 98 _ A n c xs W (hr.below hb) eg (fun W' x hb' => (all1_any x l h b1 b2 W' (cell_below hb' h1) (cell_below hb' h2)).mono fun e w' ⟨he, hw⟩ => ⟨he, hw ▸ Below.refl _ _⟩)
  have HC := Lib.hid hc
  generalize (xs.any fun x => !withinB x l h) = r at *
  clear hr hc eg
  go_enter Try.func64, Try.ntmps64
  go_wp2_with fail
  refine (HC.out _ _ _ ?_ ?_ ?_).mono ?_
  · exact ((Below.refl _ _).alloc (Nat.le_refl _) _).alloc (by simp) _
  · simp
  · simp
  rintro e w' ⟨rfl, hb'⟩
  go_wp2_with fail
  go_ret
  exact ⟨ret_bool (by rw [← HS.out]), below_trans (below_a2 _ _ _) hb'⟩

/-! ### trends -/
def gainL (xs : List Int) (v : Int) : Int := (xs.map (cmpI v)).sum
theorem gainL_bd (xs : List Int) (v : Int) : -(xs.length : Int) ≤ gainL xs v ∧ gainL xs v ≤ xs.length := by
  induction xs with
  | nil => simp [gainL]
  | cons x xs ih => have := cmpI_bd v x; simp [gainL] at *; omega
theorem gainL_snoc (xs : List Int) (v x : Int) : gainL (xs ++ [x]) v = gainL xs v + cmpI v x := by simp [gainL]
set_option maxHeartbeats 400000 in
theorem gain_any (A : Option Addr) (n c : Nat) (xs : List Int) (v : Int) (w : World) (h : RdI w A n c xs) :
    Calls Try.prog 94 #[.slice A n c, .int .i64 v] w fun e w' => e = .returned (.int .i64 (gainL xs v)) ∧ w = w' := by
  have hm := h.size
  have hl := h.len
  have H := Lib.hid h; clear h
  go_enter Try.func94, Try.ntmps94
  go_wp2_with fail
  go_loop [4, 9] (fun s i => ∃ k : Nat, k ≤ n ∧ i = .int .i64 k ∧ s = .int .i64 (gainL (xs.take k) v)) (fun _ i => n - (intOf i).toNat)
  case atStart => exact ⟨0, Nat.zero_le _, rfl, rfl⟩
  case round =>
    obtain ⟨k, hk, rfl, rfl⟩ := hrel
    have hb := gainL_bd (xs.take k) v
    have hlk : (xs.take k).length ≤ k := List.length_take_le _ _
    by_cases hlt : k < n
    · obtain ⟨b, off, x, rfl, hx, hck⟩ := H.out.at hlt
      have hcb := cmpI_bd v x
      have HH : Hid (gainL (xs.take (k+1)) v = gainL (xs.take k) v + cmpI v x) := by
        show _ = _
        rw [take_succ_of hx, gainL_snoc]
      clear hl hx
      generalize gainL (xs.take k) v = g at *
      go_wp2_with (go_at_call 99; refine (compare_any _ _ _).mono ?_; rintro e w' ⟨rfl, rfl⟩)
      go_round
      case rel => exact ⟨k + 1, by omega, by go_num, by rw [HH.out]⟩
      case measure => simp [intOf]; omega
    · go_wp2_with fail
      go_ret
      exact ⟨ret_int (by rw [List.take_of_length_le (by omega)]), rfl⟩
def trendFrom : List Int → List Int → Int
  | _, [] => 0
  | pre, x :: xs => gainL pre x + trendFrom (pre ++ [x]) xs
def trendL (xs : List Int) : Int := trendFrom [] xs
theorem trendFrom_snoc (pre xs : List Int) (x : Int) : trendFrom pre (xs ++ [x]) = trendFrom pre xs + gainL (pre ++ xs) x := by
  induction xs generalizing pre with
  | nil => simp [trendFrom]
  | cons y ys ih => simp only [List.cons_append, trendFrom, ih]; simp [List.append_assoc, Int.add_assoc]
theorem trendL_snoc (xs : List Int) (x : Int) : trendL (xs ++ [x]) = trendL xs + gainL xs x := by simp [trendL, trendFrom_snoc]
theorem trendFrom_bd (pre xs : List Int) : -((xs.length * (pre.length + xs.length) : Nat) : Int) ≤ trendFrom pre xs ∧ trendFrom pre xs ≤ ((xs.length * (pre.length + xs.length) : Nat) : Int) := by
  induction xs generalizing pre with
  | nil => simp [trendFrom]
  | cons y ys ih =>
    have h1 := gainL_bd pre y
    have h2 := ih (pre ++ [y])
    simp only [List.length_append, List.length_cons, List.length_nil] at h2
    simp only [trendFrom, List.length_cons]
    have e : (ys.length + 1) * (pre.length + (ys.length + 1)) = ys.length * (pre.length + (0 + 1) + ys.length) + (pre.length + (ys.length + 1)) := by
      rw [Nat.add_mul, Nat.one_mul]; congr 2; omega
    rw [e]
    generalize ys.length * (pre.length + (0 + 1) + ys.length) = q at *
    omega
theorem trendL_bd {xs : List Int} (h : xs.length ≤ 8) : -64 ≤ trendL xs ∧ trendL xs ≤ 64 := by
  have h1 := trendFrom_bd [] xs
  have h2 : xs.length * (([] : List Int).length + xs.length) ≤ 64 := by
    simp only [List.length_nil, Nat.zero_add]
    exact Nat.le_trans (Nat.mul_le_mul h h) (by omega)
  unfold trendL
  omega
set_option maxHeartbeats 400000 in
theorem trend_any (A : Option Addr) (n c : Nat) (xs : List Int) (w : World) (h : RdI w A n c xs) (hn : n ≤ 8) :
    Calls Try.prog 55 #[.slice A n c] w fun e w' => e = .returned (.int .i64 (trendL xs)) ∧ w = w' := by
  have hm := h.big
  have hnc := h.cap
  have hl := h.len
  have H := Lib.hid h; clear h
  go_enter Try.func55, Try.ntmps55
  go_wp2_with fail
  go_loop [2, 7] (fun s i => ∃ k : Nat, k ≤ n ∧ i = .int .i64 k ∧ s = .int .i64 (trendL (xs.take k))) (fun _ i => n - (intOf i).toNat)
  case atStart => exact ⟨0, Nat.zero_le _, rfl, rfl⟩
  case round =>
    obtain ⟨k, hk, rfl, rfl⟩ := hrel
    have hb := trendL_bd (xs := xs.take k) (by simp; omega)
    by_cases hlt : k < n
    · obtain ⟨b, off, x, rfl, hx, hck⟩ := H.out.at hlt
      have hcb := gainL_bd (xs.take k) x
      have hlk : (xs.take k).length ≤ k := List.length_take_le _ _
      have HC := Lib.hid (gain_any (some ⟨b, off, none⟩) k c (xs.take k) x w (H.out.take k (by omega)))
      have HH : Hid (trendL (xs.take (k+1)) = trendL (xs.take k) + gainL (xs.take k) x) := by
        show _ = _
        rw [take_succ_of hx, trendL_snoc]
      clear hl hx
      generalize trendL (xs.take k) = g at *
      generalize gainL (xs.take k) x = g2 at *
      go_wp2_with (go_at_call 94; refine HC.out.mono ?_; rintro e w' ⟨rfl, rfl⟩)
      go_round
      case rel => exact ⟨k + 1, by omega, by go_num, by rw [HH.out]⟩
      case measure => simp [intOf]; omega
    · go_wp2_with fail
      go_ret
      exact ⟨ret_int (by rw [List.take_of_length_le (by omega)]), rfl⟩
end Go.Proofs.Ytcmjpcmdgnbbpaa
