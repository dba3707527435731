/- The small functions, second part: trends of the reference, lowest terms, equal lists: what each call answers. -/
import Derived.Test.YtcmjpcmdgnbbpaaLow
namespace Go.Proofs.Ytcmjpcmdgnbbpaa
open Go.RowKit

set_option maxHeartbeats 1000000 in
theorem trend_ref (A : Option Addr) (n c : Nat) (xs : List Int) (w : World) (h : RdI w A n c xs) (hn : n ≤ 8) :
    Calls Try.prog 57 #[.slice A n c] w fun e w' => e = .returned (.int .i64 (trendL xs)) ∧ Below w.heap.size w w' := by
  have hm := h.big
  have hl := h.len
  have H := Lib.hid h; clear h
  go_enter Try.func57, Try.ntmps57
  go_wp2_with fail
  go_loopw [3, 4] (fun s i wr => ∃ k : Nat, k ≤ n ∧ i = .int .i64 k ∧ s = .int .i64 (trendL (xs.take k)) ∧ Below w.heap.size w wr) (fun _ i _ => n - (intOf i).toNat)
  case atStart => exact ⟨0, Nat.zero_le _, rfl, rfl, Below.refl _ _⟩
  case round =>
    obtain ⟨k, hk, rfl, rfl, hb⟩ := hrel
    have hbd := trendL_bd (xs := xs.take k) (by simp; omega)
    by_cases hlt : k < n
    · obtain ⟨b, off, x, rfl, hx, hck0⟩ := H.out.at hlt
      have HH : Hid (trendL (xs.take (k+1)) = trendL (xs.take k) + gainL (xs.take k) x) := by
        show _ = _
        rw [take_succ_of hx, trendL_snoc]
      clear hl
      have HX := Lib.hid hx; clear hx
      generalize trendL (xs.take k) = g at *
      go_wp2_with fail
      obtain ⟨wo, rfl⟩ : ∃ wo : World, wo = wr := ⟨_, rfl⟩
      go_loopw [3, 5] (fun s i wi => ∃ j : Nat, j ≤ k ∧ i = .int .i64 j ∧ s = .int .i64 (g + gainL (xs.take j) x) ∧ Below w.heap.size w wi) (fun _ i _ => n - (intOf i).toNat)
      case atStart => exact ⟨0, Nat.zero_le _, rfl, by simp [gainL], hb⟩
      case round =>
        obtain ⟨j, hj, rfl, rfl, hbi⟩ := hrel
        have hgb : -8 ≤ gainL (xs.take j) x ∧ gainL (xs.take j) x ≤ 8 := by
          have h1 := gainL_bd (xs.take j) x
          have h2 : (xs.take j).length ≤ j := List.length_take_le _ _
          omega
        by_cases hjt : j < k
        · obtain ⟨_, _, y, hA, hy, hcj0⟩ := H.out.at (show j < n by omega)
          cases hA
          have hck := cell_below hbi hck0
          have hcj := cell_below hbi hcj0
          have HI : Hid (gainL (xs.take (j+1)) x = gainL (xs.take j) x + cmpI x y) := by
            show _ = _
            rw [take_succ_of hy, gainL_snoc]
          have HC : Hid (cmpI x y = if x < y then -1 else if x > y then 1 else 0) := (show _ = _ from rfl)
          clear hck0 hcj0 hy
          generalize gainL (xs.take j) x = g2 at *
          generalize cmpI x y = cc at *
          have h3 : (y < x ∧ ¬ x < y ∧ Hid (cc = 1)) ∨ (¬ y < x ∧ ¬ x < y ∧ Hid (cc = 0)) ∨ (¬ y < x ∧ x < y ∧ Hid (cc = -1)) := by
            unfold Hid; have := HC.out; split at this <;> (try split at this) <;> omega
          rcases h3 with ⟨h1, h2, h3⟩ | ⟨h1, h2, h3⟩ | ⟨h1, h2, h3⟩
          all_goals
            go_wp2_with fail
            go_quiet (fail)
            go_wp2_with fail
            go_quiet (fail)
            go_wp2_with fail
            go_roundw
            case rel => exact ⟨j + 1, by omega, by go_num, by first | (rw [HI.out, h3.out]; go_num; done) | (rw [HI.out, h3.out]; simp; done) | (rw [HI.out, h3.out]; simp; omega), below_drewN hbi _⟩
            case measure => simp [intOf]; omega
        · obtain rfl : j = k := by omega
          go_wp2_with fail
          go_roundw
          case rel => exact ⟨j + 1, by omega, by go_num, by rw [HH.out], hbi⟩
          case measure => simp [intOf]; omega
    · go_wp2_with fail
      go_ret
      exact ⟨ret_int (by rw [List.take_of_length_le (by omega)]), hb⟩
theorem below_a1d (w : World) (o : Obj) (n : Nat) : Below w.heap.size w ((w.alloc o).drewN n) := below_drewN (below_a1 w o) n
theorem w64 (a : Int) (h1 : -9223372036854775808 ≤ a) (h2 : a ≤ 9223372036854775807) : wrap64 a = a := by unfold wrap64; omega
theorem w64_div (a b : Nat) (h : a ≤ 4611686018427387904) : wrap64 ((a : Int) / (b : Int)) = (a : Int) / (b : Int) := by
  have h1 : (a : Int) / (b : Int) ≤ a := Int.ediv_le_self _ (by omega)
  have h2 : 0 ≤ (a : Int) / (b : Int) := Int.ediv_nonneg (by omega) (by omega)
  exact w64 _ (by omega) (by omega)
theorem gcd_step {p q G : Nat} (h : Nat.gcd p q = G) : Nat.gcd q (p % q) = G := by rw [Nat.gcd_comm, ← Nat.gcd_rec, Nat.gcd_comm]; exact h
def lowN (num den : Int) : Int := num.tdiv (Int.gcd num den)
def lowD (num den : Int) : Int := den.tdiv (Int.gcd num den)
set_option maxHeartbeats 1000000 in
theorem lowest_pos (p d : Nat) (w : World) (h2 : p ≤ 4611686018427387904) (h3 : 0 < d) (h4 : d ≤ 4611686018427387904) :
    Calls Try.prog 59 #[.agg #[.int .i64 p, .int .i64 d]] w fun e w' => e = .returned (.tuple #[.int .i64 (lowN p d), .int .i64 (lowD p d)]) ∧ Below w.heap.size w w' := by
  obtain ⟨G, hG⟩ : ∃ G, Nat.gcd p d = G := ⟨_, rfl⟩
  have hG0 : 0 < G := by rw [← hG]; exact Nat.gcd_pos_of_pos_right _ h3
  have HG := Lib.hid hG; clear hG
  have h5 : ¬ ((p : Int) < -(p : Int)) := by omega
  have HN : Hid (lowN p d = (p : Int) / G) := by show _ = _; unfold lowN; rw [show Int.gcd p d = G from HG.out]; exact Int.tdiv_eq_ediv_of_nonneg (by omega)
  have HD : Hid (lowD p d = (d : Int) / G) := by show _ = _; unfold lowD; rw [show Int.gcd p d = G from HG.out]; exact Int.tdiv_eq_ediv_of_nonneg (by omega)
  go_enter Try.func59, Try.ntmps59
  go_wp2_with fail
  go_quiet (fail)
  go_wp2_with fail
  go_loopw [4, 5] (fun a b wr => ∃ x y : Nat, a = .int .i64 x ∧ b = .int .i64 y ∧ x ≤ 4611686018427387904 ∧ y ≤ 4611686018427387904 ∧ Hid (Nat.gcd x y = G) ∧ ∃ nq, wr = (w.alloc (Obj.cells #[Value.int IntKind.i64 p, Value.int IntKind.i64 d] 80)).drewN nq) (fun _ b _ => (intOf b).toNat)
  case atStart => exact ⟨p, d, rfl, rfl, h2, h4, HG, _, rfl⟩
  case round =>
    obtain ⟨x, y, rfl, rfl, hx, hy, HI, nq, rfl⟩ := hrel
    by_cases hlt : 0 < y
    · have hm : x % y < y := Nat.mod_lt _ hlt
      go_wp2_with fail
      go_quiet (fail)
      go_wp2_with fail
      go_roundw
      case rel => exact ⟨y, x % y, rfl, by simp, hy, by omega, gcd_step HI.out, _, World.drewN_drewN ..⟩
      case measure => simp [intOf]; omega
    · obtain rfl : y = 0 := by omega
      obtain rfl : x = G := by have := HI.out; simpa using this
      go_wp2_with fail
      go_quiet (fail)
      go_wp2_with fail
      go_ret2
      exact ⟨by rw [HN.out, HD.out]; simp [w64_div _ _ h2, w64_div _ _ h4], by first | exact below_a1d _ _ _ | exact below_drewN (below_a1d _ _ _) _⟩
set_option maxHeartbeats 1000000 in
theorem lowest_neg (p d : Nat) (w : World) (h0 : 0 < p) (h2 : p ≤ 4611686018427387904) (h3 : 0 < d) (h4 : d ≤ 4611686018427387904) :
    Calls Try.prog 59 #[.agg #[.int .i64 (-(p : Int)), .int .i64 d]] w fun e w' => e = .returned (.tuple #[.int .i64 (lowN (-(p : Int)) d), .int .i64 (lowD (-(p : Int)) d)]) ∧ Below w.heap.size w w' := by
  obtain ⟨G, hG⟩ : ∃ G, Nat.gcd p d = G := ⟨_, rfl⟩
  have hG0 : 0 < G := by rw [← hG]; exact Nat.gcd_pos_of_pos_right _ h3
  have HG := Lib.hid hG; clear hG
  have h5 : (-(p : Int)) < (p : Int) := by omega
  have HN : Hid (lowN (-(p : Int)) d = (-(p : Int)).tdiv G) := by show _ = _; unfold lowN; rw [show Int.gcd (-(p : Int)) d = G by rw [Int.neg_gcd]; exact HG.out]
  have HD : Hid (lowD (-(p : Int)) d = (d : Int) / G) := by show _ = _; unfold lowD; rw [show Int.gcd (-(p : Int)) d = G by rw [Int.neg_gcd]; exact HG.out]; exact Int.tdiv_eq_ediv_of_nonneg (by omega)
  have HB : Hid (wrap64 (-((p : Int) / G)) = -((p : Int) / G)) := by
    show _ = _
    have h1 : (p : Int) / (G : Int) ≤ p := Int.ediv_le_self _ (by omega)
    have h2 : 0 ≤ (p : Int) / (G : Int) := Int.ediv_nonneg (by omega) (by omega)
    exact w64 _ (by omega) (by omega)
  go_enter Try.func59, Try.ntmps59
  go_wp2_with fail
  go_quiet (fail)
  go_wp2_with fail
  go_loopw [4, 5] (fun a b wr => ∃ x y : Nat, a = .int .i64 x ∧ b = .int .i64 y ∧ x ≤ 4611686018427387904 ∧ y ≤ 4611686018427387904 ∧ Hid (Nat.gcd x y = G) ∧ ∃ nq, wr = (w.alloc (Obj.cells #[Value.int IntKind.i64 (-(p : Int)), Value.int IntKind.i64 d] 80)).drewN nq) (fun _ b _ => (intOf b).toNat)
  case atStart => exact ⟨p, d, rfl, rfl, h2, h4, HG, _, rfl⟩
  case round =>
    obtain ⟨x, y, rfl, rfl, hx, hy, HI, nq, rfl⟩ := hrel
    by_cases hlt : 0 < y
    · have hm : x % y < y := Nat.mod_lt _ hlt
      go_wp2_with fail
      go_quiet (fail)
      go_wp2_with fail
      go_roundw
      case rel => exact ⟨y, x % y, rfl, by simp, hy, by omega, gcd_step HI.out, _, World.drewN_drewN ..⟩
      case measure => simp [intOf]; omega
    · obtain rfl : y = 0 := by omega
      obtain rfl : x = G := by have := HI.out; simpa using this
      go_wp2_with fail
      go_quiet (fail)
      go_wp2_with fail
      go_ret2
      exact ⟨by rw [HN.out, HD.out]; simp [HB.out, w64_div _ _ h4], by first | exact below_a1d _ _ _ | exact below_drewN (below_a1d _ _ _) _⟩
set_option maxHeartbeats 1000000 in
theorem lowestr_pos (p d : Nat) (w : World) (h2 : p ≤ 4611686018427387904) (h3 : 0 < d) (h4 : d ≤ 4611686018427387904) :
    Calls Try.prog 60 #[.int .i64 p, .int .i64 d] w fun e w' => e = .returned (.tuple #[.int .i64 (lowN p d), .int .i64 (lowD p d)]) ∧ Below w.heap.size w w' := by
  obtain ⟨G, hG⟩ : ∃ G, Nat.gcd p d = G := ⟨_, rfl⟩
  have hG0 : 0 < G := by rw [← hG]; exact Nat.gcd_pos_of_pos_right _ h3
  have HG := Lib.hid hG; clear hG
  have h5 : ¬ ((p : Int) < -(p : Int)) := by omega
  have HN : Hid (lowN p d = (p : Int) / G) := by show _ = _; unfold lowN; rw [show Int.gcd p d = G from HG.out]; exact Int.tdiv_eq_ediv_of_nonneg (by omega)
  have HD : Hid (lowD p d = (d : Int) / G) := by show _ = _; unfold lowD; rw [show Int.gcd p d = G from HG.out]; exact Int.tdiv_eq_ediv_of_nonneg (by omega)
  go_enter Try.func60, Try.ntmps60
  go_wp2_with fail
  go_loopw [6, 7] (fun a b wr => ∃ x y : Nat, a = .int .i64 x ∧ b = .int .i64 y ∧ x ≤ 4611686018427387904 ∧ y ≤ 4611686018427387904 ∧ Hid (Nat.gcd x y = G) ∧ wr = w) (fun _ b _ => (intOf b).toNat)
  case atStart => exact ⟨p, d, rfl, rfl, h2, h4, HG, rfl⟩
  case round =>
    obtain ⟨x, y, rfl, rfl, hx, hy, HI, rfl⟩ := hrel
    by_cases hlt : 0 < y
    · have hm : x % y < y := Nat.mod_lt _ hlt
      go_wp2_with fail
      go_roundw
      case rel => exact ⟨y, x % y, rfl, by simp, hy, by omega, gcd_step HI.out, by first | rfl | trivial⟩
      case measure => simp [intOf]; omega
    · obtain rfl : y = 0 := by omega
      obtain rfl : x = G := by have := HI.out; simpa using this
      go_wp2_with fail
      go_quiet (fail)
      go_wp2_with fail
      go_ret2
      exact ⟨by rw [HN.out, HD.out]; simp [w64_div _ _ h2, w64_div _ _ h4], below_drewN (Below.refl _ _) _⟩
set_option maxHeartbeats 1000000 in
theorem lowestr_neg (p d : Nat) (w : World) (h0 : 0 < p) (h2 : p ≤ 4611686018427387904) (h3 : 0 < d) (h4 : d ≤ 4611686018427387904) :
    Calls Try.prog 60 #[.int .i64 (-(p : Int)), .int .i64 d] w fun e w' => e = .returned (.tuple #[.int .i64 (lowN (-(p : Int)) d), .int .i64 (lowD (-(p : Int)) d)]) ∧ Below w.heap.size w w' := by
  obtain ⟨G, hG⟩ : ∃ G, Nat.gcd p d = G := ⟨_, rfl⟩
  have hG0 : 0 < G := by rw [← hG]; exact Nat.gcd_pos_of_pos_right _ h3
  have HG := Lib.hid hG; clear hG
  have h5 : (-(p : Int)) < (p : Int) := by omega
  have HN : Hid (lowN (-(p : Int)) d = (-(p : Int)).tdiv G) := by show _ = _; unfold lowN; rw [show Int.gcd (-(p : Int)) d = G by rw [Int.neg_gcd]; exact HG.out]
  have HD : Hid (lowD (-(p : Int)) d = (d : Int) / G) := by show _ = _; unfold lowD; rw [show Int.gcd (-(p : Int)) d = G by rw [Int.neg_gcd]; exact HG.out]; exact Int.tdiv_eq_ediv_of_nonneg (by omega)
  have HB : Hid (wrap64 (-((p : Int) / G)) = -((p : Int) / G)) := by
    show _ = _
    have h1 : (p : Int) / (G : Int) ≤ p := Int.ediv_le_self _ (by omega)
    have h2 : 0 ≤ (p : Int) / (G : Int) := Int.ediv_nonneg (by omega) (by omega)
    exact w64 _ (by omega) (by omega)
  go_enter Try.func60, Try.ntmps60
  go_wp2_with fail
  go_loopw [6, 7] (fun a b wr => ∃ x y : Nat, a = .int .i64 x ∧ b = .int .i64 y ∧ x ≤ 4611686018427387904 ∧ y ≤ 4611686018427387904 ∧ Hid (Nat.gcd x y = G) ∧ wr = w) (fun _ b _ => (intOf b).toNat)
  case atStart => exact ⟨p, d, rfl, rfl, h2, h4, HG, rfl⟩
  case round =>
    obtain ⟨x, y, rfl, rfl, hx, hy, HI, rfl⟩ := hrel
    by_cases hlt : 0 < y
    · have hm : x % y < y := Nat.mod_lt _ hlt
      go_wp2_with fail
      go_roundw
      case rel => exact ⟨y, x % y, rfl, by simp, hy, by omega, gcd_step HI.out, by first | rfl | trivial⟩
      case measure => simp [intOf]; omega
    · obtain rfl : y = 0 := by omega
      obtain rfl : x = G := by have := HI.out; simpa using this
      go_wp2_with fail
      go_quiet (fail)
      go_wp2_with fail
      go_ret2
      exact ⟨by rw [HN.out, HD.out]; simp [HB.out, w64_div _ _ h4], below_drewN (Below.refl _ _) _⟩

theorem lowest_any (num den : Int) (w : World) (h1 : -4611686018427387904 ≤ num) (h2 : num ≤ 4611686018427387904) (h3 : 0 < den) (h4 : den ≤ 4611686018427387904) :
    Calls Try.prog 59 #[.agg #[.int .i64 num, .int .i64 den]] w fun e w' => e = .returned (.tuple #[.int .i64 (lowN num den), .int .i64 (lowD num den)]) ∧ Below w.heap.size w w' := by
  obtain ⟨d, rfl⟩ := Int.eq_ofNat_of_zero_le (show 0 ≤ den by omega)
  by_cases h : 0 ≤ num
  · obtain ⟨p, rfl⟩ := Int.eq_ofNat_of_zero_le h
    exact lowest_pos p d w (by omega) (by omega) (by omega)
  · obtain ⟨p, rfl⟩ : ∃ p : Nat, num = -(p : Int) := ⟨num.natAbs, by omega⟩
    exact lowest_neg p d w (by omega) (by omega) (by omega) (by omega)
theorem lowest_ref (num den : Int) (w : World) (h1 : -4611686018427387904 ≤ num) (h2 : num ≤ 4611686018427387904) (h3 : 0 < den) (h4 : den ≤ 4611686018427387904) :
    Calls Try.prog 60 #[.int .i64 num, .int .i64 den] w fun e w' => e = .returned (.tuple #[.int .i64 (lowN num den), .int .i64 (lowD num den)]) ∧ Below w.heap.size w w' := by
  obtain ⟨d, rfl⟩ := Int.eq_ofNat_of_zero_le (show 0 ≤ den by omega)
  by_cases h : 0 ≤ num
  · obtain ⟨p, rfl⟩ := Int.eq_ofNat_of_zero_le h
    exact lowestr_pos p d w (by omega) (by omega) (by omega)
  · obtain ⟨p, rfl⟩ : ∃ p : Nat, num = -(p : Int) := ⟨num.natAbs, by omega⟩
    exact lowestr_neg p d w (by omega) (by omega) (by omega) (by omega)

/-- comparing two fractions whose products are numbers -/
theorem fcompare_any (a b c d : Int) (w : World) (h1 : -9223372036854775808 ≤ a * d ∧ a * d ≤ 9223372036854775807) (h2 : -9223372036854775808 ≤ c * b ∧ c * b ≤ 9223372036854775807) :
    Calls Try.prog 65 #[.agg #[.int .i64 a, .int .i64 b], .agg #[.int .i64 c, .int .i64 d]] w fun e w' => e = .returned (.int .i64 (cmpI (a * d) (c * b))) ∧ Below w.heap.size w w' := by
  have e1 : wrap64 (a * d) = a * d := w64 _ h1.1 h1.2
  have e2 : wrap64 (c * b) = c * b := w64 _ h2.1 h2.2
  clear h1 h2
  go_enter Try.func65, Try.ntmps65
  go_wp2_with (go_at_call 99; refine (compare_any _ _ _).mono ?_; rintro e w' ⟨rfl, rfl⟩)
  go_ret
  exact ⟨ret_int rfl, below_a2 _ _ _⟩

def sameB (xs ys : List Int) : Bool := decide (xs = ys)
set_option maxHeartbeats 1000000 in
theorem sameInts_any (A B : Option Addr) (n c m d : Nat) (xs ys : List Int) (w : World) (h : RdI w A n c xs) (h' : RdI w B m d ys) :
    Calls Try.prog 31 #[.slice A n c, .slice B m d] w fun e w' => e = .returned (.bool (sameB xs ys)) ∧ Below w.heap.size w w' := by
  have hm := h.size
  have hm' := h'.size
  have H := Lib.hid h; clear h
  have H' := Lib.hid h'; clear h'
  by_cases hnm : n = m
  · obtain rfl : n = m := hnm
    have t1 : ((n : Int) != (n : Int)) = false := by simp
    go_enter Try.func31, Try.ntmps31
    go_wp2_with fail
    go_loopw [5] (fun i wr => ∃ k : Nat, k ≤ n ∧ i = .int .i64 k ∧ Below w.heap.size w wr ∧ Hid (xs.take k = ys.take k)) (fun i _ => n - (intOf i).toNat)
    case atStart => exact ⟨0, Nat.zero_le _, rfl, Below.refl _ _, (show _ = _ by simp)⟩
    case round =>
      obtain ⟨k, hk, rfl, hb, HI⟩ := hrel
      by_cases hlt : k < n
      · obtain ⟨b, off, x, rfl, hx, hcx0⟩ := H.out.at hlt
        obtain ⟨b', off', y, rfl, hy, hcy0⟩ := H'.out.at hlt
        have hcx := cell_below hb hcx0
        have hcy := cell_below hb hcy0
        clear hcx0 hcy0
        have HX := Lib.hid hx; clear hx
        have HY := Lib.hid hy; clear hy
        by_cases hxy : x = y
        · obtain rfl : x = y := hxy
          have t2 : (x != x) = false := by simp
          go_wp2_with fail
          go_quiet (fail)
          go_wp2_with fail
          go_roundw
          case rel => exact ⟨k + 1, by omega, by go_num, below_drewN hb _, (show _ = _ by rw [take_succ_of HX.out, take_succ_of HY.out, HI.out])⟩
          case measure => simp [intOf]; omega
        · have t2 : (x != y) = true := by simp [hxy]
          have HN := Lib.hid hxy; clear hxy
          go_wp2_with fail
          go_quiet (fail)
          go_wp2_with fail
          go_ret
          refine ⟨ret_bool ?_, below_drewN hb _⟩
          symm
          simp only [sameB, decide_eq_false_iff_not]
          intro e; subst e
          have := HX.out.symm.trans HY.out
          exact HN.out (Option.some.inj this)
      · obtain rfl : k = n := by omega
        go_wp2_with fail
        go_ret
        refine ⟨ret_bool ?_, hb⟩
        symm
        simp only [sameB, decide_eq_true_eq]
        have := HI.out
        rwa [List.take_of_length_le (by have := H.out.len; omega), List.take_of_length_le (by have := H'.out.len; omega)] at this
  · have t1 : ((n : Int) != (m : Int)) = true := by simp; omega
    have HN := Lib.hid hnm; clear hnm
    go_enter Try.func31, Try.ntmps31
    go_wp2_with fail
    go_ret
    refine ⟨ret_bool ?_, Below.refl _ _⟩
    symm
    simp only [sameB, decide_eq_false_iff_not]
    intro e; subst e
    exact HN.out (H.out.len.symm.trans H'.out.len)

def valuedB (xs : List Int) : Bool := decide (1 ≤ xs.length) && decide (xs.length ≤ 8) && allB xs (-1000000) 1000000
theorem valued_any (A : Option Addr) (n c : Nat) (xs : List Int) (w : World) (h : RdI w A n c xs) :
    Calls Try.prog 54 #[.slice A n c] w fun e w' => e = .returned (.bool (valuedB xs)) ∧ Below w.heap.size w w' := by
  have hm := h.size
  have HC := Lib.hid (all_any A n c xs (-1000000) 1000000 w h)
  have HV : Hid (valuedB xs = (withinB n 1 8 && allB xs (-1000000) 1000000)) := by
    show _ = _
    unfold valuedB withinB; rw [h.len]
    congr 2 <;> simp <;> omega
  clear h
  generalize allB xs (-1000000) 1000000 = r at *
  cases hw : withinB n 1 8
  all_goals
    have HW := Lib.hid hw; clear hw
    go_enter Try.func54, Try.ntmps54
    go_wp2_with (first | (go_at_call 62; refine (within_any _ _ _ _).mono ?_; rw [HW.out]; rintro e w' ⟨rfl, rfl⟩) | (go_at_call 64; refine HC.out.mono ?_; rintro e w' ⟨rfl, hb'⟩))
    go_ret
    exact ⟨ret_bool (by rw [HV.out, HW.out]; rfl), by first | exact hb' | exact Below.refl _ _⟩
end Go.Proofs.Ytcmjpcmdgnbbpaa
