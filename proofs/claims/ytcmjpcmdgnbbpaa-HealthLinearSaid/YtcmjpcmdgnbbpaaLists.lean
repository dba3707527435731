/- Comparing lists of numbers, the first number that is not 0, the members of a set, whether a list has a number: what each call answers. -/
import Derived.Test.YtcmjpcmdgnbbpaaOrders
namespace Go.Proofs.Ytcmjpcmdgnbbpaa
open Go.RowKit

def cmpL : List Int → List Int → Int
  | [], [] => 0
  | [], _ :: _ => -1
  | _ :: _, [] => 1
  | x :: xs, y :: ys => if cmpI x y = 0 then cmpL xs ys else cmpI x y
theorem cmpL_bd (xs ys : List Int) : -1 ≤ cmpL xs ys ∧ cmpL xs ys ≤ 1 := by
  induction xs generalizing ys with
  | nil => cases ys <;> simp [cmpL]
  | cons x xs ih => cases ys with
    | nil => simp [cmpL]
    | cons y ys => simp only [cmpL]; split; exact ih ys; exact cmpI_bd x y
set_option maxHeartbeats 1000000 in
theorem compareL_any (A B : Option Addr) (n c m d : Nat) (xs ys : List Int) (w : World) (h : RdI w A n c xs) (h' : RdI w B m d ys) :
    Calls Try.prog 73 #[.slice A n c, .slice B m d] w fun e w' => e = .returned (.int .i64 (cmpL xs ys)) ∧ w = w' := by
  have hm := h.size
  have hm' := h'.size
  have H := Lib.hid h; clear h
  have H' := Lib.hid h'; clear h'
  go_enter Try.func73, Try.ntmps73
  go_wp2_with fail
  go_loop [11] (fun i => ∃ k : Nat, k ≤ n ∧ k ≤ m ∧ i = .int .i64 k ∧ Hid (cmpL xs ys = cmpL (xs.drop k) (ys.drop k))) (fun i => n - (intOf i).toNat)
  case atStart => exact ⟨0, Nat.zero_le _, Nat.zero_le _, rfl, (show _ = _ by simp)⟩
  case round =>
    obtain ⟨k, hk, hk', rfl, HI⟩ := hrel
    by_cases hlt : k < n
    · obtain ⟨b, off, x, rfl, hx, hcx⟩ := H.out.at hlt
      have HX := Lib.hid hx; clear hx
      by_cases hlt' : k < m
      · obtain ⟨b', off', y, rfl, hy, hcy⟩ := H'.out.at hlt'
        have HY := Lib.hid hy; clear hy
        have E : Hid (cmpL xs ys = if cmpI x y = 0 then cmpL (xs.drop (k + 1)) (ys.drop (k + 1)) else cmpI x y) := (show _ = _ by rw [HI.out, drop_of HX.out, drop_of HY.out, cmpL])
        have hbd := cmpI_bd x y
        have HC := Lib.hid (compare_any x y)
        generalize cmpI x y = cc at *
        by_cases hz : cc = 0
        · subst hz
          rw [if_pos rfl] at E
          go_wp2_with (go_at_call 99; refine (HC.out _).mono ?_; rintro e w' ⟨rfl, rfl⟩)
          go_round
          case rel => exact ⟨k + 1, by omega, by omega, by go_num, E⟩
          case measure => simp [intOf]; omega
        · rw [if_neg hz] at E
          have t1 : (cc != 0) = true := by simp [hz]
          clear hz
          go_wp2_with (go_at_call 99; refine (HC.out _).mono ?_; rintro e w' ⟨rfl, rfl⟩)
          go_ret
          exact ⟨ret_int (by rw [E.out]), rfl⟩
      · go_wp2_with fail
        go_ret
        refine ⟨ret_int ?_, rfl⟩
        rw [HI.out, drop_of HX.out, List.drop_eq_nil_of_le (show ys.length ≤ k by have := H'.out.len; omega)]; rfl
    · have e1 : xs.drop k = [] := List.drop_eq_nil_of_le (by have := H.out.len; omega)
      have E1 := Lib.hid e1; clear e1
      by_cases hlt' : k < m
      · obtain ⟨b', off', y, rfl, hy, hcy⟩ := H'.out.at hlt'
        have HY := Lib.hid hy; clear hy
        have t1 : n < m := by omega
        go_wp2_with fail
        go_ret
        refine ⟨ret_int ?_, rfl⟩
        rw [HI.out, E1.out, drop_of HY.out]; rfl
      · have t1 : ¬ n < m := by omega
        go_wp2_with fail
        go_ret
        refine ⟨ret_int ?_, rfl⟩
        rw [HI.out, E1.out, List.drop_eq_nil_of_le (show ys.length ≤ k by have := H'.out.len; omega)]; rfl

def orL : List Int → Int
  | [] => 0
  | x :: xs => if x = 0 then orL xs else x
set_option maxHeartbeats 1000000 in
theorem or_any (A : Option Addr) (n c : Nat) (xs : List Int) (w : World) (h : RdI w A n c xs) :
    Calls Try.prog 72 #[.slice A n c] w fun e w' => e = .returned (.int .i64 (orL xs)) ∧ w = w' := by
  have hm := h.size
  have H := Lib.hid h; clear h
  go_enter Try.func72, Try.ntmps72
  go_wp2_with fail
  go_loop [8] (fun i => ∃ k : Nat, k ≤ n ∧ i = .int .i64 k ∧ Hid (orL xs = orL (xs.drop k))) (fun i => n - (intOf i).toNat)
  case atStart => exact ⟨0, Nat.zero_le _, rfl, (show _ = _ by simp)⟩
  case round =>
    obtain ⟨k, hk, rfl, HI⟩ := hrel
    by_cases hlt : k < n
    · obtain ⟨b, off, x, rfl, hx, hcx⟩ := H.out.at hlt
      have E : Hid (orL xs = if x = 0 then orL (xs.drop (k + 1)) else x) := (show _ = _ by rw [HI.out, drop_of hx, orL])
      clear hx
      by_cases hz : x = 0
      · subst hz
        rw [if_pos rfl] at E
        go_wp2_with fail
        go_round
        case rel => exact ⟨k + 1, by omega, by go_num, E⟩
        case measure => simp [intOf]; omega
      · rw [if_neg hz] at E
        have t1 : (x != 0) = true := by simp [hz]
        clear hz
        go_wp2_with fail
        go_ret
        exact ⟨ret_int (by rw [E.out]), rfl⟩
    · go_wp2_with fail
      go_ret
      refine ⟨ret_int ?_, rfl⟩
      rw [HI.out, List.drop_eq_nil_of_le (by have := H.out.len; omega)]; rfl

def hasB (xs : List Int) (x : Int) : Bool := xs.any fun y => y == x
set_option maxHeartbeats 1000000 in
theorem has_ref (A : Option Addr) (n c : Nat) (xs : List Int) (v : Int) (w : World) (h : RdI w A n c xs) :
    Calls Try.prog 88 #[.slice A n c, .int .i64 v] w fun e w' => e = .returned (.bool (hasB xs v)) ∧ w = w' := by
  have hm := h.size
  have H := Lib.hid h; clear h
  go_enter Try.func88, Try.ntmps88
  go_wp2_with fail
  go_loop [5] (fun i => ∃ k : Nat, k ≤ n ∧ i = .int .i64 k ∧ Hid (hasB xs v = hasB (xs.drop k) v)) (fun i => n - (intOf i).toNat)
  case atStart => exact ⟨0, Nat.zero_le _, rfl, (show _ = _ by simp)⟩
  case round =>
    obtain ⟨k, hk, rfl, HI⟩ := hrel
    by_cases hlt : k < n
    · obtain ⟨b, off, x, rfl, hx, hcx⟩ := H.out.at hlt
      have E : Hid (hasB xs v = (x == v || hasB (xs.drop (k + 1)) v)) := (show _ = _ by rw [HI.out, drop_of hx, hasB]; rfl)
      clear hx
      cases hz : (x == v) with
      | false =>
        rw [hz] at E
        go_wp2_with fail
        go_round
        case rel => exact ⟨k + 1, by omega, by go_num, (show _ = _ by rw [E.out]; rfl)⟩
        case measure => simp [intOf]; omega
      | true =>
        rw [hz] at E
        go_wp2_with fail
        go_ret
        exact ⟨ret_bool (by rw [E.out]; rfl), rfl⟩
    · go_wp2_with fail
      go_ret
      refine ⟨ret_bool ?_, rfl⟩
      rw [HI.out, List.drop_eq_nil_of_le (by have := H.out.len; omega)]; rfl

theorem ofInt_toNat64 (a : Nat) (h : a < 4611686018427387904) : (BitVec.ofInt 64 (a : Int)).toNat = a := by
  rw [BitVec.toNat_ofInt]; omega
theorem bits_and_nat (a b : Nat) (ha : a < 4611686018427387904) (hb : b < 4611686018427387904) : bits BinOp.and IntKind.i64 (a : Int) (b : Int) = ((a &&& b : Nat) : Int) := by
  have h : (BitVec.ofInt 64 (a : Int) &&& BitVec.ofInt 64 (b : Int)).toNat = a &&& b := by
    rw [BitVec.toNat_and, ofInt_toNat64 a ha, ofInt_toNat64 b hb]
  have h2 : a &&& b ≤ a := Nat.and_le_left
  show IntKind.i64.wrap (((BitVec.ofInt 64 (a : Int) &&& BitVec.ofInt 64 (b : Int)).toNat : Nat) : Int) = _
  rw [h, IntKind.wrap_i64]; omega
theorem bits_or_nat (a b : Nat) (ha : a < 4611686018427387904) (hb : b < 4611686018427387904) : bits BinOp.or IntKind.i64 (a : Int) (b : Int) = ((a ||| b : Nat) : Int) := by
  have h : (BitVec.ofInt 64 (a : Int) ||| BitVec.ofInt 64 (b : Int)).toNat = a ||| b := by
    rw [BitVec.toNat_or, ofInt_toNat64 a ha, ofInt_toNat64 b hb]
  have h2 : a ||| b < 2 ^ 62 := Nat.or_lt_two_pow (by omega) (by omega)
  show IntKind.i64.wrap (((BitVec.ofInt 64 (a : Int) ||| BitVec.ofInt 64 (b : Int)).toNat : Nat) : Int) = _
  rw [h, IntKind.wrap_i64]; omega
theorem bits_and_one (q : Nat) (h : q < 4611686018427387904) : bits BinOp.and IntKind.i64 (q : Int) 1 = ((q % 2 : Nat) : Int) := by
  have := bits_and_nat q 1 h (by omega)
  rw [Nat.and_one_is_mod] at this
  exact this
theorem bit_eq (s k : Nat) : (s / 2 ^ k) % 2 = if s.testBit k then 1 else 0 := by
  rw [Nat.testBit_eq_decide_div_mod_eq]
  by_cases h : s / 2 ^ k % 2 = 1
  · simp [h]
  · simp [h]; omega

/-- the numbers of a set's bits -/
def mem (s : Nat) : List Int := ((List.range 16).filter fun i => s.testBit i).map fun i : Nat => (i : Int)
def memTo (s k : Nat) : List Int := ((List.range k).filter fun i => s.testBit i).map fun i : Nat => (i : Int)
theorem memTo_succ (s k : Nat) : memTo s (k + 1) = memTo s k ++ if s.testBit k then [(k : Int)] else [] := by
  unfold memTo
  rw [List.range_succ, List.filter_append, List.map_append]
  cases h : s.testBit k <;> simp [h]
theorem memTo_len (s k : Nat) : (memTo s k).length ≤ k := by
  unfold memTo
  have h := List.length_filter_le (fun i => s.testBit i) (List.range k)
  simp at h ⊢
  exact h
theorem testBit_high {s k : Nat} (h : s / 2 ^ k = 0) (j : Nat) (hj : k ≤ j) : s.testBit j = false := by
  have h1 : s < 2 ^ k := by
    rcases Nat.div_eq_zero_iff.1 h with h | h
    · have := Nat.two_pow_pos k; omega
    · exact h
  exact Nat.testBit_lt_two_pow (Nat.lt_of_lt_of_le h1 (Nat.pow_le_pow_right (by omega) hj))
theorem memTo_end {s k : Nat} (hk : k ≤ 16) (h : s / 2 ^ k = 0) : memTo s k = mem s := by
  obtain ⟨d, hd⟩ : ∃ d, 16 = k + d := ⟨16 - k, by omega⟩
  unfold memTo mem
  rw [hd, List.range_add, List.filter_append, List.map_append]
  have : List.filter (fun i => s.testBit i) (List.map (k + ·) (List.range d)) = [] := by
    rw [List.filter_eq_nil_iff]
    intro j hj
    obtain ⟨i, _, rfl⟩ := List.mem_map.1 hj
    simp [testBit_high h (k + i) (by omega)]
  rw [this]; simp
/-- where a slice lies, only numbers lie -/
def In3 (w : World) (A : Option Addr) : Prop := ∀ b off s, A = some ⟨b, off, s⟩ → ∃ cur z, w.heap[b]? = some (.cells cur 3 z)
theorem In3.below {w w1 : World} {A : Option Addr} (h : In3 w A) (hb : Below w.heap.size w w1) : In3 w1 A := fun b off s e => by
  obtain ⟨cur, z, hc⟩ := h b off s e
  exact ⟨cur, z, (hb.block b (Array.getElem?_eq_some_iff.1 hc).1).trans hc⟩
theorem own_in3 {w : World} {base n size : Nat} {A : Option Addr} {c : Nat} {xs : List Value} (h : w.ownsRow base 3 size (.slice A n c) n xs) : In3 w A := fun b off s e => by
  rcases h.2 with ⟨h1, _⟩ | ⟨g, cap, cur, hv, hb, hg, _⟩
  · cases h1; cases e
  · cases hv; cases e
    exact ⟨cur, _, hg⟩
/-- this slice lies in a block from B on -/
def Fr (B : Nat) (A : Option Addr) : Prop := ∀ b off s, A = some ⟨b, off, s⟩ → B ≤ b
structure RdM (B : Nat) (w : World) (A : Option Addr) (n c : Nat) (xs : List Int) : Prop where
  rd : RdI w A n c xs
  in3 : In3 w A
  fr : Fr B A
theorem RdM.lower {B B' : Nat} {w : World} {A : Option Addr} {n c : Nat} {xs : List Int} (h : RdM B w A n c xs) (hb : B' ≤ B) : RdM B' w A n c xs := ⟨h.rd, h.in3, fun b off s e => Nat.le_trans hb (h.fr b off s e)⟩
theorem RdM.below {B : Nat} {w w1 : World} {A : Option Addr} {n c : Nat} {xs : List Int} (h : RdM B w A n c xs) (hb : Below w.heap.size w w1) : RdM B w1 A n c xs := ⟨h.rd.below hb, h.in3.below hb, h.fr⟩
/-- Another row is written. -/
theorem RdM.grown {B : Nat} {w w1 : World} {A : Option Addr} {n c g : Nat} {xs : List Int} {cur : Array Value} {t : TypeId} {z : Nat × Nat} (h : RdM B w A n c xs) (hg : w.grownBy w1 (some g)) (hh : w.heap[g]? = some (.cells cur t z)) (ht : t ≠ 3) : RdM B w1 A n c xs := by
  have hne : ∀ b off s, A = some ⟨b, off, s⟩ → b ≠ g := fun b off s e hbg => by
    obtain ⟨cur', z', hc⟩ := h.in3 b off s e
    rw [hbg, hh] at hc
    cases hc
    exact ht rfl
  refine ⟨⟨h.rd.len, h.rd.cap, h.rd.big, h.rd.nil, fun k x hx => ?_⟩, fun b off s e => ?_, h.fr⟩
  · obtain ⟨b, off, e, hc⟩ := h.rd.cells k x hx
    exact ⟨b, off, e, hg.cell hc (by simp [hne b off _ e])⟩
  · obtain ⟨cur', z', hc⟩ := h.in3 b off s e
    exact ⟨cur', z', (hg.block b (Array.getElem?_eq_some_iff.1 hc).1 (by simp [hne b off s e])).trans hc⟩
set_option maxHeartbeats 1000000 in
theorem members_any (s : Nat) (w : World) (hs : s < 65536) :
    Calls Try.prog 87 #[.int .i64 s] w fun e w' => ∃ A n c, e = .returned (.slice A n c) ∧ RdM w.heap.size w' A n c (mem s) ∧ Below w.heap.size w w' := by
  go_enter Try.func87, Try.ntmps87
  go_wp2_with fail
  go_loopw [2, 3] (fun v i wr => ∃ (k : Nat) (u : Value), k ≤ 16 ∧ i = .int .i64 k ∧ v = u ∧ Hid (wr.ownsRow w.heap.size 3 1 u (memTo s k).length (ints (memTo s k))) ∧ Below w.heap.size w wr) (fun _ i _ => 16 - (intOf i).toNat)
  case atStart => exact ⟨0, _, by omega, rfl, rfl, (show World.ownsRow _ _ _ _ _ _ _ from by simpa [memTo, ints] using World.ownsRow_nil w w.heap.size 3 1), Below.refl _ _⟩
  case round =>
    obtain ⟨k, u, hk, rfl, rfl, HO, hb⟩ := hrel
    obtain ⟨q, hq⟩ : ∃ q, s / 2 ^ k = q := ⟨_, rfl⟩
    have e1 : (s : Int) / 2 ^ k = (q : Int) := by
      rw [← hq]; simp
    have hqs : q ≤ s := by rw [← hq]; exact Nat.div_le_self _ _
    have e2 := bits_and_one q (by omega)
    have e3 : Hid (q % 2 = if s.testBit k then 1 else 0) := (show _ = _ by rw [← hq]; exact bit_eq s k)
    have hlen := memTo_len s k
    have HM := Lib.hid (memTo_succ s k)
    have HQ := Lib.hid hq
    have HS := Lib.hid hs
    clear hq hs
    by_cases hpos : 0 < q
    · have hk16 : k < 16 := by
        rcases Nat.lt_or_ge k 16 with h | h
        · exact h
        · have h2 := HQ.out
          have h3 := HS.out
          obtain rfl : k = 16 := by omega
          omega
      obtain ⟨ml, hml⟩ : ∃ ml, (memTo s k).length = ml := ⟨_, rfl⟩
      rw [hml] at hlen HO
      have HML := Lib.hid hml; clear hml
      have HBW := Lib.hid (by assumption : Below w.heap.size w wr)
      cases hb : s.testBit k with
      | true =>
        rw [hb] at e3 HM
        have e4 : q % 2 = 1 := e3.out
        rw [e4] at e2
        have E2 := Lib.hid e4; clear e4 hb
        go_wp2_with (at_builtin; go_must (refine wpList_append_ints rfl _ _ rfl w.heap.size _ ml _ rfl (HO.out.alloc _) _ _ _ [(k : Int)] rfl (RdI.one _ _) ?_ ?_ ?_); omega; exact Nat.le_trans HBW.out.size (by simp); intro v' w' h1 h2; have H1 := Lib.hid h1; have H2 := Lib.hid h2; clear h1 h2)
        go_roundw
        case rel => exact ⟨k + 1, v', by omega, by go_num, rfl, (show World.ownsRow _ _ _ _ _ _ _ by rw [HM.out, if_pos rfl, List.length_append, HML.out]; exact H1.out), (below_trans HBW.out (below_a1 _ _)).grown H2.out (Nat.le_trans HBW.out.size (by simp)) (fun q hq => (HO.out.lt q hq).1)⟩
        case measure => simp [intOf]; omega
      | false =>
        rw [hb] at e3 HM
        have e4 : q % 2 = 0 := e3.out
        rw [e4] at e2
        have E2 := Lib.hid e4; clear e4 hb
        go_wp2_with fail
        go_roundw
        case rel => exact ⟨k + 1, _, by omega, by go_num, rfl, (show World.ownsRow _ _ _ _ _ _ _ by rw [HM.out, if_neg (by simp), List.append_nil, HML.out]; exact HO.out), HBW.out⟩
        case measure => simp [intOf]; omega
    · obtain rfl : q = 0 := by omega
      have HE := Lib.hid (memTo_end (s := s) (k := k) hk HQ.out)
      obtain ⟨A, c, rfl, hr⟩ := own_RdI HO.out
      have HR := Lib.hid hr
      have HI3 := Lib.hid (own_in3 HO.out)
      have HFR : Hid (Fr w.heap.size A) := (show Fr _ _ from fun b off s e => (HO.out.lt b (by rw [e]; rfl)).1)
      clear hr
      go_wp2_with fail
      go_ret
      exact ⟨A, _, c, rfl, ⟨by have := HR.out; rw [HE.out] at this ⊢; exact this, HI3.out, HFR.out⟩, by assumption⟩

/-! ### a slice of pairs -/
def pairs (ps : List (Int × Int)) : List Value := ps.flatMap fun p => [.int .i64 p.1, .int .i64 p.2]
set_option linter.unusedVariables false in
structure RdP (w : World) (A : Option Addr) (n c : Nat) (ps : List (Int × Int)) : Prop where
  len : ps.length = n
  size : n ≤ 9223372036854775807
  cells : ∀ k p, ps[k]? = some p → ∃ b off, A = some ⟨b, off, none⟩ ∧ w.cell? ⟨b, off + k * 2, none⟩ = some (.int .i64 p.1) ∧ w.cell? ⟨b, off + k * 2 + 1, none⟩ = some (.int .i64 p.2)
theorem RdP.at {w : World} {A : Option Addr} {n c : Nat} {ps : List (Int × Int)} (h : RdP w A n c ps) {k : Nat} (hk : k < n) :
    ∃ b off x y, A = some ⟨b, off, none⟩ ∧ ps[k]? = some (x, y) ∧ w.cell? ⟨b, off + k * 2, none⟩ = some (.int .i64 x) ∧ w.cell? ⟨b, off + k * 2 + 1, none⟩ = some (.int .i64 y) := by
  have hk' : k < ps.length := by rw [h.len]; exact hk
  obtain ⟨b, off, hA, h1, h2⟩ := h.cells k ps[k] (List.getElem?_eq_getElem hk')
  exact ⟨b, off, ps[k].1, ps[k].2, hA, List.getElem?_eq_getElem hk', h1, h2⟩
theorem RdP.below {w w1 : World} {A : Option Addr} {n c : Nat} {ps : List (Int × Int)} (h : RdP w A n c ps) (hb : Below w.heap.size w w1) : RdP w1 A n c ps :=
  ⟨h.len, h.size, fun k p hp => by obtain ⟨b, off, hA, h1, h2⟩ := h.cells k p hp; exact ⟨b, off, hA, cell_below hb h1, cell_below hb h2⟩⟩
end Go.Proofs.Ytcmjpcmdgnbbpaa
