/- Slices that a call makes: append from whatever source, what is owned reads as it should, and the numbers of the program's types. -/
import Derived.Test.YtcmjpcmdgnbbpaaLow2
import Derived.Laws.AppendOwnNone
import Derived.Lib.AppendZerosOnto
namespace Go.Proofs.Ytcmjpcmdgnbbpaa
open Go.RowKit

def ints (xs : List Int) : List Value := xs.map (Value.int .i64)
theorem ints_length (xs : List Int) : (ints xs).length = xs.length := by simp [ints]
theorem ints_append (xs ys : List Int) : ints (xs ++ ys) = ints xs ++ ints ys := by simp [ints]
theorem ints_get (xs : List Int) (j : Nat) : (ints xs)[j]? = (xs[j]?).map (Value.int .i64) := by simp [ints]

theorem info3 : (Try.prog.info? 3).map (fun i => (i.zero, i.size, i.bytes)) = some (some (.int .i64 0), 1, 8) := by kernel_rfl

/-- what a call owns, read as numbers -/
theorem own_RdI {w : World} {base n : Nat} {e : TypeId} {v : Value} {xs : List Int} (h : w.ownsRow base e 1 v n (ints xs)) :
    ∃ A c, v = .slice A n c ∧ RdI w A n c xs := by
  have hl : xs.length = n := by have := h.1; simpa [ints] using this
  rcases h.2 with ⟨rfl, rfl⟩ | ⟨g, cap, cur, rfl, hb, hg, hn, hm, hs, ht⟩
  · exact ⟨none, 0, rfl, hl, by omega, by omega, fun _ => rfl, fun k x hx => by
      have := (List.getElem?_eq_some_iff.1 hx).1; omega⟩
  · refine ⟨_, cap, rfl, hl, hn, by unfold maxLen at hm; omega, fun e => (by cases e), fun k x hx => ⟨g, 0, rfl, ?_⟩⟩
    have := h.cells (g := g) rfl k (.int .i64 x) (by rw [ints_get, hx]; rfl)
    rw [Addr.add_lit] at this
    exact this

theorem own_below {w w1 : World} {base n size : Nat} {e : TypeId} {v : Value} {xs : List Value} (h : w.ownsRow base e size v n xs) (hb : Below w.heap.size w w1) : w1.ownsRow base e size v n xs :=
  h.kept (row := none) ⟨hb.os, hb.tape, hb.output, hb.size, fun i hi _ => hb.block i hi⟩ (by cases v.ownBlock <;> simp)

theorem RdI.add {w : World} {ad : Addr} {n c : Nat} {xs : List Int} (h : RdI w (some ad) n c xs) :
    ∀ j u, (ints xs)[j]? = some u → w.cell? (ad.add j) = some u := by
  intro j u hu
  rw [ints_get] at hu
  obtain ⟨x, hx, rfl⟩ := Option.map_eq_some_iff.1 hu
  obtain ⟨b, off, hA, hc⟩ := h.cells j x hx
  obtain rfl : ad = ⟨b, off, none⟩ := Option.some.inj hA
  rw [Addr.add_lit]; exact hc

theorem ints_one (xs : List Int) : ∀ u ∈ ints xs, u.oneCell' = true := ints_oneCell .i64 xs

/-- 'append(s, x...)' of numbers, whatever x is -/
theorem wpList_append_ints {w : World} {ops : Array Oper} {rest : List Oper} {o : Oper} {a : Act} {Q : Exit → Act → World → Prop} (hgd : o.guard = none) (s x : Operand)
    (ho : o.op = .call { callee := .builtin .append, args := #[s, x], argTypes := #[22, 22] })
    (base : Nat) (v : Value) (n : Nat) (xs : List Int) (hs : a.eval s = v) (hown : w.ownsRow base 3 1 v n (ints xs))
    (A : Option Addr) (m c : Nat) (ys : List Int) (hx : a.eval x = .slice A m c) (hy : RdI w A m c ys)
    (hsmall : n + m ≤ 1000000) (hbase : base ≤ w.heap.size)
    (h : ∀ v' w', w'.ownsRow base 3 1 v' (n + m) (ints (xs ++ ys)) → w.grownBy w' v.ownBlock → wpList Try.prog ops Q rest (a.put o.dst v') w') : wpList Try.prog ops Q (o :: rest) a w := by
  obtain ⟨i, hi, hz0, hz1, hz2⟩ := info_parts info3
  cases A with
  | none =>
    have hm : m = 0 := by
      by_cases h0 : m = 0
      · exact h0
      · obtain ⟨b, off, x, hA, _⟩ := hy.at (show 0 < m by omega)
        cases hA
    subst hm
    have hy0 : ys = [] := List.eq_nil_of_length_eq_zero hy.len
    subst hy0
    have hc0 := hy.nil rfl
    subst hc0
    exact wpList_append_own_none hgd s x 22 ho base 3 i 1 Try.underlying22 hi v n (ints xs) hs hown hx (h v w (by simpa using hown) ⟨rfl, rfl, rfl, Nat.le_refl _, fun _ _ _ => rfl⟩)
  | some ad =>
    refine wpList_append_own _ hgd s x 22 ho base 3 i (.int .i64 0) 1 8 Try.underlying22 hi hz0 hz1 hz2 rfl (by decide) v n (ints xs) hs hown ad m c (ints ys) hx (by rw [ints_length, hy.len]; omega) hy.add (ints_one _) (by unfold maxLen; omega) (by omega) hbase ?_
    intro v' w' h1 h2 _
    rw [← ints_append] at h1
    exact h v' w' h1 h2

/-- the source of 'append(s, x)' -/
theorem RdI.one (w : World) (x : Int) : RdI (w.alloc (.cells #[.int .i64 x] 3)) (some ⟨w.heap.size, 0, none⟩) 1 1 [x] :=
  ⟨rfl, by omega, by omega, fun e => (by cases e), fun k y hy => by
    have hk := (List.getElem?_eq_some_iff.1 hy).1
    obtain rfl : k = 0 := by simpa using hk
    obtain rfl : x = y := by simpa using hy
    exact ⟨_, _, rfl, by simp⟩⟩

/-- 'append(nil, make([]int, n)...)' -/
theorem wpList_append_zeros {w : World} {ops : Array Oper} {rest : List Oper} {o : Oper} {a : Act} {Q : Exit → Act → World → Prop} (hgd : o.guard = none) (s x : Operand)
    (ho : o.op = .call { callee := .builtin .append, args := #[s, x], argTypes := #[22, 3] })
    (n : Nat) (hn0 : 0 < n) (hn : n ≤ 1000) (hs : a.eval s = .slice none 0 0) (hx : a.eval x = .int .i64 n)
    (h : ∀ cap w', n ≤ cap → cap ≤ maxLen → w'.ownsRow w.heap.size 3 1 (.slice (some ⟨w.heap.size, 0, none⟩) 0 cap) 0 (ints []) → Below w.heap.size w w' → wpList Try.prog ops Q rest (a.put o.dst (.slice (some ⟨w.heap.size, 0, none⟩) n cap)) w') : wpList Try.prog ops Q (o :: rest) a w := by
  obtain ⟨i, hi, hz0, hz1, hz2⟩ := info_parts info3
  have hrun := fun ty => Lib.run_append_grow_zeros (P := Try.prog) w 22 3 ty 3 i (.int .i64 0) .i64 .i64 Try.underlying22 Try.underlying3 hi hz0 none 0 0 [] (by simp [Builtin.firstCells]) n (by omega) (by omega) (by omega) (by omega) (by rw [hz2]; omega) (by rw [hz2]; simp [Builtin.nextslicecap]; split <;> omega)
  have hge := grownCap_ge w n 0 3
  have hle := grownCap_le_maxLen w n 0 3 (by unfold maxLen; omega)
  simp only [Nat.zero_add, Array.empty_append] at hrun
  generalize grownCap w n 0 3 = cap at *
  refine wpList_plain hgd fun K hK' => ?_
  unfold Oper.wp
  simp [execOp, ho, resolve, invoke, builtin, hs, hx, hrun, Result.andThen]
  exact hK' _ _ (h cap _ hge hle (World.ownsRow_made w.drew _ cap (Nat.le_refl _) hle (by simp [size_zeroCells, Value.cells]; omega)) (((Below.refl _ w).drew).alloc (Nat.le_refl _) _))

theorem grow_any (n : Nat) (w : World) (hn : n ≤ 1000) :
    Calls Try.prog 111 #[.slice none 0 0, .int .i64 n] w fun e w' => ∃ v, e = .returned v ∧ w'.ownsRow w.heap.size 3 1 v 0 (ints []) ∧ Below w.heap.size w w' := by
  by_cases h0 : n = 0
  · subst h0
    go_enter Try.func111, Try.ntmps111
    go_wp2_with fail
    go_ret
    exact ⟨_, rfl, World.ownsRow_nil _ _ _ _, Below.refl _ _⟩
  · have hpos : 0 < n := by omega
    clear h0
    go_enter Try.func111, Try.ntmps111
    go_wp2_with (at_builtin; go_must (refine wpList_append_zeros rfl _ _ rfl n hpos hn rfl rfl ?_); intro cap w' hge hle HF HB; have HF' := Lib.hid HF; have HB' := Lib.hid HB; clear HF HB; unfold maxLen at hle)
    go_ret
    exact ⟨_, rfl, HF'.out, HB'.out⟩

/-- A slice whose elements are one cell each. -/
structure RdV (w : World) (A : Option Addr) (n c : Nat) (vs : List Value) : Prop where
  len : vs.length = n
  cap : n ≤ c
  big : c ≤ 9223372036854775807
  nil : A = none → c = 0
  cells : ∀ k v, vs[k]? = some v → ∃ b off, A = some ⟨b, off, none⟩ ∧ w.cell? ⟨b, off + k, none⟩ = some v
theorem RdV.at {w : World} {A : Option Addr} {n c : Nat} {vs : List Value} (h : RdV w A n c vs) {k : Nat} (hk : k < n) :
    ∃ b off v, A = some ⟨b, off, none⟩ ∧ vs[k]? = some v ∧ w.cell? ⟨b, off + k, none⟩ = some v := by
  have hk' : k < vs.length := by rw [h.len]; exact hk
  obtain ⟨b, off, hA, hc⟩ := h.cells k vs[k] (List.getElem?_eq_getElem hk')
  exact ⟨b, off, vs[k], hA, List.getElem?_eq_getElem hk', hc⟩
theorem RdV.size {w : World} {A : Option Addr} {n c : Nat} {vs : List Value} (h : RdV w A n c vs) : n ≤ 9223372036854775807 := Nat.le_trans h.cap h.big
theorem RdV.below {w w1 : World} {A : Option Addr} {n c : Nat} {vs : List Value} (h : RdV w A n c vs) (hb : Below w.heap.size w w1) : RdV w1 A n c vs :=
  ⟨h.len, h.cap, h.big, h.nil, fun k x hx => by obtain ⟨b, off, hA, hc⟩ := h.cells k x hx; exact ⟨b, off, hA, cell_below hb hc⟩⟩

/-- Each of these values is a slice of these numbers. -/
def AreI (w : World) (vs : List Value) (xss : List (List Int)) : Prop :=
  vs.length = xss.length ∧ ∀ (k : Nat) (xs : List Int), xss[k]? = some xs → ∃ A n c, vs[k]? = some (Value.slice A n c) ∧ RdI w A n c xs
theorem AreI.below {w w1 : World} {vs : List Value} {xss : List (List Int)} (h : AreI w vs xss) (hb : Below w.heap.size w w1) : AreI w1 vs xss :=
  ⟨h.1, fun k xs hx => by obtain ⟨A, n, c, h1, h2⟩ := h.2 k xs hx; exact ⟨A, n, c, h1, h2.below hb⟩⟩

theorem flatten_take {xss : List (List Int)} {k : Nat} {xs : List Int} (h : xss[k]? = some xs) : (xss.take (k + 1)).flatten = (xss.take k).flatten ++ xs := by
  rw [take_succ_of h]; simp
theorem flatten_take_le (xss : List (List Int)) (k : Nat) : (xss.take k).flatten.length ≤ xss.flatten.length := by
  have h : xss.flatten = (xss.take k).flatten ++ (xss.drop k).flatten := by rw [← List.flatten_append, List.take_append_drop]
  rw [h, List.length_append]; omega
theorem grown_below {B : Nat} {a w w' : World} {row : Option Nat} (h : Below B a w) (hg : w.grownBy w' row) (hB : B ≤ w.heap.size) (hr : ∀ k, row = some k → B ≤ k) : Below B a w' := h.grown hg hB hr

set_option maxHeartbeats 1000000 in
theorem concat_any (A : Option Addr) (n c : Nat) (vs : List Value) (xss : List (List Int)) (w : World) (h : RdV w A n c vs) (hx : AreI w vs xss) (hsmall : xss.flatten.length ≤ 1000) :
    Calls Try.prog 96 #[.slice A n c] w fun e w' => ∃ A' m c', e = .returned (.slice A' m c') ∧ RdI w' A' m c' xss.flatten ∧ Below w.heap.size w w' ∧ (∀ b off s, A' = some ⟨b, off, s⟩ → w.heap.size ≤ b) := by
  have hm := h.size
  have hl := h.len
  have hl2 : n = xss.length := by rw [← hl]; exact hx.1
  have H := Lib.hid h
  have HX := Lib.hid hx
  have HL := Lib.hid hl
  have HL2 := Lib.hid hl2
  clear h hx hl hl2
  have HF : Hid (∀ k, (xss.take k).flatten.length ≤ 1000) := (show ∀ k, _ from fun k => Nat.le_trans (flatten_take_le xss k) hsmall)
  go_enter Try.func96, Try.ntmps96
  go_wp2_with fail
  go_loop [3, 11] (fun s i => ∃ k : Nat, k ≤ n ∧ i = .int .i64 k ∧ s = .int .i64 (((xss.take k).flatten.length : Nat) : Int)) (fun _ i => n - (intOf i).toNat)
  case atStart => exact ⟨0, Nat.zero_le _, rfl, by simp⟩
  case round =>
    obtain ⟨k, hk, rfl, rfl⟩ := hrel
    have hf1 := HF.out k
    by_cases hlt : k < n
    · obtain ⟨b, off, v, rfl, hv, hc⟩ := H.out.at hlt
      obtain ⟨A1, n1, c1, hv1, hr1⟩ := HX.out.2 k (xss[k]'(by have := HL2.out; omega)) (List.getElem?_eq_getElem _)
      obtain rfl : v = .slice A1 n1 c1 := Option.some.inj (hv.symm.trans hv1)
      have hf2 := HF.out (k + 1)
      have e : Hid ((xss.take (k + 1)).flatten.length = (xss.take k).flatten.length + n1) := by
        show _ = _
        rw [flatten_take (List.getElem?_eq_getElem (by have := HL2.out; omega)), List.length_append, hr1.len]
      have hf3 : (xss.take k).flatten.length + n1 ≤ 1000 := by rw [← e.out]; exact hf2
      clear hv hv1 hr1 hf2
      generalize (xss.take k).flatten.length = q at *
      have hneg : ¬ ((q : Int) + (n1 : Int) < 0) := by omega
      go_wp2_with fail
      go_round
      case rel => exact ⟨k + 1, by omega, by go_num, by rw [e.out]; go_num⟩
      case measure => simp [intOf]; omega
    · obtain rfl : k = n := by omega
      have e : xss.take k = xss := List.take_of_length_le (by have := HL2.out; omega)
      have E := Lib.hid e; clear e
      generalize (xss.take k).flatten.length = q at *
      go_wp2_with (go_at_call 111; refine (grow_any _ _ hf1).mono ?_; rintro e w' ⟨v, rfl, hown, hb⟩)
      have HO := Lib.hid hown; clear hown
      go_loopw [6, 27] (fun s i wr => ∃ (j : Nat) (v : Value), j ≤ k ∧ i = .int .i64 j ∧ s = v ∧ Hid (wr.ownsRow w.heap.size 3 1 v (xss.take j).flatten.length (ints (xss.take j).flatten)) ∧ Below w.heap.size w wr) (fun _ i _ => k - (intOf i).toNat)
      case atStart => exact ⟨0, v, Nat.zero_le _, rfl, rfl, by simpa using HO, hb⟩
      case round =>
        obtain ⟨j, u, hj, rfl, rfl, HO1, hb1⟩ := hrel
        by_cases hjt : j < k
        · obtain ⟨b, off, v1, rfl, hv, hc⟩ := H.out.at hjt
          obtain ⟨A1, n1, c1, hv1, hr1⟩ := HX.out.2 j (xss[j]'(by have := HL2.out; omega)) (List.getElem?_eq_getElem _)
          obtain rfl : v1 = .slice A1 n1 c1 := Option.some.inj (hv.symm.trans hv1)
          have hc1 := cell_below hb1 hc
          have hf2 := HF.out (j + 1)
          have e : Hid ((xss.take (j + 1)).flatten = (xss.take j).flatten ++ (xss[j]'(by have := HL2.out; omega))) :=
            (show _ = _ from flatten_take (List.getElem?_eq_getElem (by have := HL2.out; omega)))
          have hf3 : (xss.take j).flatten.length + n1 ≤ 1000 := by
            have h1 := hf2
            rw [e.out, List.length_append, hr1.len] at h1
            exact h1
          have HR := Lib.hid (hr1.below hb1)
          have HLE : Hid ((xss.take (j + 1)).flatten.length = (xss.take j).flatten.length + n1) := by
            show _ = _
            rw [e.out, List.length_append, hr1.len]
          have hbase := hb1.size
          clear hv hv1 hr1 hf2 hc
          go_wp2_with (at_builtin; go_must (refine wpList_append_ints rfl _ _ rfl w.heap.size _ _ _ rfl HO1.out _ _ _ _ rfl HR.out ?_ ?_ ?_); omega; exact hbase; intro v' w' h1 h2; have H1 := Lib.hid h1; have H2 := Lib.hid h2; clear h1 h2)
          go_roundw
          case rel => exact ⟨j + 1, v', by omega, by go_num, rfl, (show World.ownsRow _ _ _ _ _ _ _ by rw [e.out, List.length_append, show (xss[j]'(by have := HL2.out; omega)).length = n1 from HR.out.len]; exact H1.out), hb1.grown H2.out hbase (fun q hq => (HO1.out.lt q hq).1)⟩
          case measure => simp [intOf]; omega
        · obtain rfl : j = k := by omega
          obtain ⟨A', c', rfl, hr⟩ := own_RdI HO1.out
          have HR := Lib.hid hr
          have HFr : Hid (∀ b off s, A' = some ⟨b, off, s⟩ → w.heap.size ≤ b) := (show ∀ b off s, _ from fun b off s e => (HO1.out.lt b (by rw [e]; rfl)).1)
          clear hr
          go_wp2_with fail
          go_ret
          refine ⟨A', _, c', rfl, ?_, hb1, HFr.out⟩
          have := HR.out
          rw [E.out] at this
          rw [E.out]
          exact this
end Go.Proofs.Ytcmjpcmdgnbbpaa
