/- The orders of values, gone through by a closure: what a call of it leaves. -/
import Derived.Test.YtcmjpcmdgnbbpaaOwn
import Derived.Deep.RegionLaw
namespace Go.Proofs.Ytcmjpcmdgnbbpaa
open Go.RowKit

/-- All old blocks but two are as they were. -/
structure Kept (bf bo : Nat) (w w' : World) : Prop where
  os : w'.os = w.os
  tape : w'.tape = w.tape
  output : w'.output = w.output
  size : w.heap.size ≤ w'.heap.size
  block : ∀ k, k < w.heap.size → k ≠ bf → k ≠ bo → w'.heap[k]? = w.heap[k]?
theorem Kept.refl (bf bo : Nat) (w : World) : Kept bf bo w w := ⟨rfl, rfl, rfl, Nat.le_refl _, fun _ _ _ _ => rfl⟩
theorem Kept.trans {bf bo : Nat} {a b c : World} (h : Kept bf bo a b) (k : Kept bf bo b c) : Kept bf bo a c :=
  ⟨k.os.trans h.os, k.tape.trans h.tape, k.output.trans h.output, Nat.le_trans h.size k.size, fun i hi h1 h2 => (k.block i (Nat.lt_of_lt_of_le hi h.size) h1 h2).trans (h.block i hi h1 h2)⟩
theorem Kept.of_below {bf bo : Nat} {w w' : World} (h : Below w.heap.size w w') : Kept bf bo w w' := ⟨h.os, h.tape, h.output, h.size, fun k hk _ _ => h.block k hk⟩
theorem Kept.cell {bf bo : Nat} {w w' : World} (h : Kept bf bo w w') {a : Addr} {v : Value} (hc : w.cell? a = some v) (h1 : a.block ≠ bf) (h2 : a.block ≠ bo) : w'.cell? a = some v :=
  (World.cell?_of_block (h.block a.block (World.block_lt_of_cell? w a hc) h1 h2)).trans hc
theorem RdI.kept {bf bo : Nat} {w w1 : World} {A : Option Addr} {n c : Nat} {xs : List Int} (h : RdI w A n c xs) (hk : Kept bf bo w w1) (hA : ∀ b off s, A = some ⟨b, off, s⟩ → b ≠ bf ∧ b ≠ bo) : RdI w1 A n c xs :=
  ⟨h.len, h.cap, h.big, h.nil, fun k x hx => by obtain ⟨b, off, e, hc⟩ := h.cells k x hx; exact ⟨b, off, e, hk.cell hc (hA b off _ e).1 (hA b off _ e).2⟩⟩

def fact : Nat → Nat
  | 0 => 1
  | n + 1 => (n + 1) * fact n
def nextNum (want : Int) : Nat → List Int → List Int → Int → Nat
  | 0, _, _, so => if want ≤ so then 1 else 0
  | n + 1, order, left, so => ((List.range (n + 1)).map fun i => nextNum want n (order ++ [left.getD i 0]) (left.take i ++ left.drop (i + 1)) (so + gainL order (left.getD i 0))).sum

/-- what a call of 'next' leaves -/
def NextPost (bf bo N k : Nat) (order : List Int) (p q : Nat) (w : World) (e : Ending) (w' : World) : Prop :=
  e = .returned (.tuple #[]) ∧ Kept bf bo w w' ∧ w'.ownsRow 0 3 1 (.slice (some ⟨bo, 0, none⟩) k N) k (ints order) ∧
    w'.heap[bf]? = some (.cells #[.int .i64 p, .int .i64 q] 80 (0, 0))

theorem heap_setCell_same (w : World) (b o : Nat) (u : Value) (c : Array Value) (t : TypeId) (z : Nat × Nat) (h : w.heap[b]? = some (.cells c t z)) : (w.setCell ⟨b, o, none⟩ u).heap[b]? = some (.cells (c.setIfInBounds o u) t z) := by
  simp [World.setCell, Array.getElem?_modify, h]
theorem kept_setCell {bf bo : Nat} (w : World) (o : Nat) (u : Value) : Kept bf bo w (w.setCell ⟨bf, o, none⟩ u) :=
  ⟨rfl, rfl, rfl, by simp [World.setCell], fun k _ h1 _ => Below.heap_setCell w ⟨bf, o, none⟩ u k h1⟩
theorem ownsRow_block {w w' : World} {base n size : Nat} {e : TypeId} {b c : Nat} {xs : List Value} (h : w.ownsRow base e size (.slice (some ⟨b, 0, none⟩) n c) n xs) (hb : w'.heap[b]? = w.heap[b]?) : w'.ownsRow base e size (.slice (some ⟨b, 0, none⟩) n c) n xs := by
  refine ⟨h.1, ?_⟩
  rcases h.2 with ⟨h1, _⟩ | ⟨g, cap, cur, hv, hg, hh, r⟩
  · cases h1
  · cases hv
    exact .inr ⟨_, _, cur, rfl, hg, by rw [hb]; exact hh, r⟩

set_option maxHeartbeats 1000000 in
theorem next_zero (N bf bw bn bo k : Nat) (order : List Int) (want so : Int) (p q : Nat) (A : Option Addr) (c : Nat) (w : World)
    (_hd1 : bw ≠ bf) (hd2 : bo ≠ bf)
    (hf : w.heap[bf]? = some (.cells #[.int .i64 p, .int .i64 q] 80 (0, 0))) (hw : w.cell? ⟨bw, 0, none⟩ = some (.int .i64 want))
    (ho : w.ownsRow 0 3 1 (.slice (some ⟨bo, 0, none⟩) k N) k (ints order))
    (hp : p ≤ 1000000) (hq : q ≤ 1000000) :
    Calls Try.prog 95 #[.slice (some ⟨bo, 0, none⟩) k N, .slice A 0 c, .int .i64 so, .pointer (some ⟨bf, 0, none⟩), .pointer (some ⟨bw, 0, none⟩), .pointer (some ⟨bn, 0, none⟩)] w
      (NextPost bf bo N k order (p + (if want ≤ so then 1 else 0)) (q + 1) w) := by
  have c0 : w.cell? ⟨bf, 0, none⟩ = some (.int .i64 p) := by simp [World.cell?, hf]
  have c1 : w.cell? ⟨bf, 1, none⟩ = some (.int .i64 q) := by simp [World.cell?, hf]
  have f0 : w.frozen? ⟨bf, 0, none⟩ = false := by simp [World.frozen?, hf]
  have f1 : w.frozen? ⟨bf, 1, none⟩ = false := by simp [World.frozen?, hf]
  have HF := Lib.hid hf
  have HO := Lib.hid ho
  clear hf ho
  by_cases h : want ≤ so
  · have E : Hid ((p + (if want ≤ so then 1 else 0)) = p + 1) := (show _ = _ by rw [if_pos h])
    go_enter Try.func95, Try.ntmps95
    go_wp2_with fail
    refine bodyPost_ret (results_none rfl _ _ _) rfl ?_
    try rw [E.out]
    have g1 := heap_setCell_same w bf 1 (.int .i64 ((q : Int) + 1)) _ _ _ HF.out
    have g2 := heap_setCell_same _ bf 0 (.int .i64 ((p : Int) + 1)) _ _ _ g1
    refine ⟨rfl, (kept_setCell w 1 _).trans (kept_setCell _ 0 _), ?_, ?_⟩
    · exact ownsRow_block HO.out (by rw [Below.heap_setCell _ _ _ _ hd2, Below.heap_setCell _ _ _ _ hd2])
    · rw [g2]; simp
  · have E : Hid ((p + (if want ≤ so then 1 else 0)) = p) := (show _ = _ by rw [if_neg h]; rfl)
    go_enter Try.func95, Try.ntmps95
    go_wp2_with fail
    refine bodyPost_ret (results_none rfl _ _ _) rfl ?_
    try rw [E.out]
    have g1 := heap_setCell_same w bf 1 (.int .i64 ((q : Int) + 1)) _ _ _ HF.out
    refine ⟨rfl, kept_setCell w 1 _, ?_, ?_⟩
    · exact ownsRow_block HO.out (by rw [Below.heap_setCell _ _ _ _ hd2])
    · rw [g1]; simp

/-- the sum of the first rounds -/
def partNum (want : Int) (n : Nat) (order left : List Int) (so : Int) (j : Nat) : Nat :=
  ((List.range j).map fun i => nextNum want n (order ++ [left.getD i 0]) (left.take i ++ left.drop (i + 1)) (so + gainL order (left.getD i 0))).sum
theorem partNum_succ (want : Int) (n : Nat) (order left : List Int) (so : Int) (j : Nat) {x : Int} (h : left[j]? = some x) :
    partNum want n order left so (j + 1) = partNum want n order left so j + nextNum want n (order ++ [x]) (left.take j ++ left.drop (j + 1)) (so + gainL order x) := by
  unfold partNum
  rw [List.range_succ, List.map_append, List.sum_append]
  simp [h]
theorem fact_pos (n : Nat) : 0 < fact n := by induction n with | zero => simp [fact] | succ n ih => simp [fact]; omega
theorem nextNum_le (want : Int) (n : Nat) : ∀ (order left : List Int) (so : Int), nextNum want n order left so ≤ fact n := by
  induction n with
  | zero => intro o l s; simp only [nextNum, fact]; split <;> omega
  | succ n ih =>
    intro o l s
    have key : ∀ j, partNum want n o l s j ≤ j * fact n := by
      intro j
      induction j with
      | zero => simp [partNum]
      | succ j ihj =>
        have h1 := ih (o ++ [l.getD j 0]) (l.take j ++ l.drop (j + 1)) (s + gainL o (l.getD j 0))
        have e : partNum want n o l s (j + 1) = partNum want n o l s j + nextNum want n (o ++ [l.getD j 0]) (l.take j ++ l.drop (j + 1)) (s + gainL o (l.getD j 0)) := by
          unfold partNum; rw [List.range_succ, List.map_append, List.sum_append]; simp
        rw [e, Nat.add_mul, Nat.one_mul]; omega
    exact key (n + 1)
theorem partNum_le (want : Int) (n : Nat) (o l : List Int) (s : Int) (j : Nat) : partNum want n o l s j ≤ j * fact n := by
  induction j with
  | zero => simp [partNum]
  | succ j ihj =>
    have h1 := nextNum_le want n (o ++ [l.getD j 0]) (l.take j ++ l.drop (j + 1)) (s + gainL o (l.getD j 0))
    have e : partNum want n o l s (j + 1) = partNum want n o l s j + nextNum want n (o ++ [l.getD j 0]) (l.take j ++ l.drop (j + 1)) (s + gainL o (l.getD j 0)) := by
      unfold partNum; rw [List.range_succ, List.map_append, List.sum_append]; simp
    rw [e, Nat.add_mul, Nat.one_mul]; omega

def NextCalls (N bf bw bn bo : Nat) (want : Int) (n : Nat) : Prop :=
  ∀ (k : Nat) (order left : List Int) (so : Int) (p q : Nat) (A : Option Addr) (c : Nat) (w : World), order.length = k → k + n = N →
    RdI w A n c left → (∀ b off s, A = some ⟨b, off, s⟩ → b ≠ bf ∧ b ≠ bo) →
    w.heap[bf]? = some (.cells #[.int .i64 p, .int .i64 q] 80 (0, 0)) → w.cell? ⟨bw, 0, none⟩ = some (.int .i64 want) →
    w.cell? ⟨bn, 0, none⟩ = some (.func (.func 95) #[] #[.pointer (some ⟨bf, 0, none⟩), .pointer (some ⟨bw, 0, none⟩), .pointer (some ⟨bn, 0, none⟩)]) →
    w.ownsRow 0 3 1 (.slice (some ⟨bo, 0, none⟩) k N) k (ints order) →
    p + fact n ≤ 1000000 → q + fact n ≤ 1000000 → -1000 + 10 * (n : Int) ≤ so → so ≤ 1000 - 10 * (n : Int) →
    Calls Try.prog 95 #[.slice (some ⟨bo, 0, none⟩) k N, .slice A n c, .int .i64 so, .pointer (some ⟨bf, 0, none⟩), .pointer (some ⟨bw, 0, none⟩), .pointer (some ⟨bn, 0, none⟩)] w
      (NextPost bf bo N k order (p + nextNum want n order left so) (q + fact n) w)

/-- two slices, one behind the other -/
def CatPost (xs : List Int) (w : World) (e : Ending) (w' : World) : Prop := ∃ A m c, e = .returned (.slice A m c) ∧ RdI w' A m c xs ∧ Below w.heap.size w w' ∧ (∀ b off s, A = some ⟨b, off, s⟩ → w.heap.size ≤ b)
theorem kept_of_grown {w1 W w2 : World} {bo : Nat} (hb : Below w1.heap.size w1 W) (hg : W.grownBy w2 (some bo)) : Kept bo bo w1 w2 :=
  ⟨hg.os.trans hb.os, hg.tape.trans hb.tape, hg.output.trans hb.output, Nat.le_trans hb.size hg.size, fun k hk h1 _ => (hg.block k (Nat.lt_of_lt_of_le hk hb.size) (by simpa using h1)).trans (hb.block k hk)⟩
theorem kept_widen {bf bo : Nat} {w w' : World} (h : Kept bo bo w w') : Kept bf bo w w' := ⟨h.os, h.tape, h.output, h.size, fun k hk _ h2 => h.block k hk h2 h2⟩
theorem ownsRow_prefix {w : World} {g k cap : Nat} {xs : List Int} {y : Int} (h : w.ownsRow 0 3 1 (.slice (some ⟨g, 0, none⟩) (k + 1) cap) (k + 1) (ints (xs ++ [y]))) :
    w.ownsRow 0 3 1 (.slice (some ⟨g, 0, none⟩) k cap) k (ints xs) := by
  have hl : xs.length = k := by have := h.1; simp [ints] at this; omega
  refine ⟨by simp [ints, hl], ?_⟩
  rcases h.2 with ⟨h1, _⟩ | ⟨g', cap', cur, hv, hg, hh, hn, hm, hs, ht⟩
  · cases h1
  · cases hv
    refine .inr ⟨_, _, cur, rfl, hg, hh, by omega, hm, hs, ?_⟩
    have e : List.take (k * 1) cur.toList = List.take (k * 1) (List.take ((k + 1) * 1) cur.toList) := by rw [List.take_take]; congr 1; omega
    rw [e, ht, ints_append]
    exact List.take_left' (by simp [ints, hl])
theorem concat_two (A1 A2 : Option Addr) (n1 c1 n2 c2 : Nat) (xs ys : List Int) (w : World) (h1 : RdI w A1 n1 c1 xs) (h2 : RdI w A2 n2 c2 ys) (hs : n1 + n2 ≤ 1000) :
    Calls Try.prog 96 #[.slice (some ⟨w.heap.size, 0, none⟩) 2 2] ((w.alloc (.cells #[.slice A1 n1 c1, .slice A2 n2 c2] 22)).drew) (CatPost (xs ++ ys) w) := by
  have hb : Below w.heap.size w ((w.alloc (.cells #[.slice A1 n1 c1, .slice A2 n2 c2] 22)).drew) := (below_a1 _ _).drew
  refine (concat_any _ 2 2 [.slice A1 n1 c1, .slice A2 n2 c2] [xs, ys] _ ⟨rfl, by omega, by omega, fun e => (by cases e), ?_⟩ ⟨rfl, ?_⟩ ?_).mono ?_
  · intro k v hv
    have hk := (List.getElem?_eq_some_iff.1 hv).1
    match k, hk with
    | 0, _ => obtain rfl : Value.slice A1 n1 c1 = v := by simpa using hv
              exact ⟨_, _, rfl, by simp⟩
    | 1, _ => obtain rfl : Value.slice A2 n2 c2 = v := by simpa using hv
              exact ⟨_, _, rfl, by simp⟩
  · intro k v hv
    have hk := (List.getElem?_eq_some_iff.1 hv).1
    match k, hk with
    | 0, _ => obtain rfl : xs = v := by simpa using hv
              exact ⟨_, _, _, rfl, h1.below hb⟩
    | 1, _ => obtain rfl : ys = v := by simpa using hv
              exact ⟨_, _, _, rfl, h2.below hb⟩
  · simp [h1.len, h2.len]; exact hs
  · rintro e w' ⟨A, m, c, rfl, hr, hb2, hA⟩
    refine ⟨A, m, c, rfl, by simpa using hr, below_then hb (by simp) hb2, fun b off s e => ?_⟩
    have := hA b off s e
    simp at this; omega

/-- an append within the capacity, as a step of a region that draws its order -/
theorem step_append_in {ops : Array Oper} {o : Oper} {a : Act} {w : World} {K : Act → World → Prop} {Q : Exit → Act → World → Prop} {E : Prop}
    (hg : o.guard = none) (s x : Operand) (hop : o.op = Op.call { callee := Callee.builtin Builtin.append, args := #[s, x], argTypes := #[22, 22] })
    (g k cap : Nat) (xs : List Int) (hs : a.eval s = .slice (some ⟨g, 0, none⟩) k cap) (hown : w.ownsRow 0 3 1 (.slice (some ⟨g, 0, none⟩) k cap) k (ints xs))
    (ad : Addr) (y : Int) (hx : a.eval x = .slice (some ad) 1 1) (hy : w.cell? ad = some (.int .i64 y)) (hroom : k + 1 ≤ cap)
    (hK : ∀ w', w'.ownsRow 0 3 1 (.slice (some ⟨g, 0, none⟩) (k + 1) cap) (k + 1) (ints (xs ++ [y])) → w.grownBy w' (some g) → K (a.put o.dst (.slice (some ⟨g, 0, none⟩) (k + 1) cap)) w') :
    if Region.wanted o (yielded ops a.tmps) = true then Oper.wp Try.prog o a w K Q else E := by
  have hw : Region.wanted o (yielded ops a.tmps) = true := by simp [Region.wanted, hg]
  rw [if_pos hw]
  obtain ⟨i, hi, hz0, hz1, hz2⟩ := info_parts info3
  obtain ⟨w', hrun, r1, r2⟩ := run_append_fits (P := Try.prog) w 0 22 o.type 3 i 1 Try.underlying22 hi hz1 g k cap (ints xs) hown ad 1 1 (ints [y]) rfl (by
    intro j u hu
    have hj := (List.getElem?_eq_some_iff.1 hu).1
    obtain rfl : j = 0 := by simpa [ints] using hj
    obtain rfl : Value.int .i64 y = u := by simpa [ints] using hu
    have : ad.add 0 = ad := by unfold Addr.add; split <;> simp_all
    rw [this]; exact hy) (ints_one _) hroom
  unfold Oper.wp
  simp [execOp, hop, resolve, invoke, builtin, hs, hx, hrun, Result.andThen]
  exact hK _ (by rw [ints_append]; exact r1) r2

set_option maxRecDepth 100000 in
set_option maxHeartbeats 16000000 in
theorem next_succ (N bf bw bn bo : Nat) (want : Int) (hN : N ≤ 8) (hd1 : bw ≠ bf) (hd2 : bo ≠ bf) (hd3 : bw ≠ bo) (hd4 : bn ≠ bf) (hd5 : bn ≠ bo) (n : Nat) (ih : NextCalls N bf bw bn bo want n) : NextCalls N bf bw bn bo want (n + 1) := by
  intro k order left so p q A c w hlk hlen hr hA hf hw hn ho hp hq hs1 hs2
  have IH := Lib.hid ih
  clear ih
  have HR := Lib.hid hr
  have HA := Lib.hid hA
  have HF := Lib.hid hf
  have HW := Lib.hid hw
  have HN := Lib.hid hn
  have HO := Lib.hid ho
  have HL := Lib.hid hlk
  have hkn : k ≤ 8 := by omega
  have hkN : k + 1 ≤ N := by omega
  have hc1 := hr.cap
  have hc2 := hr.big
  have HQ : Hid (fact (n + 1) = (n + 1) * fact n) := (show _ = _ from rfl)
  have HNN : Hid (nextNum want (n + 1) order left so = partNum want n order left so (n + 1)) := (show _ = _ from rfl)
  have HLN := Lib.hid hlen
  clear hr hA hf hw hn ho hlk hlen
  have hnz : ((n : Int) + 1 == 0) = false := by simp; omega
  go_enter Try.func95, Try.ntmps95
  go_wp2_with fail
  go_loopw [28] (fun i wr => ∃ j : Nat, j ≤ n + 1 ∧ i = .int .i64 j ∧ Hid (Kept bf bo w wr ∧ wr.ownsRow 0 3 1 (.slice (some ⟨bo, 0, none⟩) k N) k (ints order) ∧ wr.heap[bf]? = some (.cells #[.int .i64 (p + partNum want n order left so j : Nat), .int .i64 (q + j * fact n : Nat)] 80 (0, 0)))) (fun i _ => (n + 1) - (intOf i).toNat)
  case atStart => exact ⟨0, Nat.zero_le _, rfl, Kept.refl _ _ _, HO.out, by simpa [partNum] using HF.out⟩
  case round =>
    obtain ⟨j, hj, rfl, HI⟩ := hrel
    by_cases hlt : j < n + 1
    · have hR := HR.out.kept HI.out.1 HA.out
      obtain ⟨b, off, x, rfl, hx, hc⟩ := hR.at hlt
      have hT := hR.take j (by omega)
      have HX := Lib.hid hx
      have hgb : -8 ≤ gainL order x ∧ gainL order x ≤ 8 := by
        have h1 := gainL_bd order x
        have h2 := HL.out
        omega
      have hnn : n + 1 = left.length := hR.len.symm
      have HNN2 := Lib.hid hnn
      -- what the two cuts are, put together
      have hcat : ∃ (A2 : Option Addr) (n2 c2 : Nat), ((c = j + 1 ∧ A2 = some ⟨b, off, none⟩ ∧ n2 = 0 ∧ c2 = 0) ∨ (¬ c = j + 1 ∧ A2 = some ⟨b, off + (j + 1), none⟩ ∧ n2 = n - j ∧ c2 = c - (j + 1))) ∧
          Calls Try.prog 96 #[.slice (some ⟨wr.heap.size, 0, none⟩) 2 2] ((wr.alloc (.cells #[.slice (some ⟨b, off, none⟩) j c, .slice A2 n2 c2] 22)).drew) (CatPost (left.take j ++ left.drop (j + 1)) wr) := by
        by_cases hcj : c = j + 1
        · refine ⟨_, _, _, .inl ⟨hcj, rfl, rfl, rfl⟩, concat_two _ _ _ _ _ _ _ _ wr hT ⟨by simp; omega, by omega, by omega, fun e => (by cases e), fun k x hx => ?_⟩ (by omega)⟩
          rw [List.drop_eq_nil_of_le (by omega)] at hx
          simp at hx
        · refine ⟨_, _, _, .inr ⟨hcj, rfl, rfl, rfl⟩, concat_two _ _ _ _ _ _ _ _ wr hT ?_ (by omega)⟩
          have := hR.drop (j + 1) (by omega) (some ⟨b, off + (j + 1), none⟩) (fun _ b' off' e => by cases e; rfl) (fun e => (by cases e))
          rwa [show n + 1 - (j + 1) = n - j by omega] at this
      obtain ⟨A2, n2, c2, hor, hcall⟩ := hcat
      have HC := Lib.hid hcall
      clear hT hx hR hnn hcall
      rcases hor with ⟨rfl, rfl, rfl, rfl⟩ | ⟨hcj, rfl, rfl, rfl⟩
      all_goals
        go_wp2_with fail
        have a1 : IntKind.i64.wrap ((j : Int) + 1) = (j : Int) + 1 := by rw [IntKind.wrap_i64]; omega
        have a2 : 0 ≤ (j : Int) + 1 := by omega
        have a3 : (j : Int) + 1 ≤ (n : Int) + 1 := by omega
        have a4 : ((j : Int) + 1).toNat = j + 1 := by omega
        go_region_with (go_at_call 96; refine HC.out.mono ?_; rintro e w1 ⟨A1, m1, c1, rfl, hr1, hb1, hA1⟩; have HR1 := Lib.hid hr1; have HB1 := Lib.hid hb1; have HA1 := Lib.hid hA1; clear hr1 hb1 hA1)
        go_wp2_with fail
        try go_simp
        have hm1 : n = m1 := by
          have h1 := HR1.out.len
          have h2 := HNN2.out
          simp only [List.length_append, List.length_take, List.length_drop] at h1
          omega
        subst hm1
        have HPS : Hid (partNum want n order left so (j + 1) = partNum want n order left so j + nextNum want n (order ++ [x]) (left.take j ++ left.drop (j + 1)) (so + gainL order x)) := (show _ = _ from partNum_succ _ _ _ _ _ _ HX.out)
        have hown1 := own_below HI.out.2.1 HB1.out
        have k1 : Kept bf bo w w1 := HI.out.1.trans (Kept.of_below HB1.out)
        have hbn : w1.cell? ⟨bn, 0, none⟩ = some (.func (.func 95) #[] #[.pointer (some ⟨bf, 0, none⟩), .pointer (some ⟨bw, 0, none⟩), .pointer (some ⟨bn, 0, none⟩)]) := k1.cell HN.out hd4 hd5
        have K1 := Lib.hid k1
        have HO1 := Lib.hid hown1
        clear k1 hown1
        have HG : Hid (∀ W : World, W.ownsRow 0 3 1 (.slice (some ⟨bo, 0, none⟩) k N) k (ints order) → Calls Try.prog 94 #[.slice (some ⟨bo, 0, none⟩) k N, .int .i64 x] W fun e w' => e = .returned (.int .i64 (gainL order x)) ∧ W = w') := by
          show ∀ W : World, _
          intro W hW
          obtain ⟨A0, c0, e0, hr0⟩ := own_RdI hW
          cases e0
          exact gain_any _ _ _ _ _ _ hr0
        have hbo : bo < w1.heap.size := (HO1.out.lt bo rfl).2
        have hbn' : bn < w1.heap.size := World.block_lt_of_cell? w1 _ hbn
        have hNx : Hid (∀ (w2 : World) (c2 : Nat), c2 = c1 → w2.ownsRow 0 3 1 (.slice (some ⟨bo, 0, none⟩) (k + 1) N) (k + 1) (ints (order ++ [x])) → Kept bo bo w1 w2 →
            Calls Try.prog 95 #[.slice (some ⟨bo, 0, none⟩) (k + 1) N, .slice A1 n c1, .int .i64 (so + gainL order x), .pointer (some ⟨bf, 0, none⟩), .pointer (some ⟨bw, 0, none⟩), .pointer (some ⟨bn, 0, none⟩)] w2
              (NextPost bf bo N (k + 1) (order ++ [x]) (p + partNum want n order left so j + nextNum want n (order ++ [x]) (left.take j ++ left.drop (j + 1)) (so + gainL order x)) (q + j * fact n + fact n) w2)) := by
          show ∀ (w2 : World) (c2 : Nat), _
          intro w2 _ _ hown2 hk2
          have hsz : wr.heap.size ≤ w1.heap.size := HB1.out.size
          have hbf : bf < wr.heap.size := (Array.getElem?_eq_some_iff.1 HI.out.2.2).1
          have hbo' : bo < wr.heap.size := (HI.out.2.1.lt bo rfl).2
          have hpl := partNum_le want n order left so j
          have hml : j * fact n + fact n ≤ fact (n + 1) := by
            rw [HQ.out]
            have := Nat.mul_le_mul_right (fact n) (show j + 1 ≤ n + 1 by omega)
            rw [Nat.add_mul, Nat.one_mul] at this
            exact this
          refine IH.out (k + 1) (order ++ [x]) (left.take j ++ left.drop (j + 1)) (so + gainL order x) _ _ A1 c1 w2 (by simp [HL.out]) (by have := HLN.out; omega) ?_ ?_ ?_ ?_ ?_ hown2 (by omega) (by omega) (by omega) (by omega)
          · exact HR1.out.kept hk2 (fun b off s e => by have := HA1.out b off s e; omega)
          · intro b off s e
            have := HA1.out b off s e
            omega
          · rw [hk2.block bf (by omega) hd2.symm hd2.symm, HB1.out.block bf hbf]
            exact HI.out.2.2
          · exact hk2.cell (cell_below HB1.out (HI.out.1.cell HW.out hd1 hd3)) hd3 hd3
          · exact hk2.cell hbn hd5 hd5
        generalize gainL order x = gg at *
        have b1 : -1000 ≤ so := by omega
        have b2 : so ≤ 1000 := by omega
        have b3 : IntKind.i64.wrap (so + gg) = so + gg := by rw [IntKind.wrap_i64]; omega
        go_region_law (first
          | (refine step_append_in rfl _ _ rfl bo k N order rfl ?_ ⟨w1.heap.size, 0, none⟩ x rfl ?_ hkN ?_
             · first | exact (HO1.out.alloc _).drew | exact HO1.out.drew.alloc _ | exact HO1.out.alloc _
             · simp
             intro w2 hown2 hg2
             have hk2 : Kept bo bo w1 w2 := kept_of_grown (by first | exact (below_a1 _ _).drew | exact below_a1 _ _ | exact ((Below.refl _ w1).drew).alloc (Nat.le_refl _) _) hg2
             have hbn2 : w2.cell? ⟨bn, 0, none⟩ = some (.func (.func 95) #[] #[.pointer (some ⟨bf, 0, none⟩), .pointer (some ⟨bw, 0, none⟩), .pointer (some ⟨bn, 0, none⟩)]) := hk2.cell hbn hd5 hd5
             have HO2 := Lib.hid hown2
             have HG2 := Lib.hid hk2
             clear hown2 hg2 hk2)
          | (go_simp
             first
               | (go_at_call 94
                  first
                    | ((with_reducible refine (HG.out _ (ownsRow_prefix HO2.out)).mono ?_); rintro e w' ⟨rfl, rfl⟩)
                    | ((with_reducible refine (HG.out _ (HO1.out.alloc _).drew).mono ?_); rintro e w' ⟨rfl, rfl⟩)
                    | ((with_reducible refine (HG.out _ HO1.out.drew).mono ?_); rintro e w' ⟨rfl, rfl⟩)
                    | ((with_reducible refine (HG.out _ (HO1.out.alloc _)).mono ?_); rintro e w' ⟨rfl, rfl⟩)
                    | ((with_reducible refine (HG.out _ HO1.out).mono ?_); rintro e w' ⟨rfl, rfl⟩))
               | (go_at_call 95; refine (hNx.out w2 c1 rfl HO2.out HG2.out).mono ?_; rintro e w3 ⟨rfl, hk3, hown3, hf3⟩; have HK3 := Lib.hid hk3; have HO3 := Lib.hid hown3; have HF3 := Lib.hid hf3; clear hk3 hown3 hf3)))
        all_goals
          go_wp2_with fail
          go_roundw
          case rel =>
            refine ⟨j + 1, by omega, by go_num, (show _ ∧ _ ∧ _ from ⟨(K1.out.trans (kept_widen HG2.out)).trans HK3.out, ownsRow_prefix HO3.out, ?_⟩)⟩
            rw [HF3.out, HPS.out, Nat.add_mul, Nat.one_mul, Nat.add_assoc, Nat.add_assoc]
          case measure => simp [intOf]; omega
    · obtain rfl : j = n + 1 := by omega
      go_wp2_with fail
      refine bodyPost_ret (results_none rfl _ _ _) rfl ?_
      exact ⟨rfl, HI.out.1, HI.out.2.1, by rw [HNN.out, HQ.out]; exact HI.out.2.2⟩
end Go.Proofs.Ytcmjpcmdgnbbpaa
