/- A box of changed cells: which gears have to be worn, and all the explanations with the fewest members. -/
import Derived.Test.YtcmjpcmdgnbbpaaNewBox
namespace Go.Proofs.Ytcmjpcmdgnbbpaa
open Go.RowKit

def wornTo (bys : List Nat) (loose k : Nat) : Nat := (List.range k).foldl (fun acc s => if loose.testBit s then acc else acc ||| bys.getD s 0) 0
theorem wornTo_succ (bys : List Nat) (loose k : Nat) : wornTo bys loose (k + 1) = if loose.testBit k then wornTo bys loose k else wornTo bys loose k ||| bys.getD k 0 := by
  unfold wornTo; rw [List.range_succ, List.foldl_append]; rfl
theorem wornTo_lt {bys : List Nat} (h : Small bys) (loose k : Nat) : wornTo bys loose k < 4096 := by
  induction k with
  | zero => simp [wornTo]
  | succ k ih =>
    rw [wornTo_succ]
    split
    · exact ih
    · exact Nat.or_lt_two_pow (n := 12) ih (h k)
/-- the gears that have to be worn -/
def wornS (bys : List Nat) (loose : Nat) : Nat := wornTo bys loose bys.length

set_option maxHeartbeats 1000000 in
theorem worn_any (bb : Nat) (A : Option Addr) (n c : Nat) (bys : List Nat) (loose : Nat) (w : World) (hb : w.cell? ⟨bb, 3, none⟩ = some (.slice A n c)) (h : RdI w A n c (nats bys)) (hn : n ≤ 8) (hl : loose < 65536) (hs : Small bys) :
    Calls Try.prog 102 #[.pointer (some ⟨bb, 0, none⟩), .int .i64 loose] w fun e w' => e = .returned (.int .i64 (wornS bys loose)) ∧ w = w' := by
  have H := Lib.hid h
  have hlen : bys.length = n := by have := h.len; simpa [nats] using this
  have HL := Lib.hid hlen
  have HS := Lib.hid hs
  clear h hlen hs
  go_enter Try.func102, Try.ntmps102
  go_wp2_with fail
  go_loop [4, 12] (fun s i => ∃ k : Nat, k ≤ n ∧ i = .int .i64 k ∧ s = .int .i64 (wornTo bys loose k)) (fun _ i => n - (intOf i).toNat)
  case atStart => exact ⟨0, Nat.zero_le _, rfl, by simp [wornTo]⟩
  case round =>
    obtain ⟨k, hk, rfl, rfl⟩ := hrel
    have hwl := wornTo_lt HS.out loose k
    by_cases hlt : k < n
    · obtain ⟨b, off, x, rfl, hx, hc⟩ := H.out.at hlt
      rw [nats_get] at hx
      obtain ⟨y, hy, rfl⟩ := Option.map_eq_some_iff.1 hx
      have hyl : y < 4096 := by have := HS.out k; rw [List.getD_eq_getElem?_getD, hy] at this; exact this
      have hyd : bys.getD k 0 = y := by rw [List.getD_eq_getElem?_getD, hy]; rfl
      have HW := Lib.hid (wornTo_succ bys loose k)
      rw [hyd] at HW
      obtain ⟨q, hq⟩ : ∃ q, loose / 2 ^ k = q := ⟨_, rfl⟩
      have e1 : (loose : Int) / 2 ^ k = (q : Int) := by rw [← hq]; simp
      have hqs : q ≤ loose := by rw [← hq]; exact Nat.div_le_self _ _
      have e2 := bits_and_one q (by omega)
      have e3 : q % 2 = if loose.testBit k then 1 else 0 := by rw [← hq]; exact bit_eq loose k
      have e5 := bits_or_nat (wornTo bys loose k) y (by omega) (by omega)
      clear hx hy hyd hq
      generalize wornTo bys loose k = acc at *
      have hk63 : k ≤ 63 := by omega
      cases ht : loose.testBit k with
      | true =>
        rw [ht, if_pos rfl] at e3 HW
        rw [e3] at e2
        have E3 := Lib.hid e3; clear e3 ht
        go_wp2_with fail
        go_round
        case rel => exact ⟨k + 1, by omega, by go_num, by rw [HW.out]⟩
        case measure => simp [intOf]; omega
      | false =>
        rw [ht, if_neg (by simp)] at e3 HW
        rw [e3] at e2
        have E3 := Lib.hid e3; clear e3 ht
        go_wp2_with fail
        go_round
        case rel => exact ⟨k + 1, by omega, by go_num, by rw [HW.out]⟩
        case measure => simp [intOf]; omega
    · obtain rfl : k = n := by omega
      go_wp2_with fail
      go_ret
      exact ⟨by unfold wornS; rw [HL.out]; rfl, rfl⟩

theorem size_any (A1 A2 : Option Addr) (n1 c1 n2 c2 : Nat) (w : World) (h1 : n1 ≤ 1000000) (h2 : n2 ≤ 1000000) :
    Calls Try.prog 103 #[.agg #[.slice A1 n1 c1, .slice A2 n2 c2]] w fun e w' => e = .returned (.int .i64 ((n1 + n2 : Nat) : Int)) ∧ w' = w.alloc (.cells #[.slice A1 n1 c1, .slice A2 n2 c2] 92) := by
  go_enter Try.func103, Try.ntmps103
  go_wp2_with fail
  go_ret
  exact ⟨ret_int (by simp), rfl⟩

theorem info92 : (Try.prog.info? 92).map (fun i => (i.zero, i.size, i.bytes)) = some (some (.agg #[.slice none 0 0, .slice none 0 0]), 2, 48) := by kernel_rfl

/-- all with the fewest members, so far -/
def explTo (sz : Nat → Nat) : Nat → List Nat
  | 0 => []
  | k + 1 => match explTo sz k with
    | [] => [k]
    | h :: t => if sz h < sz k then h :: t else if sz k < sz h then [k] else h :: t ++ [k]
theorem explTo_len (sz : Nat → Nat) (k : Nat) : (explTo sz k).length ≤ k := by
  induction k with
  | zero => simp [explTo]
  | succ k ih =>
    simp only [explTo]
    split
    · simp
    · rename_i h t e
      rw [e] at ih
      simp only [List.length_cons] at ih
      split
      · simp; omega
      · split <;> simp <;> omega
def szX (bys : List Nat) (l : Nat) : Nat := (mem l).length + (mem (wornS bys l)).length
/-- these cells are explanations by these sets of sensors -/
def AreX (B : Nat) (w : World) (cs : List Value) (bys ls : List Nat) : Prop :=
  cs.length = ls.length * 2 ∧ ∀ (k l : Nat), ls[k]? = some l → ∃ A1 n1 c1 A2 n2 c2, cs[k * 2]? = some (Value.slice A1 n1 c1) ∧ cs[k * 2 + 1]? = some (Value.slice A2 n2 c2) ∧ RdM B w A1 n1 c1 (mem l) ∧ RdM B w A2 n2 c2 (mem (wornS bys l))
theorem AreX.below {B : Nat} {w w1 : World} {cs : List Value} {bys ls : List Nat} (h : AreX B w cs bys ls) (hb : Below w.heap.size w w1) : AreX B w1 cs bys ls :=
  ⟨h.1, fun k l hl => by obtain ⟨A1, n1, c1, A2, n2, c2, h1, h2, h3, h4⟩ := h.2 k l hl; exact ⟨A1, n1, c1, A2, n2, c2, h1, h2, h3.below hb, h4.below hb⟩⟩
theorem mem_len (s : Nat) : (mem s).length ≤ 16 := memTo_len s 16
theorem AreX.snoc {B : Nat} {w : World} {cs : List Value} {bys ls : List Nat} (h : AreX B w cs bys ls) {l : Nat} {A1 A2 : Option Addr} {n1 c1 n2 c2 : Nat} (h1 : RdM B w A1 n1 c1 (mem l)) (h2 : RdM B w A2 n2 c2 (mem (wornS bys l))) :
    AreX B w (cs ++ [.slice A1 n1 c1, .slice A2 n2 c2]) bys (ls ++ [l]) := by
  refine ⟨by simp [h.1, Nat.add_mul], fun k m hm => ?_⟩
  by_cases hk : k < ls.length
  · rw [List.getElem?_append_left hk] at hm
    obtain ⟨A1', n1', c1', A2', n2', c2', g1, g2, g3, g4⟩ := h.2 k m hm
    have hl := h.1
    exact ⟨A1', n1', c1', A2', n2', c2', by rw [List.getElem?_append_left (by omega)]; exact g1, by rw [List.getElem?_append_left (by omega)]; exact g2, g3, g4⟩
  · have hk2 := (List.getElem?_eq_some_iff.1 hm).1
    simp at hk2
    obtain rfl : k = ls.length := by omega
    obtain rfl : l = m := by simpa using hm
    exact ⟨A1, n1, c1, A2, n2, c2, by rw [← h.1]; simp, by rw [← h.1]; simp, h1, h2⟩

theorem AreX.grown {B : Nat} {w w1 : World} {cs : List Value} {bys ls : List Nat} (h : AreX B w cs bys ls) {g : Nat} {cur : Array Value} {t : TypeId} {z : Nat × Nat} (hg : w.grownBy w1 (some g)) (hh : w.heap[g]? = some (.cells cur t z)) (ht : t ≠ 3) : AreX B w1 cs bys ls :=
  ⟨h.1, fun k l hl => by obtain ⟨A1, n1, c1, A2, n2, c2, h1, h2, h3, h4⟩ := h.2 k l hl; exact ⟨A1, n1, c1, A2, n2, c2, h1, h2, h3.grown hg hh ht, h4.grown hg hh ht⟩⟩
/-- 'append(out, x)' of an explanation -/
theorem wpList_append_x {w : World} {ops : Array Oper} {rest : List Oper} {o : Oper} {a : Act} {Q : Exit → Act → World → Prop} (hgd : o.guard = none) (s x : Operand)
    (ho : o.op = .call { callee := .builtin .append, args := #[s, x], argTypes := #[94, 94] })
    (base : Nat) (A : Option Addr) (n c : Nat) (cs : List Value) (hs : a.eval s = .slice A n c) (hown : w.ownsRow base 92 2 (.slice A n c) n cs)
    (B1 B2 : Option Addr) (m1 d1 m2 d2 W : Nat) (hx : a.eval x = .slice (some ⟨W, 0, none⟩) 1 1) (h1 : w.cell? ⟨W, 0, none⟩ = some (.slice B1 m1 d1)) (h2 : w.cell? ⟨W, 1, none⟩ = some (.slice B2 m2 d2))
    (hsmall : n ≤ 1000000) (hbase : base ≤ w.heap.size)
    (h : ∀ A' c' w', w'.ownsRow base 92 2 (.slice A' (n + 1) c') (n + 1) (cs ++ [.slice B1 m1 d1, .slice B2 m2 d2]) → w.grownBy w' (Value.slice A n c).ownBlock → wpList Try.prog ops Q rest (a.put o.dst (.slice A' (n + 1) c')) w') : wpList Try.prog ops Q (o :: rest) a w := by
  obtain ⟨i, hi, hz0, hz1, hz2⟩ := info_parts info92
  refine wpList_append_own _ hgd s x 94 ho base 92 i _ 2 48 Try.underlying94 hi hz0 hz1 hz2 rfl (by decide) _ n cs hs hown ⟨W, 0, none⟩ 1 1 [.slice B1 m1 d1, .slice B2 m2 d2] hx rfl ?_ ?_ (by unfold maxLen; omega) (by omega) hbase ?_
  · intro j u hu
    have hj := (List.getElem?_eq_some_iff.1 hu).1
    rw [Addr.add_lit]
    match j, hj with
    | 0, _ => obtain rfl : Value.slice B1 m1 d1 = u := by simpa using hu
              exact h1
    | 1, _ => obtain rfl : Value.slice B2 m2 d2 = u := by simpa using hu
              exact h2
  · intro u hu
    simp at hu
    rcases hu with rfl | rfl <;> rfl
  · intro v' w' g1 g2 _
    obtain ⟨A', c', rfl⟩ : ∃ A c, v' = .slice A (n + 1) c := by
      rcases g1.2 with ⟨rfl, h0⟩ | ⟨g, cap, cur, rfl, _⟩
      · omega
      · exact ⟨_, cap, rfl⟩
    exact h A' c' w' g1 g2
theorem own_block {w : World} {base n m c size : Nat} {e : TypeId} {A : Option Addr} {xs : List Value} (h : w.ownsRow base e size (.slice A m c) n xs) :
    A = none ∨ ∃ g cur z, A = some ⟨g, 0, none⟩ ∧ base ≤ g ∧ w.heap[g]? = some (.cells cur e z) := by
  rcases h.2 with ⟨h1, _⟩ | ⟨g, cap, cur, hv, hb, hg, _⟩
  · cases h1; exact .inl rfl
  · cases hv; exact .inr ⟨g, cur, _, rfl, hb, hg⟩
/-- an append to explanations: what is known behind it -/
theorem X_step {B : Nat} {w W w' : World} {base n c k : Nat} {A A' : Option Addr} {cs : List Value} {bys ls : List Nat} {B1 B2 : Option Addr} {m1 d1 m2 d2 c' : Nat} (hb : Below w.heap.size w W) (hbase : base ≤ w.heap.size) (ho : W.ownsRow base 92 2 (.slice A n c) n cs) (hx : AreX B W cs bys ls)
    (h1 : RdM B W B1 m1 d1 (mem k)) (h2 : RdM B W B2 m2 d2 (mem (wornS bys k))) (_hw : w'.ownsRow base 92 2 (.slice A' (n + 1) c') (n + 1) (cs ++ [.slice B1 m1 d1, .slice B2 m2 d2])) (hg : W.grownBy w' (Value.slice A n c).ownBlock) (w0 : World) (h0 : Below w0.heap.size w0 w) (hw0 : w0.heap.size ≤ base) :
    AreX B w' (cs ++ [.slice B1 m1 d1, .slice B2 m2 d2]) bys (ls ++ [k]) ∧ Below w0.heap.size w0 w' := by
  have hs := hx.snoc h1 h2
  have hsz : w0.heap.size ≤ W.heap.size := by have := hb.size; omega
  have hB : Below w0.heap.size w0 W := below_trans h0 hb
  rcases own_block ho with rfl | ⟨g, cur, z, rfl, hgb, hh⟩
  · have hb2 : Below W.heap.size W w' := ⟨hg.os, hg.tape, hg.output, hg.size, fun k hk => hg.block k hk (by simp [Value.ownBlock])⟩
    exact ⟨hs.below hb2, below_trans hB hb2⟩
  · exact ⟨hs.grown hg hh (by decide), hB.grown hg hsz (fun q hq => by simp [Value.ownBlock] at hq; omega)⟩
theorem own_shape {w : World} {base n size : Nat} {e : TypeId} {v : Value} {xs : List Value} (h : w.ownsRow base e size v n xs) : ∃ A c, v = .slice A n c := by
  rcases h.2 with ⟨rfl, rfl⟩ | ⟨g, cap, cur, rfl, _⟩
  · exact ⟨none, 0, rfl⟩
  · exact ⟨_, cap, rfl⟩
theorem own_cell {w : World} {base n m c size : Nat} {e : TypeId} {A : Option Addr} {xs : List Value} (h : w.ownsRow base e size (.slice A m c) n xs) {j : Nat} {u : Value} (hu : xs[j]? = some u) :
    ∃ g, A = some ⟨g, 0, none⟩ ∧ base ≤ g ∧ w.cell? ⟨g, j, none⟩ = some u := by
  rcases h.2 with ⟨_, rfl⟩ | ⟨g, cap, cur, hv, hb, _⟩
  · have := h.1
    have h2 := (List.getElem?_eq_some_iff.1 hu).1
    simp at this
    subst this
    simp at h2
  · cases hv
    have := h.cells (g := g) rfl j u hu
    rw [Addr.add_lit] at this
    exact ⟨g, rfl, hb, by simpa using this⟩

set_option maxRecDepth 100000 in
set_option maxHeartbeats 8000000 in
theorem explanations_any (bb sensors : Nat) (A : Option Addr) (c : Nat) (bys : List Nat) (w : World) (h0 : w.cell? ⟨bb, 0, none⟩ = some (.int .i64 sensors)) (hb : w.cell? ⟨bb, 3, none⟩ = some (.slice A sensors c))
    (h : RdI w A sensors c (nats bys)) (hn : sensors ≤ 8) (hs : Small bys) :
    Calls Try.prog 70 #[.pointer (some ⟨bb, 0, none⟩)] w fun e w' => ∃ v cs, e = .returned v ∧ w'.ownsRow w.heap.size 92 2 v (explTo (szX bys) (2 ^ sensors)).length cs ∧ AreX w.heap.size w' cs bys (explTo (szX bys) (2 ^ sensors)) ∧ Below w.heap.size w w' := by
  have H := Lib.hid h
  have HS := Lib.hid hs
  have HC := Lib.hid hb
  clear h hs hb
  obtain ⟨T, hT⟩ : ∃ T, 2 ^ sensors = T := ⟨_, rfl⟩
  have hT2 : T ≤ 256 := by rw [← hT]; exact Nat.pow_le_pow_right (n := 2) (by omega) hn
  have e1 : (2 : Int) ^ sensors = (T : Int) := by rw [← hT]; simp
  have HT := Lib.hid hT
  rw [hT]
  clear hT
  go_enter Try.func70, Try.ntmps70
  go_wp2_with fail
  go_loopw [2, 10] (fun u i wr => ∃ (k : Nat) (v : Value) (cs : List Value), k ≤ T ∧ i = .int .i64 k ∧ u = v ∧ Hid (wr.ownsRow w.heap.size 92 2 v (explTo (szX bys) k).length cs) ∧ Hid (AreX w.heap.size wr cs bys (explTo (szX bys) k)) ∧ Hid (Below w.heap.size w wr)) (fun _ i _ => T - (intOf i).toNat)
  case atStart => exact ⟨0, _, [], by omega, rfl, rfl, World.ownsRow_nil _ _ _ _, (show _ ∧ _ from ⟨rfl, fun k l hl => by simp [explTo] at hl⟩), Below.refl _ _⟩
  case round =>
    obtain ⟨k, v, cs, hk, rfl, rfl, HO, HX, HB⟩ := hrel
    by_cases hlt : k < T
    · have HES : Hid (explTo (szX bys) (k + 1) = match explTo (szX bys) k with
          | [] => [k]
          | h :: t => if szX bys h < szX bys k then h :: t else if szX bys k < szX bys h then [k] else h :: t ++ [k]) := (show _ = _ from rfl)
      have HM1 := Lib.hid (members_any k)
      have HM2 := Lib.hid (members_any (wornS bys k))
      have hws : wornS bys k < 65536 := Nat.lt_trans (wornTo_lt HS.out k _) (by omega)
      have HWS := Lib.hid hws
      have HK := Lib.hid (show k < 65536 by omega)
      have HW : Hid (∀ W, Below w.heap.size w W → Calls Try.prog 102 #[.pointer (some ⟨bb, 0, none⟩), .int .i64 k] W fun e w' => e = .returned (.int .i64 (wornS bys k)) ∧ W = w') :=
        (show ∀ W, _ from fun W hb => worn_any bb A sensors c bys k W (cell_below hb HC.out) (H.out.below hb) hn (by omega) HS.out)
      have HSZ : Hid (szX bys k = (mem k).length + (mem (wornS bys k)).length) := (show _ = _ from rfl)
      clear hws
      generalize hls : explTo (szX bys) k = ls at *
      have HLS := Lib.hid hls; clear hls
      generalize hwk : wornS bys k = wk at *
      have HWK := Lib.hid hwk; clear hwk
      obtain ⟨Av, cv, rfl⟩ := own_shape HO.out
      have hsmall : ls.length ≤ 300 := by rw [← HLS.out]; exact Nat.le_trans (explTo_len _ _) (by omega)
      have hb0 := HB.out.size
      cases ls with
      | nil =>
        go_wp2_with (first
          | (go_at_call 87; (with_reducible refine (HM2.out _ HWS.out).mono ?_); rintro e w2 ⟨A2, n2, c2, rfl, hr2, hb2⟩; have HR2 := Lib.hid (hr2.lower (Nat.le_trans hb0 HB1.out.size)); have HB2 := Lib.hid hb2; clear hr2 hb2)
          | (go_at_call 87; (with_reducible refine (HM1.out _ HK.out).mono ?_); rintro e w1 ⟨A1, n1, c1, rfl, hr1, hb1⟩; have HR1 := Lib.hid (hr1.lower hb0); have HB1 := Lib.hid hb1; clear hr1 hb1)
          | (go_at_call 102; refine (HW.out _ (below_trans HB.out HB1.out)).mono ?_; rintro e w' ⟨rfl, rfl⟩))
        go_quiet (fail)
        go_wp2_with fail
        go_quiet (fail)
        have HBB := Lib.hid (below_trans HB1.out HB2.out)
        go_wp2_with (at_builtin
                     go_must (refine wpList_append_x rfl _ _ rfl w.heap.size _ _ _ cs rfl (own_below HO.out ?_) A1 A2 n1 c1 n2 c2 _ rfl ?_ ?_ ?_ ?_ ?_)
                     · repeat (first | exact HBB.out | refine Below.drew ?_ | refine below_drewN ?_ _ | refine below_alloc ?_ _)
                     · exact (cell_new (by first | (simp; done) | (show _ = (World.alloc _ _).heap.size; simp))).trans rfl
                     · exact (cell_new (by first | (simp; done) | (show _ = (World.alloc _ _).heap.size; simp))).trans rfl
                     · first | omega | simp
                     · exact Nat.le_trans hb0 (Nat.le_trans HBB.out.size (by first | (simp; done) | (simp; omega)))
                     intro A' c' w' h1 h2
                     have H1 := Lib.hid h1
                     have H2 := Lib.hid h2
                     clear h1 h2)
        go_roundw
        case rel =>
          have hx := X_step (w := wr) (by repeat (first | exact HBB.out | exact HB2.out | exact Below.refl _ _ | refine Below.drew ?_ | refine below_drewN ?_ _ | refine below_alloc ?_ _)) hb0 (own_below HO.out (by repeat (first | exact HBB.out | exact HB2.out | exact Below.refl _ _ | refine Below.drew ?_ | refine below_drewN ?_ _ | refine below_alloc ?_ _))) (HX.out.below (by repeat (first | exact HBB.out | exact HB2.out | exact Below.refl _ _ | refine Below.drew ?_ | refine below_drewN ?_ _ | refine below_alloc ?_ _))) (HR1.out.below (by repeat (first | exact HBB.out | exact HB2.out | exact Below.refl _ _ | refine Below.drew ?_ | refine below_drewN ?_ _ | refine below_alloc ?_ _))) (by rw [HWK.out]; exact HR2.out.below (by repeat (first | exact HBB.out | exact HB2.out | exact Below.refl _ _ | refine Below.drew ?_ | refine below_drewN ?_ _ | refine below_alloc ?_ _))) H1.out H2.out w HB.out (Nat.le_refl _)
          refine ⟨k + 1, _, cs ++ [.slice A1 n1 c1, .slice A2 n2 c2], by omega, by go_num, rfl, ?_, ?_, hx.2⟩
          · show World.ownsRow _ _ _ _ _ _ _
            rw [show explTo (szX bys) (k + 1) = [k] from HES.out]
            exact H1.out
          · show AreX _ _ _ _ _
            rw [show explTo (szX bys) (k + 1) = [k] from HES.out]
            exact hx.1
        case measure => simp [intOf]; omega
      | cons h t =>
        have hsmall2 : t.length + 1 ≤ 300 := hsmall
        obtain ⟨B1, m1, d1, B2, m2, d2, g1, g2, q1, q2⟩ := HX.out.2 0 h rfl
        have hszh : szX bys h = m1 + m2 := by unfold szX; rw [q1.rd.len, q2.rd.len]
        have HSH := Lib.hid hszh
        have hm1 : m1 ≤ 16 := by rw [← q1.rd.len]; exact mem_len _
        have hm2 : m2 ≤ 16 := by rw [← q2.rd.len]; exact mem_len _
        obtain ⟨g, rfl, hg, f1⟩ := own_cell HO.out g1
        obtain ⟨g', e', _, f2⟩ := own_cell HO.out g2
        cases e'
        simp only [Nat.zero_mul, Nat.zero_add] at f1 f2
        have F1 := Lib.hid f1
        have F2 := Lib.hid f2
        clear g1 g2 q1 q2 hszh f1 f2
        go_wp2_with (first
          | (go_at_call 87; (with_reducible refine (HM2.out _ HWS.out).mono ?_); rintro e w2 ⟨A2, n2, c2, rfl, hr2, hb2⟩; have HR2 := Lib.hid (hr2.lower (Nat.le_trans hb0 HB1.out.size)); have HB2 := Lib.hid hb2; clear hr2 hb2)
          | (go_at_call 87; (with_reducible refine (HM1.out _ HK.out).mono ?_); rintro e w1 ⟨A1, n1, c1, rfl, hr1, hb1⟩; have HR1 := Lib.hid (hr1.lower hb0); have HB1 := Lib.hid hb1; clear hr1 hb1)
          | (go_at_call 102; refine (HW.out _ (below_trans HB.out HB1.out)).mono ?_; rintro e w' ⟨rfl, rfl⟩))
        have hk1 : n1 ≤ 16 := by rw [← HR1.out.rd.len]; exact mem_len _
        have hk2 : n2 ≤ 16 := by rw [← HR2.out.rd.len]; exact mem_len _
        have hszk : szX bys k = n1 + n2 := by rw [HSZ.out, HR1.out.rd.len, HR2.out.rd.len]
        have f1 := cell_below HB2.out (cell_below HB1.out F1.out)
        have f2 := cell_below HB2.out (cell_below HB1.out F2.out)
        have HES2 : Hid (explTo (szX bys) (k + 1) = if m1 + m2 < n1 + n2 then h :: t else if n1 + n2 < m1 + m2 then [k] else h :: t ++ [k]) := by
          show _ = _
          have := HES.out
          simp only [hszk, HSH.out] at this
          exact this
        clear hszk
        have hgl : g < w2.heap.size := World.block_lt_of_cell? w2 _ f1
        have hgl1 : g < w2.heap.size + 1 := by omega
        have hgl2 : g < w2.heap.size + 1 + 1 := by omega
        have hgl3 : g < w2.heap.size + 1 + 1 + 1 := by omega
        have hgl4 : g < w2.heap.size + 1 + 1 + 1 + 1 := by omega
        have HBB := Lib.hid (below_trans HB1.out HB2.out)
        rcases Nat.lt_trichotomy (m1 + m2) (n1 + n2) with hc | hc | hc
        · rw [if_pos hc] at HES2
          go_region_with (go_at_call 103; refine (size_any _ _ _ _ _ _ _ (by omega) (by omega)).mono ?_; rintro e w' ⟨rfl, rfl⟩)
          all_goals
            go_wp2_with fail
            go_roundw
            case rel =>
              exact ⟨k + 1, _, cs, by omega, by go_num, rfl, (show World.ownsRow _ _ _ _ _ _ _ by rw [HES2.out]; exact own_below HO.out (by repeat (first | exact HBB.out | exact HB2.out | exact Below.refl _ _ | refine Below.drew ?_ | refine below_drewN ?_ _ | refine below_alloc ?_ _))), (show AreX _ _ _ _ _ by rw [HES2.out]; exact HX.out.below (by repeat (first | exact HBB.out | exact HB2.out | exact Below.refl _ _ | refine Below.drew ?_ | refine below_drewN ?_ _ | refine below_alloc ?_ _))), below_trans HB.out (by repeat (first | exact HBB.out | exact HB2.out | exact Below.refl _ _ | refine Below.drew ?_ | refine below_drewN ?_ _ | refine below_alloc ?_ _))⟩
            case measure => simp [intOf]; omega
        · have hc1 : ¬ (m1 + m2 < n1 + n2) := by omega
          have hc2 : ¬ (n1 + n2 < m1 + m2) := by omega
          rw [if_neg hc1, if_neg hc2] at HES2
          clear hc
          go_region_with (go_at_call 103; refine (size_any _ _ _ _ _ _ _ (by omega) (by omega)).mono ?_; rintro e w' ⟨rfl, rfl⟩)
          all_goals
            go_wp2_with fail
            go_region_with (go_at_call 103; refine (size_any _ _ _ _ _ _ _ (by omega) (by omega)).mono ?_; rintro e w' ⟨rfl, rfl⟩)
          all_goals
            go_wp2_with (at_builtin
                         go_must (refine wpList_append_x rfl _ _ rfl w.heap.size _ _ _ cs rfl (own_below HO.out ?_) A1 A2 n1 c1 n2 c2 _ rfl ?_ ?_ ?_ ?_ ?_)
                         · repeat (first | exact HBB.out | refine Below.drew ?_ | refine below_drewN ?_ _ | refine below_alloc ?_ _)
                         · exact (cell_new (by first | (simp; done) | (show _ = (World.alloc _ _).heap.size; simp))).trans rfl
                         · exact (cell_new (by first | (simp; done) | (show _ = (World.alloc _ _).heap.size; simp))).trans rfl
                         · first | omega | simp
                         · exact Nat.le_trans hb0 (Nat.le_trans HBB.out.size (by first | (simp; done) | (simp; omega)))
                         intro A' c' w' h1 h2
                         have H1 := Lib.hid h1
                         have H2 := Lib.hid h2
                         clear h1 h2)
            go_roundw
            case rel =>
              have hx := X_step (w := wr) (by repeat (first | exact HBB.out | exact HB2.out | exact Below.refl _ _ | refine Below.drew ?_ | refine below_drewN ?_ _ | refine below_alloc ?_ _)) hb0 (own_below HO.out (by repeat (first | exact HBB.out | exact HB2.out | exact Below.refl _ _ | refine Below.drew ?_ | refine below_drewN ?_ _ | refine below_alloc ?_ _))) (HX.out.below (by repeat (first | exact HBB.out | exact HB2.out | exact Below.refl _ _ | refine Below.drew ?_ | refine below_drewN ?_ _ | refine below_alloc ?_ _))) (HR1.out.below (by repeat (first | exact HBB.out | exact HB2.out | exact Below.refl _ _ | refine Below.drew ?_ | refine below_drewN ?_ _ | refine below_alloc ?_ _))) (by rw [HWK.out]; exact HR2.out.below (by repeat (first | exact HBB.out | exact HB2.out | exact Below.refl _ _ | refine Below.drew ?_ | refine below_drewN ?_ _ | refine below_alloc ?_ _))) H1.out H2.out w HB.out (Nat.le_refl _)
              refine ⟨k + 1, _, cs ++ [.slice A1 n1 c1, .slice A2 n2 c2], by omega, by go_num, rfl, ?_, ?_, hx.2⟩
              · show World.ownsRow _ _ _ _ _ _ _
                rw [HES2.out, List.length_append]
                exact H1.out
              · show AreX _ _ _ _ _
                rw [HES2.out]
                exact hx.1
            case measure => simp [intOf]; omega
        · have hc1 : ¬ (m1 + m2 < n1 + n2) := by omega
          rw [if_neg hc1, if_pos hc] at HES2
          go_region_with (go_at_call 103; refine (size_any _ _ _ _ _ _ _ (by omega) (by omega)).mono ?_; rintro e w' ⟨rfl, rfl⟩)
          all_goals
            go_wp2_with fail
            go_region_with (go_at_call 103; refine (size_any _ _ _ _ _ _ _ (by omega) (by omega)).mono ?_; rintro e w' ⟨rfl, rfl⟩)
          all_goals
            go_wp2_with (at_builtin
                         go_must (refine wpList_append_x rfl _ _ rfl w.heap.size none 0 0 [] rfl (World.ownsRow_nil _ _ _ _) A1 A2 n1 c1 n2 c2 _ rfl ?_ ?_ ?_ ?_ ?_)
                         · exact (cell_new (by first | (simp; done) | (show _ = (World.alloc _ _).heap.size; simp))).trans rfl
                         · exact (cell_new (by first | (simp; done) | (show _ = (World.alloc _ _).heap.size; simp))).trans rfl
                         · first | omega | simp
                         · exact Nat.le_trans hb0 (Nat.le_trans HBB.out.size (by first | (simp; done) | (simp; omega)))
                         intro A' c' w' h1 h2
                         have H1 := Lib.hid h1
                         have H2 := Lib.hid h2
                         clear h1 h2)
            go_roundw
            case rel =>
              have hx := X_step (w := wr) (by repeat (first | exact HBB.out | exact HB2.out | exact Below.refl _ _ | refine Below.drew ?_ | refine below_drewN ?_ _ | refine below_alloc ?_ _)) hb0 (World.ownsRow_nil _ _ _ _) (show AreX w.heap.size _ [] bys [] from ⟨rfl, fun k l hl => (by simp at hl)⟩) (HR1.out.below (by repeat (first | exact HBB.out | exact HB2.out | exact Below.refl _ _ | refine Below.drew ?_ | refine below_drewN ?_ _ | refine below_alloc ?_ _))) (by rw [HWK.out]; exact HR2.out.below (by repeat (first | exact HBB.out | exact HB2.out | exact Below.refl _ _ | refine Below.drew ?_ | refine below_drewN ?_ _ | refine below_alloc ?_ _))) H1.out H2.out w HB.out (Nat.le_refl _)
              refine ⟨k + 1, _, [] ++ [.slice A1 n1 c1, .slice A2 n2 c2], by omega, by go_num, rfl, ?_, ?_, hx.2⟩
              · show World.ownsRow _ _ _ _ _ _ _
                rw [HES2.out]
                exact H1.out
              · show AreX _ _ _ _ _
                rw [HES2.out]
                exact hx.1
            case measure => simp [intOf]; omega
    · obtain rfl : k = T := by omega
      go_wp2_with fail
      go_ret
      exact ⟨_, cs, rfl, HO.out, HX.out, HB.out⟩
end Go.Proofs.Ytcmjpcmdgnbbpaa
