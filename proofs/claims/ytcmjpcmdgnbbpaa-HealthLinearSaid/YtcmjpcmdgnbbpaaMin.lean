/- The explanation with the fewest sensors, and of these the first one; Explain of the program. -/
import Derived.Test.YtcmjpcmdgnbbpaaBox
namespace Go.Proofs.Ytcmjpcmdgnbbpaa
open Go.RowKit
def cmpX (xs ys : List Int) : Int := orL [(xs.length : Int) - ys.length, cmpL xs ys]
set_option maxHeartbeats 4000000 in
theorem cmpX_any (A1 A2 B1 B2 : Option Addr) (n1 c1 n2 c2 m1 d1 m2 d2 : Nat) (xs ys : List Int) (w : World) (h : RdI w A1 n1 c1 xs) (h' : RdI w B1 m1 d1 ys) :
    Calls Try.prog 71 #[.agg #[.slice A1 n1 c1, .slice A2 n2 c2], .agg #[.slice B1 m1 d1, .slice B2 m2 d2]] w fun e w' => e = .returned (.int .i64 (cmpX xs ys)) ∧ Below w.heap.size w w' := by
  have hm := h.size
  have hm' := h'.size
  have a1 : IntKind.i64.wrap ((n1 : Int) - (m1 : Int)) = (n1 : Int) - (m1 : Int) := by rw [IntKind.wrap_i64]; omega
  have HC : Hid (Calls Try.prog 73 #[.slice A1 n1 c1, .slice B1 m1 d1] ((w.alloc (.cells #[.slice A1 n1 c1, .slice A2 n2 c2] 92)).alloc (.cells #[.slice B1 m1 d1, .slice B2 m2 d2] 92)).drew fun e w' => e = .returned (.int .i64 (cmpL xs ys)) ∧ ((w.alloc (.cells #[.slice A1 n1 c1, .slice A2 n2 c2] 92)).alloc (.cells #[.slice B1 m1 d1, .slice B2 m2 d2] 92)).drew = w') :=
    (show Calls _ _ _ _ _ from compareL_any _ _ _ _ _ _ xs ys _ (h.below (below_a2 _ _ _).drew) (h'.below (below_a2 _ _ _).drew))
  have HX : Hid (cmpX xs ys = orL [(n1 : Int) - m1, cmpL xs ys]) := (show _ = _ by unfold cmpX; rw [h.len, h'.len])
  clear h h'
  generalize cmpL xs ys = cc at *
  generalize hd : (n1 : Int) - (m1 : Int) = dd at *
  have HD := Lib.hid hd
  have HO : Hid (Calls Try.prog 72 #[.slice (some ⟨w.heap.size + 1 + 1, 0, none⟩) 2 2] (((w.alloc (.cells #[.slice A1 n1 c1, .slice A2 n2 c2] 92)).alloc (.cells #[.slice B1 m1 d1, .slice B2 m2 d2] 92)).alloc (.cells #[.int .i64 dd, .int .i64 cc] 3)).drew fun e w' => e = .returned (.int .i64 (orL [dd, cc])) ∧ (((w.alloc (.cells #[.slice A1 n1 c1, .slice A2 n2 c2] 92)).alloc (.cells #[.slice B1 m1 d1, .slice B2 m2 d2] 92)).alloc (.cells #[.int .i64 dd, .int .i64 cc] 3)).drew = w') :=
    (show Calls _ _ _ _ _ from or_any _ _ _ [dd, cc] _ (RdI.drew (RdI.two (cell_new (by simp)) (cell_new (by simp)))))
  go_enter Try.func71, Try.ntmps71
  go_wp2_with fail
  go_region_held3 (fun W => W.cell? ⟨w.heap.size, 0, none⟩ = some (.slice A1 n1 c1) ∧ W.cell? ⟨w.heap.size + 1, 0, none⟩ = some (.slice B1 m1 d1)) (go_keep) (first
    | (go_at_call 73; refine HC.out.mono ?_; rintro e w' ⟨rfl, rfl⟩)
    | (go_at_call 72; refine HO.out.mono ?_; rintro e w' ⟨rfl, rfl⟩))
  all_goals
    go_wp2_with fail
    go_ret
    refine ⟨ret_int (by rw [HX.out]), ?_⟩
    repeat (first | exact Below.refl _ _ | refine Below.drew ?_ | refine below_drewN ?_ _ | refine below_alloc ?_ _)
/-- A slice of explanations by these sets of sensors. -/
structure RdX (B : Nat) (w : World) (A : Option Addr) (bys ls : List Nat) : Prop where
  cells : ∀ (k l : Nat), ls[k]? = some l → ∃ g A1 n1 c1 A2 n2 c2, A = some ⟨g, 0, none⟩ ∧ w.cell? ⟨g, k * 2, none⟩ = some (Value.slice A1 n1 c1) ∧ w.cell? ⟨g, k * 2 + 1, none⟩ = some (Value.slice A2 n2 c2) ∧
    RdI w A1 n1 c1 (mem l) ∧ RdI w A2 n2 c2 (mem (wornS bys l)) ∧ Fr B A1 ∧ Fr B A2
theorem RdX.below {B : Nat} {w w1 : World} {A : Option Addr} {bys ls : List Nat} (h : RdX B w A bys ls) (hb : Below w.heap.size w w1) : RdX B w1 A bys ls :=
  ⟨fun k l hl => by obtain ⟨g, A1, n1, c1, A2, n2, c2, e, h1, h2, h3, h4⟩ := h.cells k l hl; exact ⟨g, A1, n1, c1, A2, n2, c2, e, cell_below hb h1, cell_below hb h2, h3.below hb, h4.1.below hb, h4.2⟩⟩
def minX : List Nat → Nat
  | [] => 0
  | l :: ls => ls.foldl (fun m x => if cmpX (mem x) (mem m) < 0 then x else m) l
theorem minX_snoc (l : Nat) (ls : List Nat) (x : Nat) : minX (l :: ls ++ [x]) = if cmpX (mem x) (mem (minX (l :: ls))) < 0 then x else minX (l :: ls) := by
  simp only [minX, List.cons_append, List.foldl_append, List.foldl_cons, List.foldl_nil]
  try rfl
theorem enters71 : ∀ args w, (callFunc 71 args).run Try.prog w = .ok (.enter 71 args) w := enters_of Try.func71 (by kernel_rfl) rfl
set_option maxRecDepth 100000 in
set_option maxHeartbeats 8000000 in
theorem minFunc_any (B : Nat) (A : Option Addr) (n c : Nat) (bys ls : List Nat) (w : World) (h : RdX B w A bys ls) (hl : ls.length = n) (hn : 1 ≤ n) (hn2 : n ≤ 1000000) :
    Calls Try.prog 69 #[.slice A n c, .func (.func 71) #[] #[]] w fun e w' => ∃ A1 n1 c1 A2 n2 c2, e = .returned (.agg #[.slice A1 n1 c1, .slice A2 n2 c2]) ∧ RdI w' A1 n1 c1 (mem (minX ls)) ∧ RdI w' A2 n2 c2 (mem (wornS bys (minX ls))) ∧ (Fr B A1 ∧ Fr B A2) ∧ Below w.heap.size w w' := by
  have H := Lib.hid h
  have HL := Lib.hid hl
  obtain ⟨l0, lt, rfl⟩ : ∃ l0 lt, ls = l0 :: lt := by
    cases ls with
    | nil => simp at hl; omega
    | cons a b => exact ⟨a, b, rfl⟩
  obtain ⟨g, A1, n1, c1, A2, n2, c2, rfl, f1, f2, r1, r2, r3⟩ := h.cells 0 l0 rfl
  simp only [Nat.zero_mul, Nat.zero_add] at f1 f2
  have hgl : g < w.heap.size := World.block_lt_of_cell? w _ f1
  have R1 := Lib.hid r1
  have R2 := Lib.hid r2
  have R3 := Lib.hid r3
  have eg := enters71
  clear h hl r1 r2 r3
  go_enter Try.func69, Try.ntmps69
  go_wp2_with fail
  go_loopw [6] (fun i wr => ∃ (k : Nat) (D1 : Option Addr) (p1 q1 : Nat) (D2 : Option Addr) (p2 q2 : Nat), 1 ≤ k ∧ k ≤ n ∧ i = .int .i64 k ∧ Hid (Below w.heap.size w wr) ∧ Hid (wr.heap[w.heap.size]? = some (.cells #[.slice none 0 0, .slice none 0 0] 92 (0, 0))) ∧
      Hid (wr.heap[w.heap.size + 1]? = some (.cells #[.slice D1 p1 q1, .slice D2 p2 q2] 92 (0, 0))) ∧ Hid (RdI w D1 p1 q1 (mem (minX ((l0 :: lt).take k))) ∧ RdI w D2 p2 q2 (mem (wornS bys (minX ((l0 :: lt).take k)))) ∧ Fr B D1 ∧ Fr B D2)) (fun i _ => n - (intOf i).toNat)
  case atStart => exact ⟨1, A1, n1, c1, A2, n2, c2, by omega, hn, rfl, below_a2 _ _ _, (show _ = _ from by rw [heap_two, if_neg (by omega), if_pos rfl]), (show _ = _ from by rw [heap_two, if_pos rfl]), (show _ ∧ _ from ⟨R1.out, R2.out, R3.out⟩)⟩
  case round =>
    obtain ⟨k, D1, p1, q1, D2, p2, q2, hk1, hk, rfl, HB, HZ, HM, HR⟩ := hrel
    have e0 : wr.cell? ⟨w.heap.size + 1, 0, none⟩ = some (.slice D1 p1 q1) := cell_of_heap2 (o := 0) HM.out rfl
    have e1 : wr.cell? ⟨w.heap.size + 1, 1, none⟩ = some (.slice D2 p2 q2) := cell_of_heap2 (o := 1) HM.out rfl
    by_cases hlt : k < n
    · obtain ⟨l, hl⟩ : ∃ l, (l0 :: lt)[k]? = some l := ⟨_, List.getElem?_eq_getElem (by have := HL.out; omega)⟩
      obtain ⟨_, B1, m1, d1, B2, m2, d2, e', g1, g2, s1, s2, s3⟩ := H.out.cells k l hl
      cases e'
      have hx1 := cell_below HB.out g1
      have hx2 := cell_below HB.out g2
      have S1 := Lib.hid s1
      have S2 := Lib.hid s2
      have S3 := Lib.hid s3
      have HMS : Hid (minX ((l0 :: lt).take (k + 1)) = if cmpX (mem l) (mem (minX ((l0 :: lt).take k))) < 0 then l else minX ((l0 :: lt).take k)) := by
        show _ = _
        obtain ⟨j, rfl⟩ : ∃ j, k = j + 1 := ⟨k - 1, by omega⟩
        rw [take_succ_of hl]
        exact minX_snoc _ _ _
      have HC := Lib.hid (cmpX_any B1 B2 D1 D2 m1 d1 m2 d2 p1 q1 p2 q2 _ _ wr.drew ((S1.out.below HB.out).drew) ((HR.out.1.below HB.out).drew))
      clear g1 g2 s1 s2 s3 hl f1 f2
      generalize minX ((l0 :: lt).take k) = mk at *
      generalize cmpX (mem l) (mem mk) = cc at *
      have hb1 := HB.out.size
      go_wp2_with fail
      go_region_held3 (fun W => W.cell? ⟨g, k * 2, none⟩ = some (.slice B1 m1 d1) ∧ W.cell? ⟨g, k * 2 + 1, none⟩ = some (.slice B2 m2 d2) ∧ W.cell? ⟨w.heap.size + 1, 0, none⟩ = some (.slice D1 p1 q1) ∧ W.cell? ⟨w.heap.size + 1, 1, none⟩ = some (.slice D2 p2 q2))
        (first | go_keep | (have hb6 : Below wr.heap.size wr w5 := below_trans ((Below.refl _ wr).drew) hb5; exact ⟨cell_below hb6 hx1, cell_below hb6 hx2, cell_below hb6 e0, cell_below hb6 e1⟩))
        ((go_at_call 71; refine HC.out.mono ?_; rintro e w5 ⟨rfl, hb5⟩))
      have hb6 : Below wr.heap.size wr w5 := below_trans ((Below.refl _ wr).drew) hb5
      have hmz : w.heap.size + 1 < wr.heap.size := (Array.getElem?_eq_some_iff.1 HM.out).1
      have hm5 : w5.heap[w.heap.size + 1]? = some (.cells #[.slice D1 p1 q1, .slice D2 p2 q2] 92 (0, 0)) := (hb6.block _ hmz).trans HM.out
      have hz5 : w5.heap[w.heap.size]? = some (.cells #[.slice none 0 0, .slice none 0 0] 92 (0, 0)) := (hb6.block _ (by omega)).trans HZ.out
      have hc1 := cell_of_heap2 (o := 0) hm5 rfl
      have hc2 := cell_of_heap2 (o := 1) hm5 rfl
      have hf1 : w5.frozen? ⟨w.heap.size + 1, 0, none⟩ = false := frozen_of_heap2 hm5
      have hf2 : w5.frozen? ⟨w.heap.size + 1, 1, none⟩ = false := frozen_of_heap2 hm5
      have hx5 := cell_below hb6 hx1
      have hx6 := cell_below hb6 hx2
      have HB5 := Lib.hid hb6
      have HM5 := Lib.hid hm5
      have HZ5 := Lib.hid hz5
      clear hb6 hm5 hz5 hb5 hx1 hx2 e0 e1
      by_cases hcc : cc < 0
      · rw [if_pos hcc] at HMS
        go_wp2_with fail
        go_roundw
        case rel =>
          have g1 := heap_setCell_same w5 (w.heap.size + 1) 0 (.slice B1 m1 d1) _ _ _ HM5.out
          have g2 := heap_setCell_same _ (w.heap.size + 1) 1 (.slice B2 m2 d2) _ _ _ g1
          have z1 := HZ5.out
          exact ⟨k + 1, B1, m1, d1, B2, m2, d2, by omega, by omega, by first | rfl | go_num,
            (show Below _ _ _ from ((below_then HB.out HB.out.size HB5.out).setCell (by simp) _).setCell (by simp) _),
            (show _ = _ from by rw [Below.heap_setCell _ _ _ _ (by simp), Below.heap_setCell _ _ _ _ (by simp)]; exact z1),
            (show _ = _ from by rw [g2]; rfl), (show _ ∧ _ from by rw [HMS.out]; exact ⟨S1.out, S2.out, S3.out⟩)⟩
        case measure => simp [intOf]; omega
      · rw [if_neg hcc] at HMS
        go_wp2_with fail
        go_roundw
        case rel => exact ⟨k + 1, D1, p1, q1, D2, p2, q2, by omega, by omega, by first | rfl | go_num, below_then HB.out HB.out.size HB5.out, HZ5.out, HM5.out, (show _ ∧ _ from by rw [HMS.out]; exact HR.out)⟩
        case measure => simp [intOf]; omega
    · have hkn : k = n := by omega
      subst hkn
      have hf1 : wr.frozen? ⟨w.heap.size, 0, none⟩ = false := frozen_of_heap2 HZ.out
      have hf2 : wr.frozen? ⟨w.heap.size, 1, none⟩ = false := frozen_of_heap2 HZ.out
      have hz1 : wr.cell? ⟨w.heap.size, 0, none⟩ = some (.slice none 0 0) := cell_of_heap2 (o := 0) HZ.out rfl
      have hz2 : wr.cell? ⟨w.heap.size, 1, none⟩ = some (.slice none 0 0) := cell_of_heap2 (o := 1) HZ.out rfl
      go_wp2_with fail
      have HT : Hid ((l0 :: lt).take k = l0 :: lt) := (show _ = _ from List.take_of_length_le (by have := HL.out; omega))
      rw [HT.out] at HR
      have hb9 : Below w.heap.size w ((wr.setCell ⟨w.heap.size, 0, none⟩ (.slice D1 p1 q1)).setCell ⟨w.heap.size, 1, none⟩ (.slice D2 p2 q2)) := (HB.out.setCell (Nat.le_refl _) _).setCell (Nat.le_refl _) _
      have g1 := heap_setCell_same wr w.heap.size 0 (.slice D1 p1 q1) _ _ _ HZ.out
      have g2 := heap_setCell_same _ w.heap.size 1 (.slice D2 p2 q2) _ _ _ g1
      have k1 := cell_of_heap2 (o := 0) (v := .slice D1 p1 q1) g2 rfl
      have k2 := cell_of_heap2 (o := 1) (v := .slice D2 p2 q2) g2 rfl
      refine bodyPost_ret (v := .agg #[.slice D1 p1 q1, .slice D2 p2 q2]) (by simp [results, Try.results69, go_sem, k1, k2]) rfl ?_
      exact ⟨_, _, _, _, _, _, rfl, HR.out.1.below hb9, HR.out.2.1.below hb9, HR.out.2.2, hb9⟩
end Go.Proofs.Ytcmjpcmdgnbbpaa
