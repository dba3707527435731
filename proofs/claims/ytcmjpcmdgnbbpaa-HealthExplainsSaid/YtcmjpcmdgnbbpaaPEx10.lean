/- Printed by a program: what each function of the Go program answers, as a function of Lean, and the proof that its call answers so. -/
import Derived.Test.YtcmjpcmdgnbbpaaPEx0
import Derived.Test.YtcmjpcmdgnbbpaaPEx8
import Derived.Test.YtcmjpcmdgnbbpaaPEx9
namespace Go.Proofs.Ytcmjpcmdgnbbpaa.PE
open Go.RowKit Go.Proofs.YtcmjpcmdgnbbpaaW.PrintWords Go.Proofs.YtcmjpcmdgnbbpaaW.PrintLast Go.Proofs.YtcmjpcmdgnbbpaaW.PrintMore
attribute [local go_sem] max2_int min2_int max_two min_two max_three min_three max_four min_four   -- for this text's walks alone
set_option linter.unusedVariables false
set_option linter.unusedSimpArgs false

/-! ### swashplateref08_Certain: function 34 -/
mutual
def swashplateref08_Certain.l0 : Nat → Int → Int → List (S69) → Int → List Int → List Int → Int → Int → Option (List Int × List Int × Int)
  | 0, _, _, _, _, _, _, _, _ => none
  | k + 1, x0, x1, x2, x13, x14, x15, x16, x17 => if 0 ≤ (IntKind.u64.wrap (x0)) then (if x17 < (shl .i64 1 (IntKind.u64.wrap (x0))) then ((swashplateref08_explanation.f k x0 x1 x17 x2).bind fun bt277 => (if (wrap64 ((bt277.1.length : Int) + (bt277.2.length : Int))) = x13 then (swashplateref08_Certain.l1 k x0 x1 x2 x13 x14 x15 (wrap64 (x16 + 1)) x17 bt277.1 bt277.2 0) else (swashplateref08_Certain.l0 k x0 x1 x2 x13 x14 x15 x16 (wrap64 (x17 + 1))))) else (swashplateref08_Certain.l3 k x0 x1 x14 x15 x16 ([] : List Int) 0)) else (none)
def swashplateref08_Certain.l1 : Nat → Int → Int → List (S69) → Int → List Int → List Int → Int → Int → List Int → List Int → Int → Option (List Int × List Int × Int)
  | 0, _, _, _, _, _, _, _, _, _, _, _ => none
  | k + 1, x0, x1, x2, x13, x14, x15, x16, x17, x18, x19, x20 => if x20 < (x18.length : Int) then (if 0 ≤ x20 then (if 0 ≤ (rd x18 x20) then (if (rd x18 x20) < (x14.length : Int) then (swashplateref08_Certain.l1 k x0 x1 x2 x13 (x14.set ((rd x18 x20) : Int).toNat (wrap64 ((rd x14 (rd x18 x20)) + 1))) x15 x16 x17 x18 x19 (wrap64 (x20 + 1))) else (none)) else (none)) else (none)) else (swashplateref08_Certain.l2 k x0 x1 x2 x13 x14 x15 x16 x17 x19 0)
def swashplateref08_Certain.l2 : Nat → Int → Int → List (S69) → Int → List Int → List Int → Int → Int → List Int → Int → Option (List Int × List Int × Int)
  | 0, _, _, _, _, _, _, _, _, _, _ => none
  | k + 1, x0, x1, x2, x13, x14, x15, x16, x17, x19, x21 => if x21 < (x19.length : Int) then (if 0 ≤ x21 then (if 0 ≤ (rd x19 x21) then (if (rd x19 x21) < (x15.length : Int) then (swashplateref08_Certain.l2 k x0 x1 x2 x13 x14 (x15.set ((rd x19 x21) : Int).toNat (wrap64 ((rd x15 (rd x19 x21)) + 1))) x16 x17 x19 (wrap64 (x21 + 1))) else (none)) else (none)) else (none)) else (swashplateref08_Certain.l0 k x0 x1 x2 x13 x14 x15 x16 (wrap64 (x17 + 1)))
def swashplateref08_Certain.l3 : Nat → Int → Int → List Int → List Int → Int → List Int → Int → Option (List Int × List Int × Int)
  | 0, _, _, _, _, _, _, _ => none
  | k + 1, x0, x1, x14, x15, x16, x22, x24 => if x24 < x0 then (if 0 ≤ x24 then (if x24 < (x14.length : Int) then (if (rd x14 x24) = x16 then (if x22.length < 17592186044416 then (swashplateref08_Certain.l3 k x0 x1 x14 x15 x16 (x22 ++ [x24]) (wrap64 (x24 + 1))) else (none)) else (swashplateref08_Certain.l3 k x0 x1 x14 x15 x16 x22 (wrap64 (x24 + 1)))) else (none)) else (none)) else (swashplateref08_Certain.l4 k x1 x15 x16 x22 ([] : List Int) 0)
def swashplateref08_Certain.l4 : Nat → Int → List Int → Int → List Int → List Int → Int → Option (List Int × List Int × Int)
  | 0, _, _, _, _, _, _ => none
  | k + 1, x1, x15, x16, x22, x23, x25 => if x25 < x1 then (if 0 ≤ x25 then (if x25 < (x15.length : Int) then (if (rd x15 x25) = x16 then (if x23.length < 17592186044416 then (swashplateref08_Certain.l4 k x1 x15 x16 x22 (x23 ++ [x25]) (wrap64 (x25 + 1))) else (none)) else (swashplateref08_Certain.l4 k x1 x15 x16 x22 x23 (wrap64 (x25 + 1)))) else (none)) else (none)) else (some (x22, x23, 0))
end
def swashplateref08_Certain.f (k : Nat) (a0 : Int) (a1 : Int) (l2 : List (S69)) : Option (List Int × List Int × Int) := (swashplateref08_CheckCells.f k a0 a1 l2).bind fun t263 => (if t263 = 0 then ((swashplateref08_Explain.f k a0 a1 l2).bind fun bt264 => (if 0 ≤ a0 then (if (a0 : Int).toNat ≤ 35184372088832 then (if 0 ≤ a1 then (if (a1 : Int).toNat ≤ 35184372088832 then (swashplateref08_Certain.l0 k a0 a1 l2 (wrap64 ((bt264.1.length : Int) + (bt264.2.1.length : Int))) (List.replicate (a0 : Int).toNat 0) (List.replicate (a1 : Int).toNat 0) 0 0) else (none)) else (none)) else (none)) else (none))) else (some (([] : List Int), ([] : List Int), t263)))
theorem swashplateref08_Certain.mono_l : ∀ k, (∀ y0 y1 y2 y3 y4 y5 y6 y7, LeO (swashplateref08_Certain.l0 k y0 y1 y2 y3 y4 y5 y6 y7) (swashplateref08_Certain.l0 (k + 1) y0 y1 y2 y3 y4 y5 y6 y7)) ∧ (∀ y0 y1 y2 y3 y4 y5 y6 y7 y8 y9 y10, LeO (swashplateref08_Certain.l1 k y0 y1 y2 y3 y4 y5 y6 y7 y8 y9 y10) (swashplateref08_Certain.l1 (k + 1) y0 y1 y2 y3 y4 y5 y6 y7 y8 y9 y10)) ∧ (∀ y0 y1 y2 y3 y4 y5 y6 y7 y8 y9, LeO (swashplateref08_Certain.l2 k y0 y1 y2 y3 y4 y5 y6 y7 y8 y9) (swashplateref08_Certain.l2 (k + 1) y0 y1 y2 y3 y4 y5 y6 y7 y8 y9)) ∧ (∀ y0 y1 y2 y3 y4 y5 y6, LeO (swashplateref08_Certain.l3 k y0 y1 y2 y3 y4 y5 y6) (swashplateref08_Certain.l3 (k + 1) y0 y1 y2 y3 y4 y5 y6)) ∧ (∀ y0 y1 y2 y3 y4 y5, LeO (swashplateref08_Certain.l4 k y0 y1 y2 y3 y4 y5) (swashplateref08_Certain.l4 (k + 1) y0 y1 y2 y3 y4 y5))
  | 0 => ⟨fun _ _ _ _ _ _ _ _ r h => by simp [swashplateref08_Certain.l0] at h, fun _ _ _ _ _ _ _ _ _ _ _ r h => by simp [swashplateref08_Certain.l1] at h, fun _ _ _ _ _ _ _ _ _ _ r h => by simp [swashplateref08_Certain.l2] at h, fun _ _ _ _ _ _ _ r h => by simp [swashplateref08_Certain.l3] at h, fun _ _ _ _ _ _ r h => by simp [swashplateref08_Certain.l4] at h⟩
  | k + 1 => by
    obtain ⟨ih0, ih1, ih2, ih3, ih4⟩ := swashplateref08_Certain.mono_l k
    refine ⟨?_, ?_, ?_, ?_, ?_⟩
    · intro y0 y1 y2 y3 y4 y5 y6 y7
      unfold swashplateref08_Certain.l0
      repeat' first
      | (with_reducible exact ih0 _ _ _ _ _ _ _ _)
      | (with_reducible exact ih1 _ _ _ _ _ _ _ _ _ _ _)
      | (with_reducible exact ih2 _ _ _ _ _ _ _ _ _ _)
      | (with_reducible exact ih3 _ _ _ _ _ _ _)
      | (with_reducible exact ih4 _ _ _ _ _ _)
      | (with_reducible exact swashplateref08_CheckCells.mono _ _ _ _)
      | (with_reducible exact swashplateref08_Explain.mono _ _ _ _)
      | (with_reducible exact swashplateref08_explanation.mono _ _ _ _ _)
      | (with_reducible exact LeO.refl _)
      | (with_reducible exact LeO.none _)
      | (with_reducible refine LeO.ite ?_ ?_)
      | (with_reducible refine LeO.bind ?_ (fun _ => ?_))
      | exact ih0 _ _ _ _ _ _ _ _
      | exact ih1 _ _ _ _ _ _ _ _ _ _ _
      | exact ih2 _ _ _ _ _ _ _ _ _ _
      | exact ih3 _ _ _ _ _ _ _
      | exact ih4 _ _ _ _ _ _
      | exact swashplateref08_CheckCells.mono _ _ _ _
      | exact swashplateref08_Explain.mono _ _ _ _
      | exact swashplateref08_explanation.mono _ _ _ _ _
      | exact LeO.none _
      | refine LeO.ite ?_ ?_
      | refine LeO.bind ?_ (fun _ => ?_)
    · intro y0 y1 y2 y3 y4 y5 y6 y7 y8 y9 y10
      unfold swashplateref08_Certain.l1
      repeat' first
      | (with_reducible exact ih0 _ _ _ _ _ _ _ _)
      | (with_reducible exact ih1 _ _ _ _ _ _ _ _ _ _ _)
      | (with_reducible exact ih2 _ _ _ _ _ _ _ _ _ _)
      | (with_reducible exact ih3 _ _ _ _ _ _ _)
      | (with_reducible exact ih4 _ _ _ _ _ _)
      | (with_reducible exact swashplateref08_CheckCells.mono _ _ _ _)
      | (with_reducible exact swashplateref08_Explain.mono _ _ _ _)
      | (with_reducible exact swashplateref08_explanation.mono _ _ _ _ _)
      | (with_reducible exact LeO.refl _)
      | (with_reducible exact LeO.none _)
      | (with_reducible refine LeO.ite ?_ ?_)
      | (with_reducible refine LeO.bind ?_ (fun _ => ?_))
      | exact ih0 _ _ _ _ _ _ _ _
      | exact ih1 _ _ _ _ _ _ _ _ _ _ _
      | exact ih2 _ _ _ _ _ _ _ _ _ _
      | exact ih3 _ _ _ _ _ _ _
      | exact ih4 _ _ _ _ _ _
      | exact swashplateref08_CheckCells.mono _ _ _ _
      | exact swashplateref08_Explain.mono _ _ _ _
      | exact swashplateref08_explanation.mono _ _ _ _ _
      | exact LeO.none _
      | refine LeO.ite ?_ ?_
      | refine LeO.bind ?_ (fun _ => ?_)
    · intro y0 y1 y2 y3 y4 y5 y6 y7 y8 y9
      unfold swashplateref08_Certain.l2
      repeat' first
      | (with_reducible exact ih0 _ _ _ _ _ _ _ _)
      | (with_reducible exact ih1 _ _ _ _ _ _ _ _ _ _ _)
      | (with_reducible exact ih2 _ _ _ _ _ _ _ _ _ _)
      | (with_reducible exact ih3 _ _ _ _ _ _ _)
      | (with_reducible exact ih4 _ _ _ _ _ _)
      | (with_reducible exact swashplateref08_CheckCells.mono _ _ _ _)
      | (with_reducible exact swashplateref08_Explain.mono _ _ _ _)
      | (with_reducible exact swashplateref08_explanation.mono _ _ _ _ _)
      | (with_reducible exact LeO.refl _)
      | (with_reducible exact LeO.none _)
      | (with_reducible refine LeO.ite ?_ ?_)
      | (with_reducible refine LeO.bind ?_ (fun _ => ?_))
      | exact ih0 _ _ _ _ _ _ _ _
      | exact ih1 _ _ _ _ _ _ _ _ _ _ _
      | exact ih2 _ _ _ _ _ _ _ _ _ _
      | exact ih3 _ _ _ _ _ _ _
      | exact ih4 _ _ _ _ _ _
      | exact swashplateref08_CheckCells.mono _ _ _ _
      | exact swashplateref08_Explain.mono _ _ _ _
      | exact swashplateref08_explanation.mono _ _ _ _ _
      | exact LeO.none _
      | refine LeO.ite ?_ ?_
      | refine LeO.bind ?_ (fun _ => ?_)
    · intro y0 y1 y2 y3 y4 y5 y6
      unfold swashplateref08_Certain.l3
      repeat' first
      | (with_reducible exact ih0 _ _ _ _ _ _ _ _)
      | (with_reducible exact ih1 _ _ _ _ _ _ _ _ _ _ _)
      | (with_reducible exact ih2 _ _ _ _ _ _ _ _ _ _)
      | (with_reducible exact ih3 _ _ _ _ _ _ _)
      | (with_reducible exact ih4 _ _ _ _ _ _)
      | (with_reducible exact swashplateref08_CheckCells.mono _ _ _ _)
      | (with_reducible exact swashplateref08_Explain.mono _ _ _ _)
      | (with_reducible exact swashplateref08_explanation.mono _ _ _ _ _)
      | (with_reducible exact LeO.refl _)
      | (with_reducible exact LeO.none _)
      | (with_reducible refine LeO.ite ?_ ?_)
      | (with_reducible refine LeO.bind ?_ (fun _ => ?_))
      | exact ih0 _ _ _ _ _ _ _ _
      | exact ih1 _ _ _ _ _ _ _ _ _ _ _
      | exact ih2 _ _ _ _ _ _ _ _ _ _
      | exact ih3 _ _ _ _ _ _ _
      | exact ih4 _ _ _ _ _ _
      | exact swashplateref08_CheckCells.mono _ _ _ _
      | exact swashplateref08_Explain.mono _ _ _ _
      | exact swashplateref08_explanation.mono _ _ _ _ _
      | exact LeO.none _
      | refine LeO.ite ?_ ?_
      | refine LeO.bind ?_ (fun _ => ?_)
    · intro y0 y1 y2 y3 y4 y5
      unfold swashplateref08_Certain.l4
      repeat' first
      | (with_reducible exact ih0 _ _ _ _ _ _ _ _)
      | (with_reducible exact ih1 _ _ _ _ _ _ _ _ _ _ _)
      | (with_reducible exact ih2 _ _ _ _ _ _ _ _ _ _)
      | (with_reducible exact ih3 _ _ _ _ _ _ _)
      | (with_reducible exact ih4 _ _ _ _ _ _)
      | (with_reducible exact swashplateref08_CheckCells.mono _ _ _ _)
      | (with_reducible exact swashplateref08_Explain.mono _ _ _ _)
      | (with_reducible exact swashplateref08_explanation.mono _ _ _ _ _)
      | (with_reducible exact LeO.refl _)
      | (with_reducible exact LeO.none _)
      | (with_reducible refine LeO.ite ?_ ?_)
      | (with_reducible refine LeO.bind ?_ (fun _ => ?_))
      | exact ih0 _ _ _ _ _ _ _ _
      | exact ih1 _ _ _ _ _ _ _ _ _ _ _
      | exact ih2 _ _ _ _ _ _ _ _ _ _
      | exact ih3 _ _ _ _ _ _ _
      | exact ih4 _ _ _ _ _ _
      | exact swashplateref08_CheckCells.mono _ _ _ _
      | exact swashplateref08_Explain.mono _ _ _ _
      | exact swashplateref08_explanation.mono _ _ _ _ _
      | exact LeO.none _
      | refine LeO.ite ?_ ?_
      | refine LeO.bind ?_ (fun _ => ?_)
theorem swashplateref08_Certain.mono : ∀ a0 a1 a2 k, LeO (swashplateref08_Certain.f k a0 a1 a2) (swashplateref08_Certain.f (k + 1) a0 a1 a2) := by
  intro a0 a1 a2 k
  obtain ⟨ih0, ih1, ih2, ih3, ih4⟩ := swashplateref08_Certain.mono_l k
  unfold swashplateref08_Certain.f
  repeat' first
      | (with_reducible exact ih0 _ _ _ _ _ _ _ _)
      | (with_reducible exact ih1 _ _ _ _ _ _ _ _ _ _ _)
      | (with_reducible exact ih2 _ _ _ _ _ _ _ _ _ _)
      | (with_reducible exact ih3 _ _ _ _ _ _ _)
      | (with_reducible exact ih4 _ _ _ _ _ _)
      | (with_reducible exact swashplateref08_CheckCells.mono _ _ _ _)
      | (with_reducible exact swashplateref08_Explain.mono _ _ _ _)
      | (with_reducible exact swashplateref08_explanation.mono _ _ _ _ _)
      | (with_reducible exact LeO.refl _)
      | (with_reducible exact LeO.none _)
      | (with_reducible refine LeO.ite ?_ ?_)
      | (with_reducible refine LeO.bind ?_ (fun _ => ?_))
      | exact ih0 _ _ _ _ _ _ _ _
      | exact ih1 _ _ _ _ _ _ _ _ _ _ _
      | exact ih2 _ _ _ _ _ _ _ _ _ _
      | exact ih3 _ _ _ _ _ _ _
      | exact ih4 _ _ _ _ _ _
      | exact swashplateref08_CheckCells.mono _ _ _ _
      | exact swashplateref08_Explain.mono _ _ _ _
      | exact swashplateref08_explanation.mono _ _ _ _ _
      | exact LeO.none _
      | refine LeO.ite ?_ ?_
      | refine LeO.bind ?_ (fun _ => ?_)
set_option maxHeartbeats 8000000 in
set_option maxRecDepth 100000 in
theorem swashplateref08_Certain.calls (k : Nat) (a0 : Int) (a1 : Int) (A2 : Option Addr) (c2 : Nat) (l2 : List (S69)) (r1 : List Int) (r2 : List Int) (r3 : Int) (w : World) (hr2 : Kd.C k69 w A2 l2.length l2) (hc2 : l2.length ≤ c2) (h : swashplateref08_Certain.f k a0 a1 l2 = some (r1, r2, r3)) :
    Calls Try.prog 34 #[.int .i64 a0, .int .i64 a1, .slice A2 l2.length c2] w fun e w' => ∃ v0_ v1_ : Value, e = .returned (.tuple #[v0_, v1_, .int .i64 r3]) ∧ Kd.R (Kd.int .i64) 3 w' w.heap.size (fun k_ => some k_ ≠ (v1_ : Value).ownBlock) v0_ r1 ∧ Kd.R (Kd.int .i64) 3 w' w.heap.size (fun k_ => some k_ ≠ (v0_ : Value).ownBlock) v1_ r2 ∧ Below w.heap.size w w' := by
  have HR2 := Aside0.mk hr2
  have HC2 := Aside0.mk hc2
  clear hr2 hc2
  have HB := Aside0.mk (Below.refl w.heap.size w)
  have H : ((swashplateref08_CheckCells.f k a0 a1 l2).bind fun t263 => (if t263 = 0 then ((swashplateref08_Explain.f k a0 a1 l2).bind fun bt264 => (if 0 ≤ a0 then (if (a0 : Int).toNat ≤ 35184372088832 then (if 0 ≤ a1 then (if (a1 : Int).toNat ≤ 35184372088832 then (swashplateref08_Certain.l0 k a0 a1 l2 (wrap64 ((bt264.1.length : Int) + (bt264.2.1.length : Int))) (List.replicate (a0 : Int).toNat 0) (List.replicate (a1 : Int).toNat 0) 0 0) else (none)) else (none)) else (none)) else (none))) else (some (([] : List Int), ([] : List Int), t263)))) = some (r1, r2, r3) := h
  clear h
  replace H := Option.bind_eq_some_iff.mp H
  obtain ⟨t263, A40, H⟩ := H
  replace H : (if t263 = 0 then ((swashplateref08_Explain.f k a0 a1 l2).bind fun bt264 => (if 0 ≤ a0 then (if (a0 : Int).toNat ≤ 35184372088832 then (if 0 ≤ a1 then (if (a1 : Int).toNat ≤ 35184372088832 then (swashplateref08_Certain.l0 k a0 a1 l2 (wrap64 ((bt264.1.length : Int) + (bt264.2.1.length : Int))) (List.replicate (a0 : Int).toNat 0) (List.replicate (a1 : Int).toNat 0) 0 0) else (none)) else (none)) else (none)) else (none))) else (some (([] : List Int), ([] : List Int), t263))) = some (r1, r2, r3) := H
  have A4 := Aside0.mk A40
  clear A40
  by_cases c5 : t263 = 0
  · rw [if_pos c5] at H
    have c5b0 : (t263 == 0) = true := beq_iff_eq.mpr c5
    have c5b1 : (t263 != 0) = false := bne_eq_false_iff_eq.mpr c5
    clear c5
    replace H := Option.bind_eq_some_iff.mp H
    obtain ⟨⟨t264, t265, t266⟩, A60, H⟩ := H
    replace H : (if 0 ≤ a0 then (if (a0 : Int).toNat ≤ 35184372088832 then (if 0 ≤ a1 then (if (a1 : Int).toNat ≤ 35184372088832 then (swashplateref08_Certain.l0 k a0 a1 l2 (wrap64 ((t264.length : Int) + (t265.length : Int))) (List.replicate (a0 : Int).toNat 0) (List.replicate (a1 : Int).toNat 0) 0 0) else (none)) else (none)) else (none)) else (none)) = some (r1, r2, r3) := H
    have A6 := Aside0.mk A60
    clear A60
    by_cases c7 : 0 ≤ a0
    · rw [if_pos c7] at H
      have c7b0 := eq_true c7
      have c7b1 : decide (0 ≤ a0) = true := decide_eq_true c7
      clear c7
      by_cases c8 : (a0 : Int).toNat ≤ 35184372088832
      · rw [if_pos c8] at H
        have c8b0 := eq_true c8
        have c8b1 : decide ((a0 : Int).toNat ≤ 35184372088832) = true := decide_eq_true c8
        clear c8
        obtain ⟨y271, hy271⟩ : ∃ y_ : List Int, y_ = (List.replicate (a0 : Int).toNat 0) := ⟨_, rfl⟩
        replace H : (if 0 ≤ a1 then (if (a1 : Int).toNat ≤ 35184372088832 then (swashplateref08_Certain.l0 k a0 a1 l2 (wrap64 ((t264.length : Int) + (t265.length : Int))) y271 (List.replicate (a1 : Int).toNat 0) 0 0) else (none)) else (none)) = some (r1, r2, r3) := by first | (rw [hy271]; with_reducible exact H) | (have H2_ := (Option.bind_some _ _).symm.trans H; rw [hy271]; with_reducible exact H2_) | (have H2_ := (Option.bind_some _ _).symm.trans H; with_reducible exact H2_) | with_reducible exact H | (rw [hy271]; exact H) | exact H
        have Ny271 := Aside0.mk hy271
        clear hy271
        by_cases c9 : 0 ≤ a1
        · rw [if_pos c9] at H
          have c9b0 := eq_true c9
          have c9b1 : decide (0 ≤ a1) = true := decide_eq_true c9
          clear c9
          by_cases c10 : (a1 : Int).toNat ≤ 35184372088832
          · rw [if_pos c10] at H
            have c10b0 := eq_true c10
            have c10b1 : decide ((a1 : Int).toNat ≤ 35184372088832) = true := decide_eq_true c10
            clear c10
            obtain ⟨y274, hy274⟩ : ∃ y_ : List Int, y_ = (List.replicate (a1 : Int).toNat 0) := ⟨_, rfl⟩
            replace H : (swashplateref08_Certain.l0 k a0 a1 l2 (wrap64 ((t264.length : Int) + (t265.length : Int))) y271 y274 0 0) = some (r1, r2, r3) := by first | (rw [hy274]; with_reducible exact H) | (have H2_ := (Option.bind_some _ _).symm.trans H; rw [hy274]; with_reducible exact H2_) | (have H2_ := (Option.bind_some _ _).symm.trans H; with_reducible exact H2_) | with_reducible exact H | (rw [hy274]; exact H) | exact H
            have Ny274 := Aside0.mk hy274
            clear hy274
            have H' := Aside0.mk H
            clear H
            go_enter Try.func34, Try.ntmps34
            try go_wp2_with (first | ((with_reducible refine gate_callee (f := 45) rfl ?_); refine goesL_ (some 29) rfl rfl Try.func45 (by kernel_rfl) rfl #[.int .i64 a0, .int .i64 a1, .slice A2 l2.length c2] rfl (by (try simp only [List.map_toArray, List.map_cons, List.map_nil]); first | done | rfl | (simp only [List.length_drop, List.length_take]; rfl)) ?_; (with_reducible refine (swashplateref08_CheckCells.calls k a0 a1 _ _ l2 t263 _ ?side1 ?side2 A4.out).mono ?_); (case side1 => repeat (first | exact HR2.out | (with_reducible refine Kd.C_alloc ?_ _) | (with_reducible refine Kd.C_drewN ?_ _) | (with_reducible refine Kd.C_drew ?_))); (case side2 => exact HC2.out); rintro e w11 ⟨rfl, hb⟩; refine ⟨_, rfl, ?_⟩; have n0_ := Aside0.mk (below_step (by repeat (first | (with_reducible first | exact HB.out | apply below_alloc | apply pw_below_drewN | apply below_drew1) | exact HB.out)) hb); clear HB; have HB := n0_; clear n0_; (try clear hb); (try clear hb2); (try clear hk); (try clear hi)) | ((with_reducible refine gate_callee (f := 32) rfl ?_); refine goesL_ (some 37) rfl rfl Try.func32 (by kernel_rfl) rfl #[.int .i64 a0, .int .i64 a1, .slice A2 l2.length c2] rfl (by (try simp only [List.map_toArray, List.map_cons, List.map_nil]); first | done | rfl | (simp only [List.length_drop, List.length_take]; rfl)) ?_; (with_reducible refine (swashplateref08_Explain.calls k a0 a1 _ _ l2 t264 t265 t266 _ ?side1 ?side2 A6.out).mono ?_); (case side1 => repeat (first | exact (Kd.C_below HR2.out HB.out) | (with_reducible refine Kd.C_alloc ?_ _) | (with_reducible refine Kd.C_drewN ?_ _) | (with_reducible refine Kd.C_drew ?_))); (case side2 => exact HC2.out); rintro e w12 ⟨v267, v269, rfl, ho0, ho1, hb⟩; refine ⟨_, rfl, ?_⟩; have n0_ := Aside0.mk (Kd.R_lower ho0 (below_size (by repeat (first | (with_reducible first | exact HB.out | apply below_alloc | apply pw_below_drewN | apply below_drew1) | exact HB.out)))); have n1_ := Aside0.mk (Kd.R_lower ho1 (below_size (by repeat (first | (with_reducible first | exact HB.out | apply below_alloc | apply pw_below_drewN | apply below_drew1) | exact HB.out)))); have n2_ := Aside0.mk (below_step (by repeat (first | (with_reducible first | exact HB.out | apply below_alloc | apply pw_below_drewN | apply below_drew1) | exact HB.out)) hb); clear HB; have HO268 := n0_; have HO270 := n1_; have HB := n2_; clear n0_ n1_ n2_; (try clear hb); (try clear hb2); (try clear hk); (try clear hi); (try clear ho0); (try clear ho1); obtain ⟨Ao13, co13, eo13⟩ := Kd.R_slice HO268.out; subst eo13; obtain ⟨Ao14, co14, eo14⟩ := Kd.R_slice HO270.out; subst eo14))
            have n0_ := Aside0.mk (Kd.R_drew HO268.out)
            have n1_ := Aside0.mk (Kd.R_drew HO270.out)
            have n2_ := Aside0.mk (below_drew1 HB.out)
            clear HO268
            clear HO270
            clear HB
            have HO268 := n0_
            have HO270 := n1_
            have HB := n2_
            clear n0_ n1_ n2_
            refine start_ (n := 6) (S := fun w' => True) (ds := []) #[false, false, false, false, false, false] (by kernel_rfl) rfl rfl trivial (fun hHeld => ?_)
            generalize w12.drew = w15 at HO268 HO270 HB hHeld ⊢
            refine pure_ (i := 0) (N := some 46) (v := ?_) (a' := ?_) #[true, false, false, false, false, false] rfl rfl (by kernel_rfl) (fun _ _ _ h => h) (Or.inl ⟨by rfl, ?_⟩) ?_ ?_
            rotate_left
            · intro w'
              go_simp
              with_reducible rfl
            rotate_left
            · simp only [Act.put, List.setIfInBounds_toArray, List.set_cons_zero, List.set_cons_succ, i64_w, i32_w]
              rfl
            refine pure_ (i := 2) (N := some 48) (v := ?_) (a' := ?_) #[true, false, true, false, false, false] rfl rfl (by kernel_rfl) (fun _ _ _ h => h) (Or.inl ⟨by rfl, ?_⟩) ?_ ?_
            rotate_left
            · intro w'
              go_simp
              with_reducible rfl
            rotate_left
            · simp only [Act.put, List.setIfInBounds_toArray, List.set_cons_zero, List.set_cons_succ, i64_w, i32_w]
              rfl
            refine join_ (σ := Value × Value) 1 #[true, true, true, true, true, false] (fun s_ => [(47, s_.1), (49, s_.2), (14, s_.1)]) (fun s_ w' => (Kd.R (Kd.int .i64) 3 w' w.heap.size (fun k_ => some k_ ≠ (.slice Ao14 t265.length co14 : Value).ownBlock ∧ some k_ ≠ (s_.1 : Value).ownBlock ∧ some k_ ≠ (s_.2 : Value).ownBlock) (.slice Ao13 t264.length co13) t264) ∧ (Kd.R (Kd.int .i64) 3 w' w.heap.size (fun k_ => some k_ ≠ (.slice Ao13 t264.length co13 : Value).ownBlock ∧ some k_ ≠ (s_.1 : Value).ownBlock ∧ some k_ ≠ (s_.2 : Value).ownBlock) (.slice Ao14 t265.length co14) t265) ∧ (Kd.R (Kd.int .i64) 3 w' w.heap.size (fun k_ => some k_ ≠ (.slice Ao13 t264.length co13 : Value).ownBlock ∧ some k_ ≠ (.slice Ao14 t265.length co14 : Value).ownBlock ∧ some k_ ≠ (s_.2 : Value).ownBlock) s_.1 y271) ∧ (Kd.R (Kd.int .i64) 3 w' w.heap.size (fun k_ => some k_ ≠ (.slice Ao13 t264.length co13 : Value).ownBlock ∧ some k_ ≠ (.slice Ao14 t265.length co14 : Value).ownBlock ∧ some k_ ≠ (s_.1 : Value).ownBlock) s_.2 y274) ∧ (Below w.heap.size w w')) ?_ ?_
            rotate_left
            · intro hCont
              refine two_ (i := 1) (j := 3) (Ni := some 47) (Nj := some 49) #[true, true, true, false, false, false] #[true, false, true, true, false, false] rfl rfl rfl rfl (by kernel_rfl) (by decide) (by decide) (fun K hK => ?_) (fun K hK => ?_)
              · skip
                refine Kd.R_make_step (Kd.int .i64) _ 3 (by rfl) (N := 47) rfl 22 _ _ rfl a0 rfl rfl Try.underlying22 (.int .i64 0) 8 info3 rfl (by decide) (by omega) 0 (ok := fun _ => True) (okp := fun _ => True) rfl (fun _ hk => hk) trivial (of_decide_eq_true (by first | (with_reducible assumption) | assumption)) (Nat.le_trans (Nat.mul_le_mul_right _ (of_decide_eq_true (by first | (with_reducible assumption) | assumption) : a0.toNat ≤ 35184372088832)) (by omega)) (Below.refl _ _) (Nat.le_refl _) ?_
                intro v272 w16 ho17 hb hg_ hnew_
                clear hg_ hnew_
                (first | rw [← Ny271.out] at ho17 | (simp only [Int.reduceToNat] at ho17; rw [← Ny271.out] at ho17))
                have n0_ := Aside0.mk (Kd.R_elder' (by (with_reducible repeat (first | apply Kd.R_alloc | apply Kd.R_drewN | apply Kd.R_drew)); exact HO268.out) (Kd.R_base ho17) hb)
                have n1_ := Aside0.mk (Kd.R_elder' (by (with_reducible repeat (first | apply Kd.R_alloc | apply Kd.R_drewN | apply Kd.R_drew)); exact HO270.out) (Kd.R_base ho17) hb)
                have n2_ := Aside0.mk (Kd.R_lower (Kd.R_new' (Kd.R_new' ho17 (Kd.R_lt (by (with_reducible repeat (first | apply Kd.R_alloc | apply Kd.R_drewN | apply Kd.R_drew)); exact HO268.out))) (Kd.R_lt (by (with_reducible repeat (first | apply Kd.R_alloc | apply Kd.R_drewN | apply Kd.R_drew)); exact HO270.out))) (below_size (by repeat (first | (with_reducible first | exact HB.out | apply below_alloc | apply pw_below_drewN | apply below_drew1) | exact HB.out))))
                have n3_ := Aside0.mk (below_step (by repeat (first | (with_reducible first | exact HB.out | apply below_alloc | apply pw_below_drewN | apply below_drew1) | exact HB.out)) hb)
                clear HO268
                clear HO270
                clear HB
                have HO268 := n0_
                have HO270 := n1_
                have HO273 := n2_
                have HB := n3_
                clear n0_ n1_ n2_ n3_
                clear hb ho17
                refine hK.out _ _ trivial (fun hHeld => ?_)
                clear hK K
                refine norm_ (a' := ?_) ?_ ?_
                rotate_left
                · show Act.put _ (some 47) _ = _
                  simp only [Act.put, List.setIfInBounds_toArray, List.set_cons_zero, List.set_cons_succ, i64_w, i32_w]
                  rfl
                refine pure_ (i := 4) (N := some 14) (v := ?_) (a' := ?_) #[true, true, true, false, true, false] rfl rfl (by kernel_rfl) (fun _ _ _ h => h) (Or.inl ⟨by rfl, ?_⟩) ?_ ?_
                rotate_left
                · intro w'
                  go_simp
                  with_reducible rfl
                rotate_left
                · simp only [Act.put, List.setIfInBounds_toArray, List.set_cons_zero, List.set_cons_succ, i64_w, i32_w]
                  rfl
                refine one_ (i := 3) (N := some 49) #[true, true, true, true, true, false] rfl rfl (by kernel_rfl) (by decide) (fun K hK => ?_)
                refine Kd.R_make_step (Kd.int .i64) _ 3 (by rfl) (N := 49) rfl 22 _ _ rfl a1 rfl rfl Try.underlying22 (.int .i64 0) 8 info3 rfl (by decide) (by omega) 0 (ok := fun _ => True) (okp := fun _ => True) rfl (fun _ hk => hk) trivial (of_decide_eq_true (by first | (with_reducible assumption) | assumption)) (Nat.le_trans (Nat.mul_le_mul_right _ (of_decide_eq_true (by first | (with_reducible assumption) | assumption) : a1.toNat ≤ 35184372088832)) (by omega)) (Below.refl _ _) (Nat.le_refl _) ?_
                intro v275 w18 ho19 hb hg_ hnew_
                clear hg_ hnew_
                (first | rw [← Ny274.out] at ho19 | (simp only [Int.reduceToNat] at ho19; rw [← Ny274.out] at ho19))
                have n0_ := Aside0.mk (Kd.R_elder' (by (with_reducible repeat (first | apply Kd.R_alloc | apply Kd.R_drewN | apply Kd.R_drew)); exact HO268.out) (Kd.R_base ho19) hb)
                have n1_ := Aside0.mk (Kd.R_elder' (by (with_reducible repeat (first | apply Kd.R_alloc | apply Kd.R_drewN | apply Kd.R_drew)); exact HO270.out) (Kd.R_base ho19) hb)
                have n2_ := Aside0.mk (Kd.R_elder' (by (with_reducible repeat (first | apply Kd.R_alloc | apply Kd.R_drewN | apply Kd.R_drew)); exact HO273.out) (Kd.R_base ho19) hb)
                have n3_ := Aside0.mk (Kd.R_lower (Kd.R_new' (Kd.R_new' (Kd.R_new' ho19 (Kd.R_lt (by (with_reducible repeat (first | apply Kd.R_alloc | apply Kd.R_drewN | apply Kd.R_drew)); exact HO268.out))) (Kd.R_lt (by (with_reducible repeat (first | apply Kd.R_alloc | apply Kd.R_drewN | apply Kd.R_drew)); exact HO270.out))) (Kd.R_lt (by (with_reducible repeat (first | apply Kd.R_alloc | apply Kd.R_drewN | apply Kd.R_drew)); exact HO273.out))) (below_size (by repeat (first | (with_reducible first | exact HB.out | apply below_alloc | apply pw_below_drewN | apply below_drew1) | exact HB.out))))
                have n4_ := Aside0.mk (below_step (by repeat (first | (with_reducible first | exact HB.out | apply below_alloc | apply pw_below_drewN | apply below_drew1) | exact HB.out)) hb)
                clear HO268
                clear HO270
                clear HO273
                clear HB
                have HO268 := n0_
                have HO270 := n1_
                have HO273 := n2_
                have HO276 := n3_
                have HB := n4_
                clear n0_ n1_ n2_ n3_ n4_
                clear hb ho19
                refine hK.out _ _ trivial (fun hHeld => ?_)
                clear hK K
                refine norm_ (a' := ?_) ?_ ?_
                rotate_left
                · show Act.put _ (some 49) _ = _
                  simp only [Act.put, List.setIfInBounds_toArray, List.set_cons_zero, List.set_cons_succ, i64_w, i32_w]
                  rfl
                exact norm_ (by simp only [putAll, Act.put, List.setIfInBounds_toArray, List.set_cons_zero, List.set_cons_succ]) (hCont (v272, v275) _ ⟨(by (with_reducible repeat (first | apply Kd.R_alloc | apply Kd.R_drewN | apply Kd.R_drew)); exact Kd.R_mono HO268.out (fun _ hk => ⟨hk.1.1, ⟨hk.1.2, hk.2⟩⟩)), (by (with_reducible repeat (first | apply Kd.R_alloc | apply Kd.R_drewN | apply Kd.R_drew)); exact Kd.R_mono HO270.out (fun _ hk => ⟨hk.1.1, ⟨hk.1.2, hk.2⟩⟩)), (by (with_reducible repeat (first | apply Kd.R_alloc | apply Kd.R_drewN | apply Kd.R_drew)); exact Kd.R_mono HO273.out (fun _ hk => ⟨hk.1.1.2, ⟨hk.1.2, hk.2⟩⟩)), (by (with_reducible repeat (first | apply Kd.R_alloc | apply Kd.R_drewN | apply Kd.R_drew)); exact Kd.R_mono HO276.out (fun _ hk => ⟨hk.1.1.2, ⟨hk.1.2, hk.2⟩⟩)), (by repeat (first | (with_reducible first | exact HB.out | apply below_alloc | apply pw_below_drewN | apply below_drew1) | exact HB.out))⟩)
              · skip
                refine Kd.R_make_step (Kd.int .i64) _ 3 (by rfl) (N := 49) rfl 22 _ _ rfl a1 rfl rfl Try.underlying22 (.int .i64 0) 8 info3 rfl (by decide) (by omega) 0 (ok := fun _ => True) (okp := fun _ => True) rfl (fun _ hk => hk) trivial (of_decide_eq_true (by first | (with_reducible assumption) | assumption)) (Nat.le_trans (Nat.mul_le_mul_right _ (of_decide_eq_true (by first | (with_reducible assumption) | assumption) : a1.toNat ≤ 35184372088832)) (by omega)) (Below.refl _ _) (Nat.le_refl _) ?_
                intro v275 w16 ho17 hb hg_ hnew_
                clear hg_ hnew_
                (first | rw [← Ny274.out] at ho17 | (simp only [Int.reduceToNat] at ho17; rw [← Ny274.out] at ho17))
                have n0_ := Aside0.mk (Kd.R_elder' (by (with_reducible repeat (first | apply Kd.R_alloc | apply Kd.R_drewN | apply Kd.R_drew)); exact HO268.out) (Kd.R_base ho17) hb)
                have n1_ := Aside0.mk (Kd.R_elder' (by (with_reducible repeat (first | apply Kd.R_alloc | apply Kd.R_drewN | apply Kd.R_drew)); exact HO270.out) (Kd.R_base ho17) hb)
                have n2_ := Aside0.mk (Kd.R_lower (Kd.R_new' (Kd.R_new' ho17 (Kd.R_lt (by (with_reducible repeat (first | apply Kd.R_alloc | apply Kd.R_drewN | apply Kd.R_drew)); exact HO268.out))) (Kd.R_lt (by (with_reducible repeat (first | apply Kd.R_alloc | apply Kd.R_drewN | apply Kd.R_drew)); exact HO270.out))) (below_size (by repeat (first | (with_reducible first | exact HB.out | apply below_alloc | apply pw_below_drewN | apply below_drew1) | exact HB.out))))
                have n3_ := Aside0.mk (below_step (by repeat (first | (with_reducible first | exact HB.out | apply below_alloc | apply pw_below_drewN | apply below_drew1) | exact HB.out)) hb)
                clear HO268
                clear HO270
                clear HB
                have HO268 := n0_
                have HO270 := n1_
                have HO276 := n2_
                have HB := n3_
                clear n0_ n1_ n2_ n3_
                clear hb ho17
                refine hK.out _ _ trivial (fun hHeld => ?_)
                clear hK K
                refine norm_ (a' := ?_) ?_ ?_
                rotate_left
                · show Act.put _ (some 49) _ = _
                  simp only [Act.put, List.setIfInBounds_toArray, List.set_cons_zero, List.set_cons_succ, i64_w, i32_w]
                  rfl
                refine one_ (i := 1) (N := some 47) #[true, true, true, true, false, false] rfl rfl (by kernel_rfl) (by decide) (fun K hK => ?_)
                refine Kd.R_make_step (Kd.int .i64) _ 3 (by rfl) (N := 47) rfl 22 _ _ rfl a0 rfl rfl Try.underlying22 (.int .i64 0) 8 info3 rfl (by decide) (by omega) 0 (ok := fun _ => True) (okp := fun _ => True) rfl (fun _ hk => hk) trivial (of_decide_eq_true (by first | (with_reducible assumption) | assumption)) (Nat.le_trans (Nat.mul_le_mul_right _ (of_decide_eq_true (by first | (with_reducible assumption) | assumption) : a0.toNat ≤ 35184372088832)) (by omega)) (Below.refl _ _) (Nat.le_refl _) ?_
                intro v272 w18 ho19 hb hg_ hnew_
                clear hg_ hnew_
                (first | rw [← Ny271.out] at ho19 | (simp only [Int.reduceToNat] at ho19; rw [← Ny271.out] at ho19))
                have n0_ := Aside0.mk (Kd.R_elder' (by (with_reducible repeat (first | apply Kd.R_alloc | apply Kd.R_drewN | apply Kd.R_drew)); exact HO268.out) (Kd.R_base ho19) hb)
                have n1_ := Aside0.mk (Kd.R_elder' (by (with_reducible repeat (first | apply Kd.R_alloc | apply Kd.R_drewN | apply Kd.R_drew)); exact HO270.out) (Kd.R_base ho19) hb)
                have n2_ := Aside0.mk (Kd.R_elder' (by (with_reducible repeat (first | apply Kd.R_alloc | apply Kd.R_drewN | apply Kd.R_drew)); exact HO276.out) (Kd.R_base ho19) hb)
                have n3_ := Aside0.mk (Kd.R_lower (Kd.R_new' (Kd.R_new' (Kd.R_new' ho19 (Kd.R_lt (by (with_reducible repeat (first | apply Kd.R_alloc | apply Kd.R_drewN | apply Kd.R_drew)); exact HO268.out))) (Kd.R_lt (by (with_reducible repeat (first | apply Kd.R_alloc | apply Kd.R_drewN | apply Kd.R_drew)); exact HO270.out))) (Kd.R_lt (by (with_reducible repeat (first | apply Kd.R_alloc | apply Kd.R_drewN | apply Kd.R_drew)); exact HO276.out))) (below_size (by repeat (first | (with_reducible first | exact HB.out | apply below_alloc | apply pw_below_drewN | apply below_drew1) | exact HB.out))))
                have n4_ := Aside0.mk (below_step (by repeat (first | (with_reducible first | exact HB.out | apply below_alloc | apply pw_below_drewN | apply below_drew1) | exact HB.out)) hb)
                clear HO268
                clear HO270
                clear HO276
                clear HB
                have HO268 := n0_
                have HO270 := n1_
                have HO276 := n2_
                have HO273 := n3_
                have HB := n4_
                clear n0_ n1_ n2_ n3_ n4_
                clear hb ho19
                refine hK.out _ _ trivial (fun hHeld => ?_)
                clear hK K
                refine norm_ (a' := ?_) ?_ ?_
                rotate_left
                · show Act.put _ (some 47) _ = _
                  simp only [Act.put, List.setIfInBounds_toArray, List.set_cons_zero, List.set_cons_succ, i64_w, i32_w]
                  rfl
                refine pure_ (i := 4) (N := some 14) (v := ?_) (a' := ?_) #[true, true, true, true, true, false] rfl rfl (by kernel_rfl) (fun _ _ _ h => h) (Or.inl ⟨by rfl, ?_⟩) ?_ ?_
                rotate_left
                · intro w'
                  go_simp
                  with_reducible rfl
                rotate_left
                · simp only [Act.put, List.setIfInBounds_toArray, List.set_cons_zero, List.set_cons_succ, i64_w, i32_w]
                  rfl
                exact norm_ (by simp only [putAll, Act.put, List.setIfInBounds_toArray, List.set_cons_zero, List.set_cons_succ]) (hCont (v272, v275) _ ⟨(by (with_reducible repeat (first | apply Kd.R_alloc | apply Kd.R_drewN | apply Kd.R_drew)); exact Kd.R_mono HO268.out (fun _ hk => ⟨hk.1.1, ⟨hk.2, hk.1.2⟩⟩)), (by (with_reducible repeat (first | apply Kd.R_alloc | apply Kd.R_drewN | apply Kd.R_drew)); exact Kd.R_mono HO270.out (fun _ hk => ⟨hk.1.1, ⟨hk.2, hk.1.2⟩⟩)), (by (with_reducible repeat (first | apply Kd.R_alloc | apply Kd.R_drewN | apply Kd.R_drew)); exact Kd.R_mono HO273.out (fun _ hk => ⟨hk.1.1.2, ⟨hk.1.2, hk.2⟩⟩)), (by (with_reducible repeat (first | apply Kd.R_alloc | apply Kd.R_drewN | apply Kd.R_drew)); exact Kd.R_mono HO276.out (fun _ hk => ⟨hk.1.1.2, ⟨hk.1.2, hk.2⟩⟩)), (by repeat (first | (with_reducible first | exact HB.out | apply below_alloc | apply pw_below_drewN | apply below_drew1) | exact HB.out))⟩)
            rintro ⟨v272, v275⟩ w20 ⟨h0_, h1_, h2_, h3_, h4_⟩
            have n0_ : Aside0 (Kd.R (Kd.int .i64) 3 w20 w.heap.size (fun k_ => some k_ ≠ (.slice Ao14 t265.length co14 : Value).ownBlock ∧ some k_ ≠ (v272 : Value).ownBlock ∧ some k_ ≠ (v275 : Value).ownBlock) (.slice Ao13 t264.length co13) t264) := ⟨h0_⟩
            have n1_ : Aside0 (Kd.R (Kd.int .i64) 3 w20 w.heap.size (fun k_ => some k_ ≠ (.slice Ao13 t264.length co13 : Value).ownBlock ∧ some k_ ≠ (v272 : Value).ownBlock ∧ some k_ ≠ (v275 : Value).ownBlock) (.slice Ao14 t265.length co14) t265) := ⟨h1_⟩
            have n2_ : Aside0 (Kd.R (Kd.int .i64) 3 w20 w.heap.size (fun k_ => some k_ ≠ (.slice Ao13 t264.length co13 : Value).ownBlock ∧ some k_ ≠ (.slice Ao14 t265.length co14 : Value).ownBlock ∧ some k_ ≠ (v275 : Value).ownBlock) v272 y271) := ⟨h2_⟩
            have n3_ : Aside0 (Kd.R (Kd.int .i64) 3 w20 w.heap.size (fun k_ => some k_ ≠ (.slice Ao13 t264.length co13 : Value).ownBlock ∧ some k_ ≠ (.slice Ao14 t265.length co14 : Value).ownBlock ∧ some k_ ≠ (v272 : Value).ownBlock) v275 y274) := ⟨h3_⟩
            have n4_ : Aside0 (Below w.heap.size w w20) := ⟨h4_⟩
            clear HO268
            clear HO270
            clear HB
            clear h0_ h1_ h2_ h3_ h4_
            have HO268 := n0_
            have HO270 := n1_
            have HO273 := n2_
            have HO276 := n3_
            have HB := n4_
            clear n0_ n1_ n2_ n3_ n4_
            have hHeld := trivial
            refine norm_ (a' := ?_) ?_ ?_
            rotate_left
            · simp only [putAll, Act.put, List.setIfInBounds_toArray, List.set_cons_zero, List.set_cons_succ]
              rfl
            refine pure_ (i := 5) (N := some 15) (v := ?_) (a' := ?_) #[true, true, true, true, true, true] rfl rfl (by kernel_rfl) (fun _ _ _ h => h) (Or.inl ⟨by rfl, ?_⟩) ?_ ?_
            rotate_left
            · intro w'
              go_simp
              with_reducible rfl
            rotate_left
            · simp only [Act.put, List.setIfInBounds_toArray, List.set_cons_zero, List.set_cons_succ, i64_w, i32_w]
              rfl
            refine done_ (by kernel_rfl) ?_
            try go_wp2
            go_loopg [16, 17] k (fun kq v16 v17 w' => ∃ (x14_1 : List Int) (x15_1 : List Int) (x16_1 : Int) (x17_1 : Int), v16 = .int .i64 x16_1 ∧ v17 = .int .i64 x17_1 ∧ Aside0 (swashplateref08_Certain.l0 kq a0 a1 l2 (wrap64 ((t264.length : Int) + (t265.length : Int))) x14_1 x15_1 x16_1 x17_1 = some (r1, r2, r3)) ∧ Aside0 (kq ≤ k) ∧ Aside0 (Kd.R (Kd.int .i64) 3 w' w.heap.size (fun k_ => some k_ ≠ (v275 : Value).ownBlock) v272 x14_1) ∧ Aside0 (Kd.R (Kd.int .i64) 3 w' w.heap.size (fun k_ => some k_ ≠ (v272 : Value).ownBlock) v275 x15_1) ∧ Aside0 (Below w.heap.size w w'))
            case atStart => exact ⟨(y271), (y274), (0), (0), (by first | rfl | (simp; done) | (simp [*]; done)), (by first | rfl | (simp; done) | (simp [*]; done)), H', ⟨Nat.le_refl _⟩, ⟨by (with_reducible repeat (first | apply Kd.R_alloc | apply Kd.R_drewN | apply Kd.R_drew)); exact Kd.R_mono HO273.out (fun _ hk => hk.2.2)⟩, ⟨by (with_reducible repeat (first | apply Kd.R_alloc | apply Kd.R_drewN | apply Kd.R_drew)); exact Kd.R_mono HO276.out (fun _ hk => hk.2.2)⟩, ⟨by repeat (first | (with_reducible first | exact HB.out | apply below_alloc | apply pw_below_drewN | apply below_drew1) | exact HB.out)⟩⟩
            case round =>
              clear H'
              try clear c1
              try clear c2
              try clear p2
              try clear c3
              try clear c4
              try clear c5
              try clear c5b0
              try clear c5b1
              try clear p6
              try clear c7
              try clear c7b0
              try clear c7b1
              try clear c8
              try clear c8b0
              try clear c8b1
              try clear c9
              try clear c9b0
              try clear c9b1
              try clear c10
              try clear c10b0
              try clear c10b1
              obtain ⟨x14_1, x15_1, x16_1, x17_1, rfl, rfl, HA, HK1, HO_14, HO_15, HB⟩ := hrel
              cases gk with
              | zero => exact absurd HA.out (by simp [swashplateref08_Certain.l0])
              | succ k1 =>
                have H := HA.out
                clear HA
                simp only [swashplateref08_Certain.l0] at H
                obtain ⟨ji21, hji21⟩ : ∃ j_ : Int, (IntKind.u64.wrap (a0)) = j_ := ⟨_, rfl⟩
                replace H : (if 0 ≤ (ji21) then (if x17_1 < (shl .i64 1 (ji21)) then ((swashplateref08_explanation.f k1 a0 a1 x17_1 l2).bind fun bt277 => (if (wrap64 ((bt277.1.length : Int) + (bt277.2.length : Int))) = (wrap64 ((t264.length : Int) + (t265.length : Int))) then (swashplateref08_Certain.l1 k1 a0 a1 l2 (wrap64 ((t264.length : Int) + (t265.length : Int))) x14_1 x15_1 (wrap64 (x16_1 + 1)) x17_1 bt277.1 bt277.2 0) else (swashplateref08_Certain.l0 k1 a0 a1 l2 (wrap64 ((t264.length : Int) + (t265.length : Int))) x14_1 x15_1 x16_1 (wrap64 (x17_1 + 1))))) else (swashplateref08_Certain.l3 k1 a0 a1 x14_1 x15_1 x16_1 ([] : List Int) 0)) else (none)) = some (r1, r2, r3) := by first | (rw [hji21] at H; exact H) | (simp only [hji21] at H ⊢; exact H)
                by_cases c22 : 0 ≤ (ji21)
                · rw [if_pos c22] at H
                  have c22b0 := eq_true c22
                  have c22b1 : decide (0 ≤ (ji21)) = true := decide_eq_true c22
                  clear c22
                  obtain ⟨ji23, hji23⟩ : ∃ j_ : Int, (shl .i64 1 (ji21)) = j_ := ⟨_, rfl⟩
                  replace H : (if x17_1 < (ji23) then ((swashplateref08_explanation.f k1 a0 a1 x17_1 l2).bind fun bt277 => (if (wrap64 ((bt277.1.length : Int) + (bt277.2.length : Int))) = (wrap64 ((t264.length : Int) + (t265.length : Int))) then (swashplateref08_Certain.l1 k1 a0 a1 l2 (wrap64 ((t264.length : Int) + (t265.length : Int))) x14_1 x15_1 (wrap64 (x16_1 + 1)) x17_1 bt277.1 bt277.2 0) else (swashplateref08_Certain.l0 k1 a0 a1 l2 (wrap64 ((t264.length : Int) + (t265.length : Int))) x14_1 x15_1 x16_1 (wrap64 (x17_1 + 1))))) else (swashplateref08_Certain.l3 k1 a0 a1 x14_1 x15_1 x16_1 ([] : List Int) 0)) = some (r1, r2, r3) := by first | (rw [hji23] at H; exact H) | (simp only [hji23] at H ⊢; exact H)
                  have hji23_ : (IntKind.i64.wrap (1 * 2 ^ min (ji21).toNat 64)) = ji23 := hji23
                  have hji23z : (ji21) ≤ 64 → (IntKind.i64.wrap (1 * 2 ^ (ji21).toNat)) = ji23 := shl_small hji23
                  have hji23u : (IntKind.i64.wrap (2 ^ min (ji21).toNat 64)) = ji23 := by have h_ := hji23_; rw [Int.one_mul] at h_; exact h_
                  have hji23v : (ji21) ≤ 64 → (IntKind.i64.wrap (2 ^ (ji21).toNat)) = ji23 := fun hle_ => by have h_ := hji23z hle_; rw [Int.one_mul] at h_; exact h_
                  have hji23y : (wrap64 (1 * 2 ^ min (ji21).toNat 64)) = ji23 := (i64_w _).symm.trans hji23_
                  have hji23x : (ji21) ≤ 64 → (wrap64 (1 * 2 ^ (ji21).toNat)) = ji23 := fun h_ => (i64_w _).symm.trans (hji23z h_)
                  by_cases c24 : x17_1 < (ji23)
                  · rw [if_pos c24] at H
                    have c24b0 : decide (x17_1 < (ji23)) = true := decide_eq_true c24
                    clear c24
                    replace H := Option.bind_eq_some_iff.mp H
                    obtain ⟨⟨t277, t278⟩, A250, H⟩ := H
                    replace H : (if (wrap64 ((t277.length : Int) + (t278.length : Int))) = (wrap64 ((t264.length : Int) + (t265.length : Int))) then (swashplateref08_Certain.l1 k1 a0 a1 l2 (wrap64 ((t264.length : Int) + (t265.length : Int))) x14_1 x15_1 (wrap64 (x16_1 + 1)) x17_1 t277 t278 0) else (swashplateref08_Certain.l0 k1 a0 a1 l2 (wrap64 ((t264.length : Int) + (t265.length : Int))) x14_1 x15_1 x16_1 (wrap64 (x17_1 + 1)))) = some (r1, r2, r3) := H
                    have A25 := Aside0.mk A250
                    clear A250
                    by_cases c26 : (wrap64 ((t277.length : Int) + (t278.length : Int))) = (wrap64 ((t264.length : Int) + (t265.length : Int)))
                    · rw [if_pos c26] at H
                      have c26b0 : ((wrap64 ((t277.length : Int) + (t278.length : Int))) == (wrap64 ((t264.length : Int) + (t265.length : Int)))) = true := beq_iff_eq.mpr c26
                      have c26b1 : ((wrap64 ((t277.length : Int) + (t278.length : Int))) != (wrap64 ((t264.length : Int) + (t265.length : Int)))) = false := bne_eq_false_iff_eq.mpr c26
                      clear c26
                      have H' := Aside0.mk H
                      clear H
                      go_wp2_with (first | ((with_reducible refine gate_callee (f := 74) rfl ?_); refine goesL_ (some 62) rfl rfl Try.func74 (by kernel_rfl) rfl #[.int .i64 a0, .int .i64 a1, .int .i64 x17_1, .slice A2 l2.length c2] rfl (by (try simp only [List.map_toArray, List.map_cons, List.map_nil]); first | done | rfl | (simp only [List.length_drop, List.length_take]; rfl)) ?_; (with_reducible refine (swashplateref08_explanation.calls k1 a0 a1 x17_1 _ _ l2 t277 t278 _ ?side1 ?side2 A25.out).mono ?_); (case side1 => repeat (first | exact (Kd.C_below HR2.out HB.out) | (with_reducible refine Kd.C_alloc ?_ _) | (with_reducible refine Kd.C_drewN ?_ _) | (with_reducible refine Kd.C_drew ?_))); (case side2 => exact HC2.out); rintro e w27 ⟨v279, v281, rfl, ho0, ho1, hb⟩; refine ⟨_, rfl, ?_⟩; have n0_ := Aside0.mk (Kd.R_mono (Kd.R_told (Kd.R_told (Kd.R_old (by (with_reducible repeat (first | apply Kd.R_alloc | apply Kd.R_drewN | apply Kd.R_drew)); exact HO_14.out) hb) (Kd.R_base ho0)) (Kd.R_base ho1)) (fun _ h_ => h_.1)); have n1_ := Aside0.mk (Kd.R_mono (Kd.R_told (Kd.R_told (Kd.R_old (by (with_reducible repeat (first | apply Kd.R_alloc | apply Kd.R_drewN | apply Kd.R_drew)); exact HO_15.out) hb) (Kd.R_base ho0)) (Kd.R_base ho1)) (fun _ h_ => h_.1)); have n2_ := Aside0.mk (Kd.R_lower (Kd.R_new' (Kd.R_new' ho0 (Kd.R_lt (by (with_reducible repeat (first | apply Kd.R_alloc | apply Kd.R_drewN | apply Kd.R_drew)); exact HO_14.out))) (Kd.R_lt (by (with_reducible repeat (first | apply Kd.R_alloc | apply Kd.R_drewN | apply Kd.R_drew)); exact HO_15.out))) (below_size (by repeat (first | (with_reducible first | exact HB.out | apply below_alloc | apply pw_below_drewN | apply below_drew1) | exact HB.out)))); have n3_ := Aside0.mk (Kd.R_lower (Kd.R_new' (Kd.R_new' ho1 (Kd.R_lt (by (with_reducible repeat (first | apply Kd.R_alloc | apply Kd.R_drewN | apply Kd.R_drew)); exact HO_14.out))) (Kd.R_lt (by (with_reducible repeat (first | apply Kd.R_alloc | apply Kd.R_drewN | apply Kd.R_drew)); exact HO_15.out))) (below_size (by repeat (first | (with_reducible first | exact HB.out | apply below_alloc | apply pw_below_drewN | apply below_drew1) | exact HB.out)))); have n4_ := Aside0.mk (below_step (by repeat (first | (with_reducible first | exact HB.out | apply below_alloc | apply pw_below_drewN | apply below_drew1) | exact HB.out)) hb); clear HO_14; clear HO_15; clear HB; have HO_14 := n0_; have HO_15 := n1_; have HO280 := n2_; have HO282 := n3_; have HB := n4_; clear n0_ n1_ n2_ n3_ n4_; (try clear hb); (try clear hb2); (try clear hk); (try clear hi); (try clear ho0); (try clear ho1); obtain ⟨Ao28, co28, eo28⟩ := Kd.R_slice HO280.out; subst eo28; obtain ⟨Ao29, co29, eo29⟩ := Kd.R_slice HO282.out; subst eo29))
                      go_loopg [20] k1 (fun kq v20 w' => ∃ (x14_2 : List Int) (x20_2 : Int), v20 = .int .i64 x20_2 ∧ Aside0 (swashplateref08_Certain.l1 kq a0 a1 l2 (wrap64 ((t264.length : Int) + (t265.length : Int))) x14_2 x15_1 (wrap64 (x16_1 + 1)) x17_1 t277 t278 x20_2 = some (r1, r2, r3)) ∧ Aside0 (kq ≤ k1) ∧ Aside0 (Kd.R (Kd.int .i64) 3 w' w.heap.size (fun k_ => some k_ ≠ (v275 : Value).ownBlock ∧ some k_ ≠ ((.slice Ao28 t277.length co28) : Value).ownBlock ∧ some k_ ≠ ((.slice Ao29 t278.length co29) : Value).ownBlock) v272 x14_2) ∧ Aside0 (Kd.R (Kd.int .i64) 3 w' w.heap.size (fun k_ => some k_ ≠ (v272 : Value).ownBlock ∧ some k_ ≠ ((.slice Ao28 t277.length co28) : Value).ownBlock ∧ some k_ ≠ ((.slice Ao29 t278.length co29) : Value).ownBlock) v275 x15_1) ∧ Aside0 (Kd.R (Kd.int .i64) 3 w' w.heap.size (fun k_ => some k_ ≠ (v272 : Value).ownBlock ∧ some k_ ≠ (v275 : Value).ownBlock ∧ some k_ ≠ ((.slice Ao29 t278.length co29) : Value).ownBlock) (.slice Ao28 t277.length co28) t277) ∧ Aside0 (Kd.R (Kd.int .i64) 3 w' w.heap.size (fun k_ => some k_ ≠ (v272 : Value).ownBlock ∧ some k_ ≠ (v275 : Value).ownBlock ∧ some k_ ≠ ((.slice Ao28 t277.length co28) : Value).ownBlock) (.slice Ao29 t278.length co29) t278) ∧ Aside0 (Below w.heap.size w w'))
                      case atStart => exact ⟨(x14_1), (0), (by first | rfl | (simp; done) | (simp [*]; done)), H', ⟨Nat.le_refl _⟩, ⟨by (with_reducible repeat (first | apply Kd.R_alloc | apply Kd.R_drewN | apply Kd.R_drew)); exact Kd.R_mono HO_14.out (fun _ hk => ⟨hk.1.1, ⟨hk.1.2, hk.2⟩⟩)⟩, ⟨by (with_reducible repeat (first | apply Kd.R_alloc | apply Kd.R_drewN | apply Kd.R_drew)); exact Kd.R_mono HO_15.out (fun _ hk => ⟨hk.1.1, ⟨hk.1.2, hk.2⟩⟩)⟩, ⟨by (with_reducible repeat (first | apply Kd.R_alloc | apply Kd.R_drewN | apply Kd.R_drew)); exact Kd.R_mono HO280.out (fun _ hk => ⟨hk.1.2, ⟨hk.2, hk.1.1⟩⟩)⟩, ⟨by (with_reducible repeat (first | apply Kd.R_alloc | apply Kd.R_drewN | apply Kd.R_drew)); exact Kd.R_mono HO282.out (fun _ hk => ⟨hk.1.2, ⟨hk.2, hk.1.1⟩⟩)⟩, ⟨by repeat (first | (with_reducible first | exact HB.out | apply below_alloc | apply pw_below_drewN | apply below_drew1) | exact HB.out)⟩⟩
                      case round =>
                        clear H'
                        try clear c1
                        try clear c2
                        try clear p2
                        try clear c3
                        try clear c4
                        try clear c5
                        try clear c5b0
                        try clear c5b1
                        try clear p6
                        try clear c7
                        try clear c7b0
                        try clear c7b1
                        try clear c8
                        try clear c8b0
                        try clear c8b1
                        try clear c9
                        try clear c9b0
                        try clear c9b1
                        try clear c10
                        try clear c10b0
                        try clear c10b1
                        try clear c22
                        try clear c22b0
                        try clear c22b1
                        try clear c24
                        try clear c24b0
                        try clear c26
                        try clear c26b0
                        try clear c26b1
                        try clear p2
                        try clear p6
                        obtain ⟨x14_2, x20_2, rfl, HA, HK2, HO_14, HO_15, HO_18, HO_19, HB⟩ := hrel
                        cases gk with
                        | zero => exact absurd HA.out (by simp [swashplateref08_Certain.l1])
                        | succ k2 =>
                          have H := HA.out
                          clear HA
                          simp only [swashplateref08_Certain.l1] at H
                          by_cases c30 : x20_2 < (t277.length : Int)
                          · rw [if_pos c30] at H
                            have c30b0 : decide (x20_2 < (t277.length : Int)) = true := decide_eq_true c30
                            clear c30
                            by_cases c31 : 0 ≤ x20_2
                            · rw [if_pos c31] at H
                              have c31b0 : decide (0 ≤ x20_2) = true := decide_eq_true c31
                              clear c31
                              by_cases c32 : 0 ≤ (rd t277 x20_2)
                              · rw [if_pos c32] at H
                                have c32b0 : decide (0 ≤ (rd t277 x20_2)) = true := decide_eq_true c32
                                clear c32
                                by_cases c33 : (rd t277 x20_2) < (x14_2.length : Int)
                                · rw [if_pos c33] at H
                                  have c33b0 : decide ((rd t277 x20_2) < (x14_2.length : Int)) = true := decide_eq_true c33
                                  clear c33
                                  obtain ⟨y285, hy285⟩ : ∃ y_ : List Int, y_ = (x14_2.set ((rd t277 x20_2) : Int).toNat (wrap64 ((rd x14_2 (rd t277 x20_2)) + 1))) := ⟨_, rfl⟩
                                  replace H : (swashplateref08_Certain.l1 k2 a0 a1 l2 (wrap64 ((t264.length : Int) + (t265.length : Int))) y285 x15_1 (wrap64 (x16_1 + 1)) x17_1 t277 t278 (wrap64 (x20_2 + 1))) = some (r1, r2, r3) := by first | (rw [hy285]; with_reducible exact H) | (have H2_ := (Option.bind_some _ _).symm.trans H; rw [hy285]; with_reducible exact H2_) | (have H2_ := (Option.bind_some _ _).symm.trans H; with_reducible exact H2_) | with_reducible exact H | (rw [hy285]; exact H) | exact H
                                  have Ny285 := Aside0.mk hy285
                                  clear hy285
                                  have H' := Aside0.mk H
                                  clear H
                                  have p283 : 0 ≤ (x20_2 : Int) := of_decide_eq_true (by first | (with_reducible assumption) | assumption)
                                  have q283 : x20_2 < (t277.length : Int) := of_decide_eq_true (by first | (with_reducible assumption) | assumption)
                                  obtain ⟨ad283, e283, hx283_0⟩ := Kd.at_int (Kd.R_reads' HO_18.out).2.2 x20_2 p283 q283
                                  cases e283
                                  replace p283 := eq_true p283
                                  replace q283 := eq_true q283
                                  obtain ⟨Ao35, co35, eo35⟩ := Kd.R_slice HO_14.out
                                  subst eo35
                                  have p284 : 0 ≤ ((rd t277 x20_2) : Int) := of_decide_eq_true (by first | (with_reducible assumption) | assumption)
                                  have q284 : (rd t277 x20_2) < (x14_2.length : Int) := of_decide_eq_true (by first | (with_reducible assumption) | assumption)
                                  obtain ⟨ad284, e284, hx284_0⟩ := Kd.at_int (Kd.R_reads' HO_14.out).2.2 (rd t277 x20_2) p284 q284
                                  cases e284
                                  replace p284 := eq_true p284
                                  replace q284 := eq_true q284
                                  have p34 : 0 ≤ ((rd t277 x20_2) : Int) := of_decide_eq_true (by first | (with_reducible assumption) | assumption)
                                  have q34 : ((rd t277 x20_2) : Int) < ((x14_2.length : Int) : Int) := of_decide_eq_true (by first | (with_reducible assumption) | assumption)
                                  obtain ⟨go34, co34, eo34, gb34, gl34, cl34, HG34⟩ := Kd.R_form HO_14.out (by omega)
                                  (first | cases eo34 | (injection eo34 with ea_ en_ ec_; (first | subst ea_ | (injection ea_ with ea_; subst ea_)); subst ec_; clear en_))
                                  have GB34 := Aside0.mk gb34
                                  have GG34 := Aside0.mk HG34
                                  clear gb34 gl34 HG34
                                  (first | simp only [add_plain] at hx284_0 | skip)
                                  obtain ⟨hx34_0, hf34_0⟩ := Kd.R_celln 0 HO_14.out ((rd t277 x20_2) : Int) p34 q34
                                  replace p34 := eq_true p34
                                  replace q34 := eq_true q34
                                  have HP36 := Kd.R_putg HO_14.out ((rd t277 x20_2) : Int) (wrap64 ((rd x14_2 (rd t277 x20_2)) + 1))
                                  go_wp2_with (first | ((with_reducible refine gate_store (t := 3) (p := 88) rfl ?_); refine store_event (t := 3) (p := 88) (v := ?vo_w37) (w1 := (wr.setCell ⟨go34, ((rd t277 x20_2) : Int).toNat, none⟩ (.int .i64 (wrap64 ((rd x14_2 (rd t277 x20_2)) + 1))))) ?hg ?ho ?hn ?hr ?_; (case ho => rfl); (case hg => rfl); (case hn => rfl); (case hr => first | (go_simp; done) | (go_simp; rfl)); intro w37 hw; have hg : wr.grownBy w37 (some go34) := (by rw [hw]; exact HP36.2); have hp_ : Kd.R (Kd.int .i64) 3 w37 w.heap.size (fun k_ => some k_ ≠ (v275 : Value).ownBlock ∧ some k_ ≠ (.slice (some ad283) t277.length co28 : Value).ownBlock ∧ some k_ ≠ (.slice Ao29 t278.length co29 : Value).ownBlock) (.slice (some ⟨go34, 0, none⟩) x14_2.length co35) y285 := (by rw [hw, Ny285.out]; exact HP36.1); clear HP36; have n0_ := Aside0.mk (hp_); have n1_ := Aside0.mk (Kd.R_after (v := (.slice (some ⟨go34, 0, none⟩) x14_2.length co35)) (v1 := (.slice (some ⟨go34, 0, none⟩) x14_2.length co35)) (ok := (fun k_ => some k_ ≠ (.slice (some ad283) t277.length co28 : Value).ownBlock ∧ some k_ ≠ (.slice Ao29 t278.length co29 : Value).ownBlock)) (by (with_reducible repeat (first | apply Kd.R_alloc | apply Kd.R_drewN | apply Kd.R_drew)); exact Kd.R_mono HO_15.out (fun _ hk => ⟨⟨hk.2.1, hk.2.2⟩, hk.1⟩)) hg (.inl rfl)); have n2_ := Aside0.mk (Kd.R_after (v := (.slice (some ⟨go34, 0, none⟩) x14_2.length co35)) (v1 := (.slice (some ⟨go34, 0, none⟩) x14_2.length co35)) (ok := (fun k_ => some k_ ≠ (v275 : Value).ownBlock ∧ some k_ ≠ (.slice Ao29 t278.length co29 : Value).ownBlock)) (by (with_reducible repeat (first | apply Kd.R_alloc | apply Kd.R_drewN | apply Kd.R_drew)); exact Kd.R_mono HO_18.out (fun _ hk => ⟨⟨hk.2.1, hk.2.2⟩, hk.1⟩)) hg (.inl rfl)); have n3_ := Aside0.mk (Kd.R_after (v := (.slice (some ⟨go34, 0, none⟩) x14_2.length co35)) (v1 := (.slice (some ⟨go34, 0, none⟩) x14_2.length co35)) (ok := (fun k_ => some k_ ≠ (v275 : Value).ownBlock ∧ some k_ ≠ (.slice (some ad283) t277.length co28 : Value).ownBlock)) (by (with_reducible repeat (first | apply Kd.R_alloc | apply Kd.R_drewN | apply Kd.R_drew)); exact Kd.R_mono HO_19.out (fun _ hk => ⟨⟨hk.2.1, hk.2.2⟩, hk.1⟩)) hg (.inl rfl)); have n4_ := Aside0.mk ((by rw [hw]; exact below_set (HB.out) GB34.out : Below w.heap.size w w37)); clear HO_14; clear HO_15; clear HO_18; clear HO_19; clear HB; have HO_14 := n0_; have HO_15 := n1_; have HO_18 := n2_; have HO_19 := n3_; have HB := n4_; clear n0_ n1_ n2_ n3_ n4_; clear hg hw hp_))
                                  go_roundg k2
                                  case measure => have := HK1.out; have := HK2.out; omega
                                  case rel => exact ⟨(y285), (wrap64 (x20_2 + 1)), (by first | rfl | (simp; done) | (simp [*]; done)), H', ⟨by have := HK1.out; have := HK2.out; omega⟩, ⟨by (with_reducible repeat (first | apply Kd.R_alloc | apply Kd.R_drewN | apply Kd.R_drew)); exact HO_14.out⟩, ⟨by (with_reducible repeat (first | apply Kd.R_alloc | apply Kd.R_drewN | apply Kd.R_drew)); exact Kd.R_mono HO_15.out (fun _ hk => ⟨hk.2, ⟨hk.1.1, hk.1.2⟩⟩)⟩, ⟨by (with_reducible repeat (first | apply Kd.R_alloc | apply Kd.R_drewN | apply Kd.R_drew)); exact Kd.R_mono HO_18.out (fun _ hk => ⟨hk.2, ⟨hk.1.1, hk.1.2⟩⟩)⟩, ⟨by (with_reducible repeat (first | apply Kd.R_alloc | apply Kd.R_drewN | apply Kd.R_drew)); exact Kd.R_mono HO_19.out (fun _ hk => ⟨hk.2, ⟨hk.1.1, hk.1.2⟩⟩)⟩, ⟨by repeat (first | (with_reducible first | exact HB.out | apply below_alloc | apply pw_below_drewN | apply below_drew1) | exact HB.out)⟩⟩
                                · rw [if_neg c33] at H
                                  exact absurd H (by simp)
                              · rw [if_neg c32] at H
                                exact absurd H (by simp)
                            · rw [if_neg c31] at H
                              exact absurd H (by simp)
                          · rw [if_neg c30] at H
                            have c30b0 : decide (x20_2 < (t277.length : Int)) = false := decide_eq_false c30
                            clear c30
                            have H' := Aside0.mk H
                            clear H
                            go_wp2
                            go_loopg [21] k2 (fun kq v21 w' => ∃ (x15_3 : List Int) (x21_3 : Int), v21 = .int .i64 x21_3 ∧ Aside0 (swashplateref08_Certain.l2 kq a0 a1 l2 (wrap64 ((t264.length : Int) + (t265.length : Int))) x14_2 x15_3 (wrap64 (x16_1 + 1)) x17_1 t278 x21_3 = some (r1, r2, r3)) ∧ Aside0 (kq ≤ k2) ∧ Aside0 (Kd.R (Kd.int .i64) 3 w' w.heap.size (fun k_ => some k_ ≠ (v275 : Value).ownBlock ∧ some k_ ≠ ((.slice Ao29 t278.length co29) : Value).ownBlock) v272 x14_2) ∧ Aside0 (Kd.R (Kd.int .i64) 3 w' w.heap.size (fun k_ => some k_ ≠ (v272 : Value).ownBlock ∧ some k_ ≠ ((.slice Ao29 t278.length co29) : Value).ownBlock) v275 x15_3) ∧ Aside0 (Kd.R (Kd.int .i64) 3 w' w.heap.size (fun k_ => some k_ ≠ (v272 : Value).ownBlock ∧ some k_ ≠ (v275 : Value).ownBlock) (.slice Ao29 t278.length co29) t278) ∧ Aside0 (Below w.heap.size w w'))
                            case atStart => exact ⟨(x15_1), (0), (by first | rfl | (simp; done) | (simp [*]; done)), H', ⟨Nat.le_refl _⟩, ⟨by (with_reducible repeat (first | apply Kd.R_alloc | apply Kd.R_drewN | apply Kd.R_drew)); exact Kd.R_mono HO_14.out (fun _ hk => ⟨hk.1, hk.2.2⟩)⟩, ⟨by (with_reducible repeat (first | apply Kd.R_alloc | apply Kd.R_drewN | apply Kd.R_drew)); exact Kd.R_mono HO_15.out (fun _ hk => ⟨hk.1, hk.2.2⟩)⟩, ⟨by (with_reducible repeat (first | apply Kd.R_alloc | apply Kd.R_drewN | apply Kd.R_drew)); exact Kd.R_mono HO_19.out (fun _ hk => ⟨hk.1, hk.2.1⟩)⟩, ⟨by repeat (first | (with_reducible first | exact HB.out | apply below_alloc | apply pw_below_drewN | apply below_drew1) | exact HB.out)⟩⟩
                            case round =>
                              clear H'
                              try clear c1
                              try clear c2
                              try clear p2
                              try clear q2
                              try clear hx2
                              try clear c3
                              try clear p3
                              try clear q3
                              try clear hx3
                              try clear hf3
                              try clear c4
                              try clear c5
                              try clear c5b0
                              try clear c5b1
                              try clear p6
                              try clear c7
                              try clear c7b0
                              try clear c7b1
                              try clear c8
                              try clear c8b0
                              try clear c8b1
                              try clear c9
                              try clear c9b0
                              try clear c9b1
                              try clear c10
                              try clear c10b0
                              try clear c10b1
                              try clear c22
                              try clear c22b0
                              try clear c22b1
                              try clear c24
                              try clear c24b0
                              try clear c26
                              try clear c26b0
                              try clear c26b1
                              try clear p28
                              try clear q28
                              try clear hx28
                              try clear c30
                              try clear c30b0
                              try clear c31
                              try clear c31b0
                              try clear c32
                              try clear c32b0
                              try clear c33
                              try clear c33b0
                              try clear c34
                              try clear p34
                              try clear q34
                              try clear hx34
                              try clear hf34
                              try clear hx283_0
                              try clear hx284_0
                              try clear hx34_0
                              try clear p2
                              try clear p283
                              try clear p284
                              try clear p34
                              try clear p6
                              try clear q283
                              try clear q284
                              try clear q34
                              obtain ⟨x15_3, x21_3, rfl, HA, HK3, HO_14, HO_15, HO_19, HB⟩ := hrel
                              cases gk with
                              | zero => exact absurd HA.out (by simp [swashplateref08_Certain.l2])
                              | succ k3 =>
                                have H := HA.out
                                clear HA
                                simp only [swashplateref08_Certain.l2] at H
                                by_cases c38 : x21_3 < (t278.length : Int)
                                · rw [if_pos c38] at H
                                  have c38b0 : decide (x21_3 < (t278.length : Int)) = true := decide_eq_true c38
                                  clear c38
                                  by_cases c39 : 0 ≤ x21_3
                                  · rw [if_pos c39] at H
                                    have c39b0 : decide (0 ≤ x21_3) = true := decide_eq_true c39
                                    clear c39
                                    by_cases c40 : 0 ≤ (rd t278 x21_3)
                                    · rw [if_pos c40] at H
                                      have c40b0 : decide (0 ≤ (rd t278 x21_3)) = true := decide_eq_true c40
                                      clear c40
                                      by_cases c41 : (rd t278 x21_3) < (x15_3.length : Int)
                                      · rw [if_pos c41] at H
                                        have c41b0 : decide ((rd t278 x21_3) < (x15_3.length : Int)) = true := decide_eq_true c41
                                        clear c41
                                        obtain ⟨y288, hy288⟩ : ∃ y_ : List Int, y_ = (x15_3.set ((rd t278 x21_3) : Int).toNat (wrap64 ((rd x15_3 (rd t278 x21_3)) + 1))) := ⟨_, rfl⟩
                                        replace H : (swashplateref08_Certain.l2 k3 a0 a1 l2 (wrap64 ((t264.length : Int) + (t265.length : Int))) x14_2 y288 (wrap64 (x16_1 + 1)) x17_1 t278 (wrap64 (x21_3 + 1))) = some (r1, r2, r3) := by first | (rw [hy288]; with_reducible exact H) | (have H2_ := (Option.bind_some _ _).symm.trans H; rw [hy288]; with_reducible exact H2_) | (have H2_ := (Option.bind_some _ _).symm.trans H; with_reducible exact H2_) | with_reducible exact H | (rw [hy288]; exact H) | exact H
                                        have Ny288 := Aside0.mk hy288
                                        clear hy288
                                        have H' := Aside0.mk H
                                        clear H
                                        have p286 : 0 ≤ (x21_3 : Int) := of_decide_eq_true (by first | (with_reducible assumption) | assumption)
                                        have q286 : x21_3 < (t278.length : Int) := of_decide_eq_true (by first | (with_reducible assumption) | assumption)
                                        obtain ⟨ad286, e286, hx286_0⟩ := Kd.at_int (Kd.R_reads' HO_19.out).2.2 x21_3 p286 q286
                                        cases e286
                                        replace p286 := eq_true p286
                                        replace q286 := eq_true q286
                                        obtain ⟨Ao43, co43, eo43⟩ := Kd.R_slice HO_15.out
                                        subst eo43
                                        have p287 : 0 ≤ ((rd t278 x21_3) : Int) := of_decide_eq_true (by first | (with_reducible assumption) | assumption)
                                        have q287 : (rd t278 x21_3) < (x15_3.length : Int) := of_decide_eq_true (by first | (with_reducible assumption) | assumption)
                                        obtain ⟨ad287, e287, hx287_0⟩ := Kd.at_int (Kd.R_reads' HO_15.out).2.2 (rd t278 x21_3) p287 q287
                                        cases e287
                                        replace p287 := eq_true p287
                                        replace q287 := eq_true q287
                                        have p42 : 0 ≤ ((rd t278 x21_3) : Int) := of_decide_eq_true (by first | (with_reducible assumption) | assumption)
                                        have q42 : ((rd t278 x21_3) : Int) < ((x15_3.length : Int) : Int) := of_decide_eq_true (by first | (with_reducible assumption) | assumption)
                                        obtain ⟨go42, co42, eo42, gb42, gl42, cl42, HG42⟩ := Kd.R_form HO_15.out (by omega)
                                        (first | cases eo42 | (injection eo42 with ea_ en_ ec_; (first | subst ea_ | (injection ea_ with ea_; subst ea_)); subst ec_; clear en_))
                                        have GB42 := Aside0.mk gb42
                                        have GG42 := Aside0.mk HG42
                                        clear gb42 gl42 HG42
                                        (first | simp only [add_plain] at hx287_0 | skip)
                                        obtain ⟨hx42_0, hf42_0⟩ := Kd.R_celln 0 HO_15.out ((rd t278 x21_3) : Int) p42 q42
                                        replace p42 := eq_true p42
                                        replace q42 := eq_true q42
                                        have HP44 := Kd.R_putg HO_15.out ((rd t278 x21_3) : Int) (wrap64 ((rd x15_3 (rd t278 x21_3)) + 1))
                                        go_wp2_with (first | ((with_reducible refine gate_store (t := 3) (p := 103) rfl ?_); refine store_event (t := 3) (p := 103) (v := ?vo_w45) (w1 := (wr.setCell ⟨go42, ((rd t278 x21_3) : Int).toNat, none⟩ (.int .i64 (wrap64 ((rd x15_3 (rd t278 x21_3)) + 1))))) ?hg ?ho ?hn ?hr ?_; (case ho => rfl); (case hg => rfl); (case hn => rfl); (case hr => first | (go_simp; done) | (go_simp; rfl)); intro w45 hw; have hg : wr.grownBy w45 (some go42) := (by rw [hw]; exact HP44.2); have hp_ : Kd.R (Kd.int .i64) 3 w45 w.heap.size (fun k_ => some k_ ≠ (v272 : Value).ownBlock ∧ some k_ ≠ (.slice (some ad286) t278.length co29 : Value).ownBlock) (.slice (some ⟨go42, 0, none⟩) x15_3.length co43) y288 := (by rw [hw, Ny288.out]; exact HP44.1); clear HP44; have n0_ := Aside0.mk (Kd.R_after (v := (.slice (some ⟨go42, 0, none⟩) x15_3.length co43)) (v1 := (.slice (some ⟨go42, 0, none⟩) x15_3.length co43)) (ok := (fun k_ => some k_ ≠ (.slice (some ad286) t278.length co29 : Value).ownBlock)) (by (with_reducible repeat (first | apply Kd.R_alloc | apply Kd.R_drewN | apply Kd.R_drew)); exact Kd.R_mono HO_14.out (fun _ hk => ⟨hk.2, hk.1⟩)) hg (.inl rfl)); have n1_ := Aside0.mk (hp_); have n2_ := Aside0.mk (Kd.R_after (v := (.slice (some ⟨go42, 0, none⟩) x15_3.length co43)) (v1 := (.slice (some ⟨go42, 0, none⟩) x15_3.length co43)) (ok := (fun k_ => some k_ ≠ (v272 : Value).ownBlock)) (by (with_reducible repeat (first | apply Kd.R_alloc | apply Kd.R_drewN | apply Kd.R_drew)); exact HO_19.out) hg (.inl rfl)); have n3_ := Aside0.mk ((by rw [hw]; exact below_set (HB.out) GB42.out : Below w.heap.size w w45)); clear HO_14; clear HO_15; clear HO_19; clear HB; have HO_14 := n0_; have HO_15 := n1_; have HO_19 := n2_; have HB := n3_; clear n0_ n1_ n2_ n3_; clear hg hw hp_))
                                        go_roundg k3
                                        case measure => have := HK1.out; have := HK2.out; have := HK3.out; omega
                                        case rel => exact ⟨(y288), (wrap64 (x21_3 + 1)), (by first | rfl | (simp; done) | (simp [*]; done)), H', ⟨by have := HK1.out; have := HK2.out; have := HK3.out; omega⟩, ⟨by (with_reducible repeat (first | apply Kd.R_alloc | apply Kd.R_drewN | apply Kd.R_drew)); exact Kd.R_mono HO_14.out (fun _ hk => ⟨hk.2, hk.1⟩)⟩, ⟨by (with_reducible repeat (first | apply Kd.R_alloc | apply Kd.R_drewN | apply Kd.R_drew)); exact HO_15.out⟩, ⟨by (with_reducible repeat (first | apply Kd.R_alloc | apply Kd.R_drewN | apply Kd.R_drew)); exact HO_19.out⟩, ⟨by repeat (first | (with_reducible first | exact HB.out | apply below_alloc | apply pw_below_drewN | apply below_drew1) | exact HB.out)⟩⟩
                                      · rw [if_neg c41] at H
                                        exact absurd H (by simp)
                                    · rw [if_neg c40] at H
                                      exact absurd H (by simp)
                                  · rw [if_neg c39] at H
                                    exact absurd H (by simp)
                                · rw [if_neg c38] at H
                                  have c38b0 : decide (x21_3 < (t278.length : Int)) = false := decide_eq_false c38
                                  clear c38
                                  have H' := Aside0.mk H
                                  clear H
                                  go_wp2
                                  go_roundg k3
                                  case measure => have := HK1.out; have := HK2.out; have := HK3.out; omega
                                  case rel => exact ⟨(x14_2), (x15_3), ((wrap64 (x16_1 + 1))), (wrap64 (x17_1 + 1)), (by first | rfl | (simp; done) | (simp [*]; done)), (by first | rfl | (simp; done) | (simp [*]; done)), H', ⟨by have := HK1.out; have := HK2.out; have := HK3.out; omega⟩, ⟨by (with_reducible repeat (first | apply Kd.R_alloc | apply Kd.R_drewN | apply Kd.R_drew)); exact Kd.R_mono HO_14.out (fun _ hk => hk.1)⟩, ⟨by (with_reducible repeat (first | apply Kd.R_alloc | apply Kd.R_drewN | apply Kd.R_drew)); exact Kd.R_mono HO_15.out (fun _ hk => hk.1)⟩, ⟨by repeat (first | (with_reducible first | exact HB.out | apply below_alloc | apply pw_below_drewN | apply below_drew1) | exact HB.out)⟩⟩
                    · rw [if_neg c26] at H
                      have c26b0 : ((wrap64 ((t277.length : Int) + (t278.length : Int))) == (wrap64 ((t264.length : Int) + (t265.length : Int)))) = false := beq_eq_false_iff_ne.mpr c26
                      have c26b1 : ((wrap64 ((t277.length : Int) + (t278.length : Int))) != (wrap64 ((t264.length : Int) + (t265.length : Int)))) = true := bne_iff_ne.mpr c26
                      have H' := Aside0.mk H
                      clear H
                      go_wp2_with (first | ((with_reducible refine gate_callee (f := 74) rfl ?_); refine goesL_ (some 62) rfl rfl Try.func74 (by kernel_rfl) rfl #[.int .i64 a0, .int .i64 a1, .int .i64 x17_1, .slice A2 l2.length c2] rfl (by (try simp only [List.map_toArray, List.map_cons, List.map_nil]); first | done | rfl | (simp only [List.length_drop, List.length_take]; rfl)) ?_; (with_reducible refine (swashplateref08_explanation.calls k1 a0 a1 x17_1 _ _ l2 t277 t278 _ ?side1 ?side2 A25.out).mono ?_); (case side1 => repeat (first | exact (Kd.C_below HR2.out HB.out) | (with_reducible refine Kd.C_alloc ?_ _) | (with_reducible refine Kd.C_drewN ?_ _) | (with_reducible refine Kd.C_drew ?_))); (case side2 => exact HC2.out); rintro e w46 ⟨v279, v281, rfl, ho0, ho1, hb⟩; refine ⟨_, rfl, ?_⟩; have n0_ := Aside0.mk (Kd.R_mono (Kd.R_told (Kd.R_told (Kd.R_old (by (with_reducible repeat (first | apply Kd.R_alloc | apply Kd.R_drewN | apply Kd.R_drew)); exact HO_14.out) hb) (Kd.R_base ho0)) (Kd.R_base ho1)) (fun _ h_ => h_.1)); have n1_ := Aside0.mk (Kd.R_mono (Kd.R_told (Kd.R_told (Kd.R_old (by (with_reducible repeat (first | apply Kd.R_alloc | apply Kd.R_drewN | apply Kd.R_drew)); exact HO_15.out) hb) (Kd.R_base ho0)) (Kd.R_base ho1)) (fun _ h_ => h_.1)); have n2_ := Aside0.mk (Kd.R_lower (Kd.R_new' (Kd.R_new' ho0 (Kd.R_lt (by (with_reducible repeat (first | apply Kd.R_alloc | apply Kd.R_drewN | apply Kd.R_drew)); exact HO_14.out))) (Kd.R_lt (by (with_reducible repeat (first | apply Kd.R_alloc | apply Kd.R_drewN | apply Kd.R_drew)); exact HO_15.out))) (below_size (by repeat (first | (with_reducible first | exact HB.out | apply below_alloc | apply pw_below_drewN | apply below_drew1) | exact HB.out)))); have n3_ := Aside0.mk (Kd.R_lower (Kd.R_new' (Kd.R_new' ho1 (Kd.R_lt (by (with_reducible repeat (first | apply Kd.R_alloc | apply Kd.R_drewN | apply Kd.R_drew)); exact HO_14.out))) (Kd.R_lt (by (with_reducible repeat (first | apply Kd.R_alloc | apply Kd.R_drewN | apply Kd.R_drew)); exact HO_15.out))) (below_size (by repeat (first | (with_reducible first | exact HB.out | apply below_alloc | apply pw_below_drewN | apply below_drew1) | exact HB.out)))); have n4_ := Aside0.mk (below_step (by repeat (first | (with_reducible first | exact HB.out | apply below_alloc | apply pw_below_drewN | apply below_drew1) | exact HB.out)) hb); clear HO_14; clear HO_15; clear HB; have HO_14 := n0_; have HO_15 := n1_; have HO280 := n2_; have HO282 := n3_; have HB := n4_; clear n0_ n1_ n2_ n3_ n4_; (try clear hb); (try clear hb2); (try clear hk); (try clear hi); (try clear ho0); (try clear ho1); obtain ⟨Ao47, co47, eo47⟩ := Kd.R_slice HO280.out; subst eo47; obtain ⟨Ao48, co48, eo48⟩ := Kd.R_slice HO282.out; subst eo48))
                      go_roundg k1
                      case measure => have := HK1.out; omega
                      case rel => exact ⟨(x14_1), (x15_1), (x16_1), (wrap64 (x17_1 + 1)), (by first | rfl | (simp; done) | (simp [*]; done)), (by first | rfl | (simp; done) | (simp [*]; done)), H', ⟨by have := HK1.out; omega⟩, ⟨by (with_reducible repeat (first | apply Kd.R_alloc | apply Kd.R_drewN | apply Kd.R_drew)); exact Kd.R_mono HO_14.out (fun _ hk => hk.1.1)⟩, ⟨by (with_reducible repeat (first | apply Kd.R_alloc | apply Kd.R_drewN | apply Kd.R_drew)); exact Kd.R_mono HO_15.out (fun _ hk => hk.1.1)⟩, ⟨by repeat (first | (with_reducible first | exact HB.out | apply below_alloc | apply pw_below_drewN | apply below_drew1) | exact HB.out)⟩⟩
                  · rw [if_neg c24] at H
                    have c24b0 : decide (x17_1 < (ji23)) = false := decide_eq_false c24
                    clear c24
                    have H' := Aside0.mk H
                    clear H
                    go_wp2
                    go_loopg [22, 24] k1 (fun kq v22 v24 w' => ∃ (x22_2 : List Int) (x24_2 : Int), v24 = .int .i64 x24_2 ∧ Aside0 (swashplateref08_Certain.l3 kq a0 a1 x14_1 x15_1 x16_1 x22_2 x24_2 = some (r1, r2, r3)) ∧ Aside0 (kq ≤ k1) ∧ Aside0 (Kd.R (Kd.int .i64) 3 w' w.heap.size (fun k_ => some k_ ≠ (v275 : Value).ownBlock ∧ some k_ ≠ (v22 : Value).ownBlock) v272 x14_1) ∧ Aside0 (Kd.R (Kd.int .i64) 3 w' w.heap.size (fun k_ => some k_ ≠ (v272 : Value).ownBlock ∧ some k_ ≠ (v22 : Value).ownBlock) v275 x15_1) ∧ Aside0 (Kd.R (Kd.int .i64) 3 w' w.heap.size (fun k_ => some k_ ≠ (v272 : Value).ownBlock ∧ some k_ ≠ (v275 : Value).ownBlock) v22 x22_2) ∧ Aside0 (Below w.heap.size w w'))
                    case atStart => exact ⟨(([] : List Int)), (0), (by first | rfl | (simp; done) | (simp [*]; done)), H', ⟨Nat.le_refl _⟩, ⟨by (with_reducible repeat (first | apply Kd.R_alloc | apply Kd.R_drewN | apply Kd.R_drew)); exact Kd.R_mono HO_14.out (fun _ hk => ⟨hk, (by simp [Value.ownBlock])⟩)⟩, ⟨by (with_reducible repeat (first | apply Kd.R_alloc | apply Kd.R_drewN | apply Kd.R_drew)); exact Kd.R_mono HO_15.out (fun _ hk => ⟨hk, (by simp [Value.ownBlock])⟩)⟩, ⟨by first | exact Kd.R_nil _ _ _ _ _ | exact Kd.N_nil _ _ _ _ _ | exact Kd.V_nil _ _ _ _ _ | exact Kd.Q_nil _ _ _ _ _ | exact Kd.S_nil _ _ _ _ _⟩, ⟨by repeat (first | (with_reducible first | exact HB.out | apply below_alloc | apply pw_below_drewN | apply below_drew1) | exact HB.out)⟩⟩
                    case round =>
                      clear H'
                      try clear c1
                      try clear c2
                      try clear p2
                      try clear q2
                      try clear hx2
                      try clear c3
                      try clear p3
                      try clear q3
                      try clear hx3
                      try clear hf3
                      try clear c4
                      try clear p4
                      try clear q4
                      try clear hx4
                      try clear hf4
                      try clear c5
                      try clear c5b0
                      try clear c5b1
                      try clear p6
                      try clear c7
                      try clear c7b0
                      try clear c7b1
                      try clear c8
                      try clear c8b0
                      try clear c8b1
                      try clear c9
                      try clear c9b0
                      try clear c9b1
                      try clear c10
                      try clear c10b0
                      try clear c10b1
                      try clear c22
                      try clear c22b0
                      try clear c22b1
                      try clear c24
                      try clear c24b0
                      try clear c26
                      try clear c26b0
                      try clear c26b1
                      try clear p28
                      try clear q28
                      try clear hx28
                      try clear c30
                      try clear c30b0
                      try clear c31
                      try clear c31b0
                      try clear c32
                      try clear c32b0
                      try clear c33
                      try clear c33b0
                      try clear c34
                      try clear p34
                      try clear q34
                      try clear hx34
                      try clear hf34
                      try clear c38
                      try clear c38b0
                      try clear c39
                      try clear c39b0
                      try clear c40
                      try clear c40b0
                      try clear c41
                      try clear c41b0
                      try clear p42
                      try clear q42
                      try clear hx42
                      try clear hf42
                      try clear c45
                      try clear hx283_0
                      try clear hx284_0
                      try clear hx286_0
                      try clear hx287_0
                      try clear hx34_0
                      try clear hx42_0
                      try clear p2
                      try clear p28
                      try clear p283
                      try clear p284
                      try clear p286
                      try clear p287
                      try clear p3
                      try clear p34
                      try clear p42
                      try clear p6
                      try clear q2
                      try clear q28
                      try clear q283
                      try clear q284
                      try clear q286
                      try clear q287
                      try clear q3
                      try clear q34
                      try clear q42
                      obtain ⟨x22_2, x24_2, rfl, HA, HK2, HO_14, HO_15, HO_22, HB⟩ := hrel
                      cases gk with
                      | zero => exact absurd HA.out (by simp [swashplateref08_Certain.l3])
                      | succ k2 =>
                        have H := HA.out
                        clear HA
                        simp only [swashplateref08_Certain.l3] at H
                        by_cases c49 : x24_2 < a0
                        · rw [if_pos c49] at H
                          have c49b0 : decide (x24_2 < a0) = true := decide_eq_true c49
                          clear c49
                          by_cases c50 : 0 ≤ x24_2
                          · rw [if_pos c50] at H
                            have c50b0 : decide (0 ≤ x24_2) = true := decide_eq_true c50
                            clear c50
                            by_cases c51 : x24_2 < (x14_1.length : Int)
                            · rw [if_pos c51] at H
                              have c51b0 : decide (x24_2 < (x14_1.length : Int)) = true := decide_eq_true c51
                              clear c51
                              by_cases c52 : (rd x14_1 x24_2) = x16_1
                              · rw [if_pos c52] at H
                                have c52b0 : ((rd x14_1 x24_2) == x16_1) = true := beq_iff_eq.mpr c52
                                have c52b1 : ((rd x14_1 x24_2) != x16_1) = false := bne_eq_false_iff_eq.mpr c52
                                clear c52
                                by_cases c53 : x22_2.length < 17592186044416
                                · rw [if_pos c53] at H
                                  have LMc53 := Aside0.mk c53
                                  clear c53
                                  obtain ⟨y290, hy290⟩ : ∃ y_ : List Int, y_ = (x22_2 ++ [x24_2]) := ⟨_, rfl⟩
                                  replace H : (swashplateref08_Certain.l3 k2 a0 a1 x14_1 x15_1 x16_1 y290 (wrap64 (x24_2 + 1))) = some (r1, r2, r3) := by first | (rw [hy290]; with_reducible exact H) | (have H2_ := (Option.bind_some _ _).symm.trans H; rw [hy290]; with_reducible exact H2_) | (have H2_ := (Option.bind_some _ _).symm.trans H; with_reducible exact H2_) | with_reducible exact H | (rw [hy290]; exact H) | exact H
                                  have Ny290 := Aside0.mk hy290
                                  clear hy290
                                  have H' := Aside0.mk H
                                  clear H
                                  obtain ⟨Ao54, co54, eo54⟩ := Kd.R_slice HO_14.out
                                  subst eo54
                                  have p289 : 0 ≤ (x24_2 : Int) := of_decide_eq_true (by first | (with_reducible assumption) | assumption)
                                  have q289 : x24_2 < (x14_1.length : Int) := of_decide_eq_true (by first | (with_reducible assumption) | assumption)
                                  obtain ⟨ad289, e289, hx289_0⟩ := Kd.at_int (Kd.R_reads' HO_14.out).2.2 x24_2 p289 q289
                                  cases e289
                                  replace p289 := eq_true p289
                                  replace q289 := eq_true q289
                                  go_wp2_with (first | ((with_reducible refine gate_builtin (b := .append) (xs := #[.tmp 115, .tmp 117]) rfl ?_); at_builtin; refine Kd.R_append (Kd.int .i64) (w0 := w) w.heap.size rfl (.tmp 115) (.tmp 117) 22 3 (.int .i64 0) 8 rfl Try.underlying22 info3 rfl (by decide) (by omega) u22 x22_2 x24_2 [.int .i64 x24_2] (fun k_ => some k_ ≠ (.slice (some ad289) x14_1.length co54 : Value).ownBlock ∧ some k_ ≠ (v275 : Value).ownBlock) (fun _ => False) rfl rfl ?aP (fun _ hk => hk.elim) ?aF ?aO ?aB ?aS ?aL ?_; (case aP => exact rfl); (case aB => exact (by repeat (first | (with_reducible first | exact HB.out | apply below_alloc | apply pw_below_drewN | apply below_drew1) | exact HB.out))); (case aF => exact (fun k_ hk => ⟨Kd.fresh' (Kd.R_lt (by (with_reducible repeat (first | apply Kd.R_alloc | apply Kd.R_drewN | apply Kd.R_drew)); exact HO_14.out)) k_ hk, Kd.fresh' (Kd.R_lt (by (with_reducible repeat (first | apply Kd.R_alloc | apply Kd.R_drewN | apply Kd.R_drew)); exact HO_15.out)) k_ hk⟩)); (case aO => exact (by (with_reducible repeat (first | apply Kd.R_alloc | apply Kd.R_drewN | apply Kd.R_drew)); exact HO_22.out)); (case aS => exact (below_size (by repeat (first | (with_reducible first | exact HB.out | apply below_alloc | apply pw_below_drewN | apply below_drew1) | exact HB.out)))); (case aL => have := LMc53.out; omega); intro v291 w55 ho hb hg hat; rw [← Ny290.out] at ho; have n0_ := Aside0.mk (Kd.R_after (ok := (fun k_ => some k_ ≠ (v275 : Value).ownBlock)) (by (with_reducible repeat (first | apply Kd.R_alloc | apply Kd.R_drewN | apply Kd.R_drew)); exact HO_14.out) hg hat); have n1_ := Aside0.mk (Kd.R_after (ok := (fun k_ => some k_ ≠ (.slice (some ad289) x14_1.length co54 : Value).ownBlock)) (by (with_reducible repeat (first | apply Kd.R_alloc | apply Kd.R_drewN | apply Kd.R_drew)); exact HO_15.out) hg hat); have n2_ := Aside0.mk (hb); have n3_ := Aside0.mk (ho); clear HO_14; clear HO_15; clear HB; clear HO_22; have HO_14 := n0_; have HO_15 := n1_; have HB := n2_; have HO292 := n3_; clear n0_ n1_ n2_ n3_; clear ho hb hg hat))
                                  go_roundg k2
                                  case measure => have := HK1.out; have := HK2.out; omega
                                  case rel => exact ⟨(y290), (wrap64 (x24_2 + 1)), (by first | rfl | (simp; done) | (simp [*]; done)), H', ⟨by have := HK1.out; have := HK2.out; omega⟩, ⟨by (with_reducible repeat (first | apply Kd.R_alloc | apply Kd.R_drewN | apply Kd.R_drew)); exact HO_14.out⟩, ⟨by (with_reducible repeat (first | apply Kd.R_alloc | apply Kd.R_drewN | apply Kd.R_drew)); exact HO_15.out⟩, ⟨by (with_reducible repeat (first | apply Kd.R_alloc | apply Kd.R_drewN | apply Kd.R_drew)); exact HO292.out⟩, ⟨by repeat (first | (with_reducible first | exact HB.out | apply below_alloc | apply pw_below_drewN | apply below_drew1) | exact HB.out)⟩⟩
                                · rw [if_neg c53] at H
                                  exact absurd H (by simp)
                              · rw [if_neg c52] at H
                                have c52b0 : ((rd x14_1 x24_2) == x16_1) = false := beq_eq_false_iff_ne.mpr c52
                                have c52b1 : ((rd x14_1 x24_2) != x16_1) = true := bne_iff_ne.mpr c52
                                have H' := Aside0.mk H
                                clear H
                                obtain ⟨Ao56, co56, eo56⟩ := Kd.R_slice HO_14.out
                                subst eo56
                                have p289 : 0 ≤ (x24_2 : Int) := of_decide_eq_true (by first | (with_reducible assumption) | assumption)
                                have q289 : x24_2 < (x14_1.length : Int) := of_decide_eq_true (by first | (with_reducible assumption) | assumption)
                                obtain ⟨ad289, e289, hx289_0⟩ := Kd.at_int (Kd.R_reads' HO_14.out).2.2 x24_2 p289 q289
                                cases e289
                                replace p289 := eq_true p289
                                replace q289 := eq_true q289
                                go_wp2
                                go_roundg k2
                                case measure => have := HK1.out; have := HK2.out; omega
                                case rel => exact ⟨(x22_2), (wrap64 (x24_2 + 1)), (by first | rfl | (simp; done) | (simp [*]; done)), H', ⟨by have := HK1.out; have := HK2.out; omega⟩, ⟨by (with_reducible repeat (first | apply Kd.R_alloc | apply Kd.R_drewN | apply Kd.R_drew)); exact HO_14.out⟩, ⟨by (with_reducible repeat (first | apply Kd.R_alloc | apply Kd.R_drewN | apply Kd.R_drew)); exact HO_15.out⟩, ⟨by (with_reducible repeat (first | apply Kd.R_alloc | apply Kd.R_drewN | apply Kd.R_drew)); exact HO_22.out⟩, ⟨by repeat (first | (with_reducible first | exact HB.out | apply below_alloc | apply pw_below_drewN | apply below_drew1) | exact HB.out)⟩⟩
                            · rw [if_neg c51] at H
                              exact absurd H (by simp)
                          · rw [if_neg c50] at H
                            exact absurd H (by simp)
                        · rw [if_neg c49] at H
                          have c49b0 : decide (x24_2 < a0) = false := decide_eq_false c49
                          clear c49
                          have H' := Aside0.mk H
                          clear H
                          go_wp2
                          go_loopg [23, 25] k2 (fun kq v23 v25 w' => ∃ (x23_3 : List Int) (x25_3 : Int), v25 = .int .i64 x25_3 ∧ Aside0 (swashplateref08_Certain.l4 kq a1 x15_1 x16_1 x22_2 x23_3 x25_3 = some (r1, r2, r3)) ∧ Aside0 (kq ≤ k2) ∧ Aside0 (Kd.R (Kd.int .i64) 3 w' w.heap.size (fun k_ => some k_ ≠ (u22 : Value).ownBlock ∧ some k_ ≠ (v23 : Value).ownBlock) v275 x15_1) ∧ Aside0 (Kd.R (Kd.int .i64) 3 w' w.heap.size (fun k_ => some k_ ≠ (v275 : Value).ownBlock ∧ some k_ ≠ (v23 : Value).ownBlock) u22 x22_2) ∧ Aside0 (Kd.R (Kd.int .i64) 3 w' w.heap.size (fun k_ => some k_ ≠ (v275 : Value).ownBlock ∧ some k_ ≠ (u22 : Value).ownBlock) v23 x23_3) ∧ Aside0 (Below w.heap.size w w'))
                          case atStart => exact ⟨(([] : List Int)), (0), (by first | rfl | (simp; done) | (simp [*]; done)), H', ⟨Nat.le_refl _⟩, ⟨by (with_reducible repeat (first | apply Kd.R_alloc | apply Kd.R_drewN | apply Kd.R_drew)); exact Kd.R_mono HO_15.out (fun _ hk => ⟨hk.2, (by simp [Value.ownBlock])⟩)⟩, ⟨by (with_reducible repeat (first | apply Kd.R_alloc | apply Kd.R_drewN | apply Kd.R_drew)); exact Kd.R_mono HO_22.out (fun _ hk => ⟨hk.2, (by simp [Value.ownBlock])⟩)⟩, ⟨by first | exact Kd.R_nil _ _ _ _ _ | exact Kd.N_nil _ _ _ _ _ | exact Kd.V_nil _ _ _ _ _ | exact Kd.Q_nil _ _ _ _ _ | exact Kd.S_nil _ _ _ _ _⟩, ⟨by repeat (first | (with_reducible first | exact HB.out | apply below_alloc | apply pw_below_drewN | apply below_drew1) | exact HB.out)⟩⟩
                          case round =>
                            clear H'
                            try clear c1
                            try clear c2
                            try clear p2
                            try clear q2
                            try clear hx2
                            try clear c3
                            try clear p3
                            try clear q3
                            try clear hx3
                            try clear hf3
                            try clear c4
                            try clear p4
                            try clear q4
                            try clear hx4
                            try clear hf4
                            try clear c5
                            try clear c5b0
                            try clear c5b1
                            try clear p6
                            try clear c7
                            try clear c7b0
                            try clear c7b1
                            try clear c8
                            try clear c8b0
                            try clear c8b1
                            try clear c9
                            try clear c9b0
                            try clear c9b1
                            try clear c10
                            try clear c10b0
                            try clear c10b1
                            try clear c22
                            try clear c22b0
                            try clear c22b1
                            try clear c24
                            try clear c24b0
                            try clear c26
                            try clear c26b0
                            try clear c26b1
                            try clear p28
                            try clear q28
                            try clear hx28
                            try clear c30
                            try clear c30b0
                            try clear c31
                            try clear c31b0
                            try clear c32
                            try clear c32b0
                            try clear c33
                            try clear c33b0
                            try clear c34
                            try clear p34
                            try clear q34
                            try clear hx34
                            try clear hf34
                            try clear c38
                            try clear c38b0
                            try clear c39
                            try clear c39b0
                            try clear c40
                            try clear c40b0
                            try clear c41
                            try clear c41b0
                            try clear p42
                            try clear q42
                            try clear hx42
                            try clear hf42
                            try clear c45
                            try clear c49
                            try clear c49b0
                            try clear c50
                            try clear c50b0
                            try clear c51
                            try clear c51b0
                            try clear c52
                            try clear c52b0
                            try clear c52b1
                            try clear c53
                            try clear hx283_0
                            try clear hx284_0
                            try clear hx286_0
                            try clear hx287_0
                            try clear hx289_0
                            try clear hx34_0
                            try clear hx42_0
                            try clear p2
                            try clear p28
                            try clear p283
                            try clear p284
                            try clear p286
                            try clear p287
                            try clear p289
                            try clear p3
                            try clear p34
                            try clear p4
                            try clear p42
                            try clear p6
                            try clear q2
                            try clear q28
                            try clear q283
                            try clear q284
                            try clear q286
                            try clear q287
                            try clear q289
                            try clear q3
                            try clear q34
                            try clear q4
                            try clear q42
                            obtain ⟨x23_3, x25_3, rfl, HA, HK3, HO_15, HO_22, HO_23, HB⟩ := hrel
                            cases gk with
                            | zero => exact absurd HA.out (by simp [swashplateref08_Certain.l4])
                            | succ k3 =>
                              have H := HA.out
                              clear HA
                              simp only [swashplateref08_Certain.l4] at H
                              by_cases c57 : x25_3 < a1
                              · rw [if_pos c57] at H
                                have c57b0 : decide (x25_3 < a1) = true := decide_eq_true c57
                                clear c57
                                by_cases c58 : 0 ≤ x25_3
                                · rw [if_pos c58] at H
                                  have c58b0 : decide (0 ≤ x25_3) = true := decide_eq_true c58
                                  clear c58
                                  by_cases c59 : x25_3 < (x15_1.length : Int)
                                  · rw [if_pos c59] at H
                                    have c59b0 : decide (x25_3 < (x15_1.length : Int)) = true := decide_eq_true c59
                                    clear c59
                                    by_cases c60 : (rd x15_1 x25_3) = x16_1
                                    · rw [if_pos c60] at H
                                      have c60b0 : ((rd x15_1 x25_3) == x16_1) = true := beq_iff_eq.mpr c60
                                      have c60b1 : ((rd x15_1 x25_3) != x16_1) = false := bne_eq_false_iff_eq.mpr c60
                                      clear c60
                                      by_cases c61 : x23_3.length < 17592186044416
                                      · rw [if_pos c61] at H
                                        have LMc61 := Aside0.mk c61
                                        clear c61
                                        obtain ⟨y294, hy294⟩ : ∃ y_ : List Int, y_ = (x23_3 ++ [x25_3]) := ⟨_, rfl⟩
                                        replace H : (swashplateref08_Certain.l4 k3 a1 x15_1 x16_1 x22_2 y294 (wrap64 (x25_3 + 1))) = some (r1, r2, r3) := by first | (rw [hy294]; with_reducible exact H) | (have H2_ := (Option.bind_some _ _).symm.trans H; rw [hy294]; with_reducible exact H2_) | (have H2_ := (Option.bind_some _ _).symm.trans H; with_reducible exact H2_) | with_reducible exact H | (rw [hy294]; exact H) | exact H
                                        have Ny294 := Aside0.mk hy294
                                        clear hy294
                                        have H' := Aside0.mk H
                                        clear H
                                        obtain ⟨Ao62, co62, eo62⟩ := Kd.R_slice HO_15.out
                                        subst eo62
                                        have p293 : 0 ≤ (x25_3 : Int) := of_decide_eq_true (by first | (with_reducible assumption) | assumption)
                                        have q293 : x25_3 < (x15_1.length : Int) := of_decide_eq_true (by first | (with_reducible assumption) | assumption)
                                        obtain ⟨ad293, e293, hx293_0⟩ := Kd.at_int (Kd.R_reads' HO_15.out).2.2 x25_3 p293 q293
                                        cases e293
                                        replace p293 := eq_true p293
                                        replace q293 := eq_true q293
                                        go_wp2_with (first | ((with_reducible refine gate_builtin (b := .append) (xs := #[.tmp 130, .tmp 132]) rfl ?_); at_builtin; refine Kd.R_append (Kd.int .i64) (w0 := w) w.heap.size rfl (.tmp 130) (.tmp 132) 22 3 (.int .i64 0) 8 rfl Try.underlying22 info3 rfl (by decide) (by omega) u23 x23_3 x25_3 [.int .i64 x25_3] (fun k_ => some k_ ≠ (.slice (some ad293) x15_1.length co62 : Value).ownBlock ∧ some k_ ≠ (u22 : Value).ownBlock) (fun _ => False) rfl rfl ?aP (fun _ hk => hk.elim) ?aF ?aO ?aB ?aS ?aL ?_; (case aP => exact rfl); (case aB => exact (by repeat (first | (with_reducible first | exact HB.out | apply below_alloc | apply pw_below_drewN | apply below_drew1) | exact HB.out))); (case aF => exact (fun k_ hk => ⟨Kd.fresh' (Kd.R_lt (by (with_reducible repeat (first | apply Kd.R_alloc | apply Kd.R_drewN | apply Kd.R_drew)); exact HO_15.out)) k_ hk, Kd.fresh' (Kd.R_lt (by (with_reducible repeat (first | apply Kd.R_alloc | apply Kd.R_drewN | apply Kd.R_drew)); exact HO_22.out)) k_ hk⟩)); (case aO => exact (by (with_reducible repeat (first | apply Kd.R_alloc | apply Kd.R_drewN | apply Kd.R_drew)); exact HO_23.out)); (case aS => exact (below_size (by repeat (first | (with_reducible first | exact HB.out | apply below_alloc | apply pw_below_drewN | apply below_drew1) | exact HB.out)))); (case aL => have := LMc61.out; omega); intro v295 w63 ho hb hg hat; rw [← Ny294.out] at ho; have n0_ := Aside0.mk (Kd.R_after (ok := (fun k_ => some k_ ≠ (u22 : Value).ownBlock)) (by (with_reducible repeat (first | apply Kd.R_alloc | apply Kd.R_drewN | apply Kd.R_drew)); exact HO_15.out) hg hat); have n1_ := Aside0.mk (Kd.R_after (ok := (fun k_ => some k_ ≠ (.slice (some ad293) x15_1.length co62 : Value).ownBlock)) (by (with_reducible repeat (first | apply Kd.R_alloc | apply Kd.R_drewN | apply Kd.R_drew)); exact HO_22.out) hg hat); have n2_ := Aside0.mk (hb); have n3_ := Aside0.mk (ho); clear HO_15; clear HO_22; clear HB; clear HO_23; have HO_15 := n0_; have HO_22 := n1_; have HB := n2_; have HO296 := n3_; clear n0_ n1_ n2_ n3_; clear ho hb hg hat))
                                        go_roundg k3
                                        case measure => have := HK1.out; have := HK2.out; have := HK3.out; omega
                                        case rel => exact ⟨(y294), (wrap64 (x25_3 + 1)), (by first | rfl | (simp; done) | (simp [*]; done)), H', ⟨by have := HK1.out; have := HK2.out; have := HK3.out; omega⟩, ⟨by (with_reducible repeat (first | apply Kd.R_alloc | apply Kd.R_drewN | apply Kd.R_drew)); exact HO_15.out⟩, ⟨by (with_reducible repeat (first | apply Kd.R_alloc | apply Kd.R_drewN | apply Kd.R_drew)); exact HO_22.out⟩, ⟨by (with_reducible repeat (first | apply Kd.R_alloc | apply Kd.R_drewN | apply Kd.R_drew)); exact HO296.out⟩, ⟨by repeat (first | (with_reducible first | exact HB.out | apply below_alloc | apply pw_below_drewN | apply below_drew1) | exact HB.out)⟩⟩
                                      · rw [if_neg c61] at H
                                        exact absurd H (by simp)
                                    · rw [if_neg c60] at H
                                      have c60b0 : ((rd x15_1 x25_3) == x16_1) = false := beq_eq_false_iff_ne.mpr c60
                                      have c60b1 : ((rd x15_1 x25_3) != x16_1) = true := bne_iff_ne.mpr c60
                                      have H' := Aside0.mk H
                                      clear H
                                      obtain ⟨Ao64, co64, eo64⟩ := Kd.R_slice HO_15.out
                                      subst eo64
                                      have p293 : 0 ≤ (x25_3 : Int) := of_decide_eq_true (by first | (with_reducible assumption) | assumption)
                                      have q293 : x25_3 < (x15_1.length : Int) := of_decide_eq_true (by first | (with_reducible assumption) | assumption)
                                      obtain ⟨ad293, e293, hx293_0⟩ := Kd.at_int (Kd.R_reads' HO_15.out).2.2 x25_3 p293 q293
                                      cases e293
                                      replace p293 := eq_true p293
                                      replace q293 := eq_true q293
                                      go_wp2
                                      go_roundg k3
                                      case measure => have := HK1.out; have := HK2.out; have := HK3.out; omega
                                      case rel => exact ⟨(x23_3), (wrap64 (x25_3 + 1)), (by first | rfl | (simp; done) | (simp [*]; done)), H', ⟨by have := HK1.out; have := HK2.out; have := HK3.out; omega⟩, ⟨by (with_reducible repeat (first | apply Kd.R_alloc | apply Kd.R_drewN | apply Kd.R_drew)); exact HO_15.out⟩, ⟨by (with_reducible repeat (first | apply Kd.R_alloc | apply Kd.R_drewN | apply Kd.R_drew)); exact HO_22.out⟩, ⟨by (with_reducible repeat (first | apply Kd.R_alloc | apply Kd.R_drewN | apply Kd.R_drew)); exact HO_23.out⟩, ⟨by repeat (first | (with_reducible first | exact HB.out | apply below_alloc | apply pw_below_drewN | apply below_drew1) | exact HB.out)⟩⟩
                                  · rw [if_neg c59] at H
                                    exact absurd H (by simp)
                                · rw [if_neg c58] at H
                                  exact absurd H (by simp)
                              · rw [if_neg c57] at H
                                have c57b0 : decide (x25_3 < a1) = false := decide_eq_false c57
                                clear c57
                                simp only [Option.some.injEq, Prod.mk.injEq] at H
                                obtain ⟨rfl, rfl, rfl⟩ := H
                                go_wp2
                                go_ret3
                                exact ⟨_, _, by first | rfl | (simp [errW_none, errW_some] <;> rfl) | (simp only [← hji21, ← hji23]; first | rfl | (simp [errW_none, errW_some] <;> rfl)) | (simp [*, errW_none, errW_some] <;> rfl), by (with_reducible repeat (first | apply Kd.R_alloc | apply Kd.R_drewN | apply Kd.R_drew)); exact Kd.R_mono HO_22.out (fun _ hk => hk.2), by (with_reducible repeat (first | apply Kd.R_alloc | apply Kd.R_drewN | apply Kd.R_drew)); exact Kd.R_mono HO_23.out (fun _ hk => hk.2), by repeat (first | (with_reducible first | exact HB.out | apply below_alloc | apply pw_below_drewN | apply below_drew1) | exact HB.out)⟩
                · rw [if_neg c22] at H
                  exact absurd H (by simp)
          · rw [if_neg c10] at H
            exact absurd H (by simp)
        · rw [if_neg c9] at H
          exact absurd H (by simp)
      · rw [if_neg c8] at H
        exact absurd H (by simp)
    · rw [if_neg c7] at H
      exact absurd H (by simp)
  · rw [if_neg c5] at H
    have c5b0 : (t263 == 0) = false := beq_eq_false_iff_ne.mpr c5
    have c5b1 : (t263 != 0) = true := bne_iff_ne.mpr c5
    simp only [Option.some.injEq, Prod.mk.injEq] at H
    obtain ⟨rfl, rfl, rfl⟩ := H
    go_enter Try.func34, Try.ntmps34
    go_wp2_with (first | ((with_reducible refine gate_callee (f := 45) rfl ?_); refine goesL_ (some 29) rfl rfl Try.func45 (by kernel_rfl) rfl #[.int .i64 a0, .int .i64 a1, .slice A2 l2.length c2] rfl (by (try simp only [List.map_toArray, List.map_cons, List.map_nil]); first | done | rfl | (simp only [List.length_drop, List.length_take]; rfl)) ?_; (with_reducible refine (swashplateref08_CheckCells.calls k a0 a1 _ _ l2 t263 _ ?side1 ?side2 A4.out).mono ?_); (case side1 => repeat (first | exact HR2.out | (with_reducible refine Kd.C_alloc ?_ _) | (with_reducible refine Kd.C_drewN ?_ _) | (with_reducible refine Kd.C_drew ?_))); (case side2 => exact HC2.out); rintro e w65 ⟨rfl, hb⟩; refine ⟨_, rfl, ?_⟩; have n0_ := Aside0.mk (below_step (by repeat (first | (with_reducible first | exact HB.out | apply below_alloc | apply pw_below_drewN | apply below_drew1) | exact HB.out)) hb); clear HB; have HB := n0_; clear n0_; (try clear hb); (try clear hb2); (try clear hk); (try clear hi)))
    go_ret3
    exact ⟨_, _, by first | rfl | (simp [errW_none, errW_some] <;> rfl) | (simp [*, errW_none, errW_some] <;> rfl), by first | exact Kd.R_nil _ _ _ _ _ | exact Kd.N_nil _ _ _ _ _ | exact Kd.V_nil _ _ _ _ _ | exact Kd.Q_nil _ _ _ _ _ | exact Kd.S_nil _ _ _ _ _, by first | exact Kd.R_nil _ _ _ _ _ | exact Kd.N_nil _ _ _ _ _ | exact Kd.V_nil _ _ _ _ _ | exact Kd.Q_nil _ _ _ _ _ | exact Kd.S_nil _ _ _ _ _, by repeat (first | (with_reducible first | exact HB.out | apply below_alloc | apply pw_below_drewN | apply below_drew1) | exact HB.out)⟩

end Go.Proofs.Ytcmjpcmdgnbbpaa.PE
