/- HealthExplains in plain numbers, and its walk: Explain and Certain of the program and of the reference are the same. -/
import Derived.Test.YtcmjpcmdgnbbpaaPEx11
import Derived.Test.YtcmjpcmdgnbbpaaERefC
namespace Go.Proofs.Ytcmjpcmdgnbbpaa.PE
open Go.RowKit Go.Proofs.YtcmjpcmdgnbbpaaW.PrintWords Go.Proofs.YtcmjpcmdgnbbpaaW.PrintLast Go.Proofs.YtcmjpcmdgnbbpaaW.PrintMore
theorem sameInts_l0 (xs : List Int) (hn : xs.length ≤ 1000000) (d : Nat) : ∀ i : Nat, i + d = xs.length → Ev (fun k => swashplatelaw08_sameInts.l0 k xs xs (i : Int)) true := by
  induction d with
  | zero =>
    intro i hi
    refine Ev.succ (Ev.some fun k => ?_)
    simp only [swashplatelaw08_sameInts.l0]
    rw [if_neg (by omega)]
  | succ d ih =>
    intro i hi
    refine Ev.succ (Ev.congr (fun k => ?_) (ih (i + 1) (by omega)))
    simp only [swashplatelaw08_sameInts.l0]
    rw [if_pos (by omega), if_pos (by omega), if_pos (by omega), if_pos trivial, w64s i xs.length (by omega) hn]
theorem sameInts_ev (xs : List Int) (hn : xs.length ≤ 1000000) : Ev (fun k => swashplatelaw08_sameInts.f k xs xs) true := by
  unfold swashplatelaw08_sameInts.f
  simp only [if_true]
  exact sameInts_l0 xs hn xs.length 0 (by omega)
theorem exX_len (s g : Int) (c : List (Int × Int)) : (exX s g c).1.length ≤ 1000000 ∧ (exX s g c).2.1.length ≤ 1000000 := by
  unfold exX
  split
  · exact ⟨Nat.le_trans (mem_len _) (by omega), Nat.le_trans (mem_len _) (by omega)⟩
  · simp
theorem comL_len (sel : Bool) (bys ls : List Nat) : (comL sel bys ls).length ≤ 16 := Nat.le_trans (comTo_len _ _ _ _ _) (fieldX_len _ _ _)
theorem ceX_len (s g : Int) (c : List (Int × Int)) : (ceX s g c).1.length ≤ 1000000 ∧ (ceX s g c).2.1.length ≤ 1000000 := by
  unfold ceX
  split
  · exact ⟨Nat.le_trans (comL_len _ _ _) (by omega), Nat.le_trans (comL_len _ _ _) (by omega)⟩
  · simp
theorem HealthExplains (s g : Int) (l : List S69) (hn : l.length ≤ 9223372036854775807) : ∃ k, swashplatelaw08_HealthExplains.f k s g l = some true := by
  refine Ev.rounds ?_
  unfold swashplatelaw08_HealthExplains.f health_Explain.f
  simp only [Option.bind_some]
  refine Ev.bind (RExplain_ev s g l hn) ?_
  simp only [if_true]
  refine Ev.bind (sameInts_ev _ (exX_len s g _).1) ?_
  simp only [if_true]
  refine Ev.bind (sameInts_ev _ (exX_len s g _).2) ?_
  refine Ev.succ ?_
  simp only [swashplatelaw08_HealthExplains.j0, health_Certain.f, Option.bind_some, Bool.not_true, Bool.false_eq_true, if_false]
  refine Ev.bind (RCertain_ev s g l hn) ?_
  simp only [if_true]
  refine Ev.bind (sameInts_ev _ (ceX_len s g _).1) ?_
  simp only [if_true]
  refine Ev.bind (sameInts_ev _ (ceX_len s g _).2) ?_
  exact Ev.some fun k => rfl
theorem explains_walk (s g : Int) (A : Option Addr) (c : Nat) (l : List S69) (w : World) (h : Kd.C k69 w A l.length l) (hc : l.length ≤ c) :
    Calls Try.prog 9 #[.agg #[.int .i64 s, .int .i64 g], .slice A l.length c] w fun e w' => e = .returned (.bool true) ∧ Below w.heap.size w w' := by
  obtain ⟨k, hk⟩ := HealthExplains s g l h.2.1
  exact swashplatelaw08_HealthExplains.calls k s g A c l true w h hc hk
end Go.Proofs.Ytcmjpcmdgnbbpaa.PE
