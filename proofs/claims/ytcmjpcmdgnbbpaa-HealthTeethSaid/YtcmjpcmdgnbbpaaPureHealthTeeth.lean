/- HealthTeeth in plain numbers: Pattern, Residual and Measure of the program and of the reference are the same. -/
import Derived.Test.YtcmjpcmdgnbbpaaPHx10
import Derived.Test.YtcmjpcmdgnbbpaaHGears
namespace Go.Proofs.Ytcmjpcmdgnbbpaa.Pure
open Go.RowKit Go.Proofs.Ytcmjpcmdgnbbpaa.PH Go.Proofs.YtcmjpcmdgnbbpaaW.PrintWords Go.Proofs.YtcmjpcmdgnbbpaaW.PrintLast

theorem gear_len {xs : List Int} {t : Int} (h : gearB xs t = true) : (patL xs (per xs t)).length ≤ 1000000 ∧ (resL xs t.toNat (per xs t)).length ≤ 1000000 := by
  obtain ⟨s, rfl, hs, hs24, hm, hl, h24, ha⟩ := gear_parts h
  have hp : per xs s ≤ 24 := by unfold per; exact Nat.le_trans (Nat.div_le_self _ _) h24
  rw [patL_len, resL_len]; omega
theorem HealthTeeth : swashplatelaw08_HealthTeeth.Pure := by
  intro xs den t _ _ _ _ _
  refine Ev.rounds ?_
  unfold swashplatelaw08_HealthTeeth.f
  refine Ev.bind (Pattern_ev xs t) ?_
  refine Ev.bind (RPattern_ev xs t) ?_
  simp only [if_true]
  refine Ev.bind (sameInts_ev _ ?_) ?_
  · split
    · exact (gear_len (by assumption)).1
    · simp
  refine PH.Ev.succ ?_
  simp only [swashplatelaw08_HealthTeeth.j0]
  simp only [Bool.not_true, Bool.false_eq_true, if_false]
  refine Ev.bind (Residual_ev xs t) ?_
  refine Ev.bind (RResidual_ev xs t) ?_
  simp only [if_true]
  refine Ev.bind (sameInts_ev _ ?_) ?_
  · split
    · exact (gear_len (by assumption)).2
    · simp
  refine PH.Ev.succ ?_
  simp only [swashplatelaw08_HealthTeeth.j1]
  simp only [Bool.not_true, Bool.false_eq_true, if_false]
  refine Ev.bind (Measure_ev xs den t) ?_
  refine Ev.bind (RMeasure_ev xs den t) ?_
  refine PH.Ev.some fun k => ?_
  simp [swashplatelaw08_works.f]

end Go.Proofs.Ytcmjpcmdgnbbpaa.Pure
