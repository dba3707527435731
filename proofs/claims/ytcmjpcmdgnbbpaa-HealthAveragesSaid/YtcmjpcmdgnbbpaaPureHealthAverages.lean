/- HealthAverages in plain numbers, and its walk: Check and Average of the program and of the reference are the same. -/
import Derived.Test.YtcmjpcmdgnbbpaaPHx5
import Derived.Test.YtcmjpcmdgnbbpaaHAverage
namespace Go.Proofs.Ytcmjpcmdgnbbpaa.Pure
open Go.RowKit Go.Proofs.Ytcmjpcmdgnbbpaa.PH Go.Proofs.YtcmjpcmdgnbbpaaW.PrintWords Go.Proofs.YtcmjpcmdgnbbpaaW.PrintLast
theorem HealthAverages (xs ms : List Int) (n : Int) : ∃ k, swashplatelaw08_HealthAverages.f k xs ms n = some true := by
  refine Ev.rounds ?_
  unfold swashplatelaw08_HealthAverages.f
  refine Ev.bind (Check_ev xs ms) ?_
  simp only [RCheck_f, Option.bind_some, if_true]
  refine Ev.bind (Average_ev xs ms n) ?_
  refine Ev.bind (RAverage_ev xs ms n) ?_
  simp only [if_true]
  refine Ev.bind (sameInts_ev _ (avg_len xs ms n)) ?_
  exact PH.Ev.some fun k => rfl
theorem averages_walk (A0 : Option Addr) (c0 : Nat) (xs : List Int) (A1 : Option Addr) (c1 : Nat) (ms : List Int) (n : Int) (w : World) (h0 : Kd.C (Kd.int .i64) w A0 xs.length xs) (g0 : xs.length ≤ c0) (h1 : Kd.C (Kd.int .i64) w A1 ms.length ms) (g1 : ms.length ≤ c1) :
    Calls Try.prog 10 #[.agg #[.slice A0 xs.length c0, .slice A1 ms.length c1], .int .i64 n] w fun e w' => e = .returned (.bool true) ∧ Below w.heap.size w w' := by
  obtain ⟨k, h⟩ := HealthAverages xs ms n
  exact swashplatelaw08_HealthAverages.calls k A0 c0 xs A1 c1 ms n true w h0 g0 h1 g1 h
end Go.Proofs.Ytcmjpcmdgnbbpaa.Pure
