/- The call of the law HealthLinear answers true, whatever it is handed. -/
import Derived.Test.YtcmjpcmdgnbbpaaHLinear
namespace Go.Proofs.Ytcmjpcmdgnbbpaa.PH
open Go.RowKit Go.Proofs.YtcmjpcmdgnbbpaaW.PrintWords Go.Proofs.YtcmjpcmdgnbbpaaW.PrintLast Go.Proofs.YtcmjpcmdgnbbpaaW.PrintMore
set_option linter.unusedVariables false
theorem linear_walk (A0 : Option Addr) (c0 : Nat) (xs : List Int) (A1 : Option Addr) (c1 : Nat) (ms : List Int) (A2 : Option Addr) (c2 : Nat) (os : List Int) (n : Int) (w : World)
    (h0 : Kd.C (Kd.int .i64) w A0 xs.length xs) (g0 : xs.length ≤ c0) (h1 : Kd.C (Kd.int .i64) w A1 ms.length ms) (g1 : ms.length ≤ c1) (h2 : Kd.C (Kd.int .i64) w A2 os.length os) (g2 : os.length ≤ c2) (f2 : ∀ x ∈ os, (Lit.int .i64 x).wf = true) :
    Calls Try.prog 11 #[.agg #[.slice A0 xs.length c0, .slice A1 ms.length c1], .slice A2 os.length c2, .int .i64 n] w fun e w' => e = .returned (.bool true) ∧ Below w.heap.size w w' := by
  by_cases hno : vibB xs ms = false ∨ n < 1 ∨ 24 < n
  · exact linear_no A0 c0 xs A1 c1 ms A2 c2 os n w h0 g0 h1 g1 hno
  · have hv : vibB xs ms = true := by
      cases h : vibB xs ms with
      | true => rfl
      | false => exact absurd (Or.inl h) hno
    obtain ⟨k, rfl⟩ : ∃ k : Nat, n = (k : Int) := ⟨n.toNat, by omega⟩
    exact linear_yes A0 c0 xs A1 c1 ms A2 c2 os k w h0 g0 h1 g1 h2 hv (by omega) (by omega)
end Go.Proofs.Ytcmjpcmdgnbbpaa.PH
