/- The statements' look at the examples answers true. -/
import Derived.Test.YtcmjpcmdgnbbpaaWorks
namespace Go.Proofs.Ytcmjpcmdgnbbpaa.PH
open Go.RowKit
def swashplatelaw08_works.f : Option (Bool) := some true
theorem swashplatelaw08_works.calls (r : Bool) (w : World) (h : swashplatelaw08_works.f = some r) :
    Calls Try.prog 20 #[] w fun e w' => e = .returned (.bool r) ∧ Below w.heap.size w w' := by
  obtain rfl : true = r := Option.some.inj h
  exact works_any w
end Go.Proofs.Ytcmjpcmdgnbbpaa.PH
