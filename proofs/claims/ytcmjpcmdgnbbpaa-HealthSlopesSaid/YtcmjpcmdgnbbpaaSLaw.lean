/- What the call of the law HealthSlopes answers: true. -/
import Derived.Test.YtcmjpcmdgnbbpaaSFRef
import Derived.Test.YtcmjpcmdgnbbpaaWorks
namespace Go.Proofs.Ytcmjpcmdgnbbpaa
open Go.RowKit
set_option linter.unusedVariables false
set_option maxRecDepth 100000 in
set_option maxHeartbeats 4000000 in
theorem slopes_walk (A0 : Option Addr) (n0 c0 : Nat) (hs : List Int) (A1 : Option Addr) (n1 c1 : Nat) (vs : List Int) (t : Int) (w : World) (h0 : RdI w A0 n0 c0 hs) (h1 : RdI w A1 n1 c1 vs) :
    Calls Try.prog 15 #[.slice A0 n0 c0, .slice A1 n1 c1, .int .i64 t] w fun e w' => e = .returned (.bool true) ∧ Below w.heap.size w w' := by
  have HS := Lib.hid (Slope_any A0 A1 n0 c0 n1 c1 hs vs w h0 h1)
  have HR : Hid (∀ W, Below w.heap.size w W → Calls Try.prog 51 #[.slice A0 n0 c0, .slice A1 n1 c1] W fun e w' => e = .returned (.tuple #[.int .i64 (slpN hs vs), .int .i64 (slpD hs vs), .int .i64 (chkS hs vs 0)]) ∧ Below W.heap.size W w') := (show ∀ W, _ from fun W hb => Slope_ref A0 A1 n0 c0 n1 c1 hs vs W (h0.below hb) (h1.below hb))
  have HF : Hid (∀ W, Below w.heap.size w W → Calls Try.prog 52 #[.slice A0 n0 c0, .slice A1 n1 c1, .int .i64 t] W fun e w' => e = .returned (.tuple #[.int .i64 (fcN hs vs t), .int .i64 (fcD hs vs t), .int .i64 (chkS hs vs t)]) ∧ Below W.heap.size W w') := (show ∀ W, _ from fun W hb => Forecast_any A0 A1 n0 c0 n1 c1 hs vs t W (h0.below hb) (h1.below hb))
  have HG : Hid (∀ W, Below w.heap.size w W → Calls Try.prog 53 #[.slice A0 n0 c0, .slice A1 n1 c1, .int .i64 t] W fun e w' => e = .returned (.tuple #[.int .i64 (fcN hs vs t), .int .i64 (fcD hs vs t), .int .i64 (chkS hs vs t)]) ∧ Below W.heap.size W w') := (show ∀ W, _ from fun W hb => Forecast_ref A0 A1 n0 c0 n1 c1 hs vs t W (h0.below hb) (h1.below hb))
  clear h0 h1
  generalize slpN hs vs = a at *
  generalize slpD hs vs = b at *
  generalize chkS hs vs 0 = c at *
  generalize fcN hs vs t = p at *
  generalize fcD hs vs t = q at *
  generalize chkS hs vs t = r at *
  go_enter Try.func15, Try.ntmps15
  go_wp2_with (first
    | (go_at_call 50; refine HS.out.mono ?_; rintro e w1 ⟨rfl, hb1⟩; have HB1 := Lib.hid hb1; clear hb1)
    | (go_at_call 51; refine (HR.out _ HB1.out).mono ?_; rintro e w2 ⟨rfl, hb2⟩; have HB2 := Lib.hid (below_trans HB1.out hb2); clear hb2)
    | (go_at_call 52; refine (HF.out _ HB2.out).mono ?_; rintro e w3 ⟨rfl, hb3⟩; have HB3 := Lib.hid (below_trans HB2.out hb3); clear hb3)
    | (go_at_call 53; refine (HG.out _ HB3.out).mono ?_; rintro e w4 ⟨rfl, hb4⟩; have HB4 := Lib.hid (below_trans HB3.out hb4); clear hb4)
    | (go_at_call 20; refine (works_any _).mono ?_; rintro e w5 ⟨rfl, hb5⟩; have HB5 := Lib.hid (below_trans HB4.out hb5); clear hb5))
  go_ret
  exact ⟨rfl, HB5.out⟩
end Go.Proofs.Ytcmjpcmdgnbbpaa
