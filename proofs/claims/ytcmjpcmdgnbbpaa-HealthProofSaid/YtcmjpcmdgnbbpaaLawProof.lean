/- The row of the law HealthProof: out of its walk. -/
import Derived.Test.YtcmjpcmdgnbbpaaRows
import Derived.Test.YtcmjpcmdgnbbpaaMOpen
import Derived.Test.YtcmjpcmdgnbbpaaPureHealthProof
import Derived.Test.YtcmjpcmdgnbbpaaWSized
import Derived.WalkKit
import Derived.ProofKit
import Derived.OpenShut
import Derived.ShutString
import Derived.ChangeOld
import Derived.Below
import Derived.SizedLaws
import Derived.Lib.SmallJoins
namespace Go.Proofs.Ytcmjpcmdgnbbpaa.healthProof
open Go.ChangeShapes Go.WideShapes Go.ChangeAt Go.RowKit
set_option linter.unusedVariables false
theorem own : ownKnob Try.prog.godebug = none := by kernel_rfl
theorem laidOut : laidOutB Try.prog = true := by kernel_rfl
set_option maxRecDepth 100000 in
theorem lifted (os : Os) (started : os.Started) (H : Type) (enc : TypeId × Value → H) :
    ReturnsInHanded {} Try.checked os 14 .any (Rows.healthProofSpec.pre6 enc Try.prog Try.f14 Rows.healthProofRow.domain false) (Rows.healthProofSpec.post enc Try.prog Try.f14 false true false false) := by
  refine returnsInHanded_of_change_sized (C := Try.checked) own started (by kernel_rfl) Try.func14
    (ChangeSpec.witness6 (enc := enc) (C := Try.checked) false ⟨#[], #[.agg #[.int .i64 0, .int .i64 0], .slice none 0 0, .agg #[.slice none 0 0, .slice none 0 0]], []⟩ 8 (by kernel_rfl) (by kernel_rfl) (by kernel_rfl) (by kernel_rfl)) ?_
  intro W base args ds gs before hval0 hW hcnd hsz0 _
  have hval : ∀ (j : Nat) t v, Try.f14.params[j]? = some t → args[j]? = some v → Value.okWide Try.prog W .any base t v := hval0
  have hW' := hW
  obtain ⟨p, q, hA0, hV, rfl, hfz, hnd⟩ := hW
  have hA : DataW.TrodAll enc Try.prog W 0 (fun _ => true) true Try.f14.params.toList args.toList ds p := hA0
  rw [Try.params14] at hA hval
  obtain ⟨v0, vs0, d0, ds0, p0, q0, hargs, rfl, rfl, h0, r0⟩ := trodAll_cons hA
  obtain ⟨v1, vs1, d1, ds1, p1, q1, rfl, rfl, rfl, h1, r1⟩ := trodAll_cons r0
  obtain ⟨v2, vs2, d2, ds2, p2, q2, rfl, rfl, rfl, h2, r2⟩ := trodAll_cons r1
  obtain ⟨rfl, rfl, rfl⟩ := trodAll_nil r2
  obtain rfl : args = #[v0, v1, v2] := by cases args; simp_all
  obtain ⟨rfl, rfl⟩ := trodVars_none hV
  have k0 := h0
  have lt0 : ∀ x ∈ p0, x.block < W.heap.size := by obtain ⟨m, hm⟩ := k0; exact DataW.trod_lt m _ _ _ hm
  obtain ⟨c0_0, c0_1, y0_0, y0_1, nn0, rfl, rfl, rfl, hy0_0, hy0_1⟩ := Joins.open_agg2 Try.underlying45 (by kernel_rfl) (by kernel_rfl) (hval 0 45 v0 rfl rfl) h0
  obtain ⟨m0_0, e0_0, _, _⟩ := DataW.trod_int Try.underlying3 hy0_0
  obtain rfl : c0_0 = .int .i64 m0_0 := by simpa using e0_0
  obtain ⟨m0_1, e0_1, _, _⟩ := DataW.trod_int Try.underlying3 hy0_1
  obtain rfl : c0_1 = .int .i64 m0_1 := by simpa using e0_1
  have k1 := h1
  have lt1 : ∀ x ∈ p1, x.block < W.heap.size := by obtain ⟨m, hm⟩ := k1; exact DataW.trod_lt m _ _ _ hm
  obtain ⟨fuel1, hf1⟩ := h1
  obtain ⟨a1, len1, cap1, rfl⟩ := okWide_slice Try.underlying39 (hval 1 39 v1 rfl rfl)
  obtain ⟨A1_0, C1_0, L1_0, e1_0, R1_0, G1_0⟩ := PE.pairsC_open Try.underlying39 Try.underlying69 Try.underlying3 (by kernel_rfl) (by kernel_rfl) hf1
  cases e1_0
  have k2 := h2
  have lt2 : ∀ x ∈ p2, x.block < W.heap.size := by obtain ⟨m, hm⟩ := k2; exact DataW.trod_lt m _ _ _ hm
  obtain ⟨c2_0, c2_1, y2_0, y2_1, nn2, rfl, rfl, rfl, hy2_0, hy2_1⟩ := Joins.open_agg2 Try.underlying65 (by kernel_rfl) (by kernel_rfl) (hval 2 65 v2 rfl rfl) h2
  obtain ⟨A2_0, C2_0, L2_0, rfl, R2_0, G2_0, F2_0⟩ := PH.sliceC_open Try.underlying22 Try.underlying3 (by kernel_rfl) hy2_0
  obtain ⟨A2_1, C2_1, L2_1, rfl, R2_1, G2_1, F2_1⟩ := PH.sliceC_open Try.underlying22 Try.underlying3 (by kernel_rfl) hy2_1
  have hz : (DataW.weightsEach Try.prog [22, 22] [y2_0.1, y2_1.1]).all (· ≤ reachBytes) = true := List.all_eq_true.2 fun n hn => by
    refine List.all_eq_true.1 hsz0 n (DataW.weights_mem_each (P := Try.prog) (j := 2) (t := 65) (d := .agg [y2_0.1, y2_1.1]) rfl rfl n ?_)
    simp only [DataW.weights, Try.underlying65]
    exact hn
  have hw0 : L2_0.length * 8 ≤ 140737488351232 := YtcmjpcmdgnbbpaaW.PrintWords.sized_ints hz (j := 0) (t := 22) rfl rfl Try.underlying22 Try.underlying3 (by kernel_rfl) (by kernel_rfl) ⟨nn2, hy2_0⟩
  have hw1 : L2_1.length * 8 ≤ 140737488351232 := YtcmjpcmdgnbbpaaW.PrintWords.sized_ints hz (j := 1) (t := 22) rfl rfl Try.underlying22 Try.underlying3 (by kernel_rfl) (by kernel_rfl) ⟨nn2, hy2_1⟩
  clear hA0 hval0 hsz0
  refine (PE.proof_walk m0_0 m0_1 _ _ L1_0 A2_0 C2_0 L2_0 A2_1 C2_1 L2_1 W R1_0 G1_0 R2_0 G2_0 R2_1 G2_1 (by omega) (by omega)).mono fun e W' ⟨he, bel⟩ => ?_
  subst he
  exact ⟨_, rfl, _, _, _, [], _, [], hW', trodAll_mk1 (shut_bool Try.underlying4 _), (trodAll_cons_mk (Below.trod laidOut (by kernel_rfl) (of_decide_eq_true (by kernel_rfl)) k0 bel lt0) (trodAll_cons_mk (Below.trod laidOut (by kernel_rfl) (of_decide_eq_true (by kernel_rfl)) k1 bel lt1) (trodAll_cons_mk (Below.trod laidOut (by kernel_rfl) (of_decide_eq_true (by kernel_rfl)) k2 bel lt2) trodAll_mk0))), rfl, bel.frame _, fun h => by cases h⟩
theorem over : Rows.healthProofRow.holds Try.pinned (OpenSpec.ofChange Rows.healthProofSpec) :=
  OpenClaim.holds_of_wide 14 Try.f14 rfl rfl rfl rfl rfl rfl rfl ⟨rfl, rfl, rfl, rfl, rfl⟩ rfl rfl rfl rfl rfl (by kernel_rfl) Try.func14 (by kernel_rfl)
    (of_decide_eq_true (by kernel_rfl)) (by unfold Func.isWrapper; first | (rw [if_pos (by decide +kernel)]; kernel_rfl) | (rw [if_neg (by decide +kernel)]; exact ⟨rfl, rfl⟩))
    (fun os started H enc _ => lifted os started H enc)
theorem proved : Rows.HealthProofSaid := over
#print axioms proved
end Go.Proofs.Ytcmjpcmdgnbbpaa.healthProof
