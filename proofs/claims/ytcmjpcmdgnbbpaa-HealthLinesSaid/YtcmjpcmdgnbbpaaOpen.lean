/- Opening a law's argument: a slice of numbers reads. -/
import Derived.Test.YtcmjpcmdgnbbpaaBase
import Derived.WalkKit
import Derived.ProofKit
import Derived.OpenShut
import Derived.ShutString
import Derived.ChangeOld
import Derived.Below
import Derived.SizedLaws
namespace Go.Proofs.Ytcmjpcmdgnbbpaa
open Go.ChangeShapes Go.WideShapes Go.ChangeAt Go.RowKit
theorem maxLen_le : maxLen ≤ 9223372036854775807 := by decide
theorem spot_none {w : World} {x : Addr} {v : Value} (h : w.cell? x = some v) : x = ⟨x.block, x.off, none⟩ := by
  obtain ⟨b, o, s⟩ := x
  cases s with
  | none => rfl
  | some s =>
    simp only [World.cell?] at h
    split at h <;> simp at h
theorem rdI_open {H : Type} {P : Program} {enc : TypeId × Value → H} {W : World} {base : Nat} {held : Bool} {t e : TypeId} {a : Option Addr} {l c fuel : Nat} {x : DataW H × List MemPlace} (ht : P.underlying t = some (.slice e)) (he : P.underlying e = some (.int .i64)) (hc : P.cellsOf e = 1)
    (h : DataW.trod enc P W base (fun _ => true) held fuel t (Value.slice a l c).cells.toList = some x) : ∃ zs, RdI W a l c zs := by
  rcases open_ints ht he hc h with ⟨hcs, _⟩ | ⟨x, l', c', zs, hcs, _, hl, hm, hz, _, hcell, _⟩
  · simp [Value.cells] at hcs
    obtain ⟨rfl, rfl, rfl⟩ := hcs
    exact ⟨[], rfl, by omega, by omega, fun _ => rfl, fun k x hx => by simp at hx⟩
  · simp [Value.cells] at hcs
    obtain ⟨rfl, rfl, rfl⟩ := hcs
    simp only [if_true] at hz
    have h1 := maxLen_le
    refine ⟨zs.take l, by rw [List.length_take]; omega, hl, by omega, fun h => by (cases h), fun k y hy => ?_⟩
    have hk : k < (zs.take l).length := (List.getElem?_eq_some_iff.1 hy).1
    rw [List.length_take] at hk
    have hk2 : k < zs.length := by omega
    have hy2 : zs.getD k 0 = y := by
      rw [List.getElem?_take_of_lt (by omega)] at hy
      rw [List.getD_eq_getElem?_getD, hy]; rfl
    have h0 := hcell 0 (by omega)
    have hx := spot_none h0
    have e0 : x.add 0 = x := by simp [Addr.add]
    rw [e0] at hx
    refine ⟨x.block, x.off, by rw [← hx], ?_⟩
    have hk' := hcell k hk2
    rw [hy2, hx, Addr.add_lit] at hk'
    exact hk'
end Go.Proofs.Ytcmjpcmdgnbbpaa
