/- What the call of Explain answers, in the form of the printed texts. -/
import Derived.Test.YtcmjpcmdgnbbpaaPMx0
import Derived.Test.YtcmjpcmdgnbbpaaHAll
import Derived.Test.YtcmjpcmdgnbbpaaExplain
namespace Go.Proofs.Ytcmjpcmdgnbbpaa.PE
open Go.RowKit Go.Proofs.YtcmjpcmdgnbbpaaW.PrintWords Go.Proofs.YtcmjpcmdgnbbpaaW.PrintLast Go.Proofs.YtcmjpcmdgnbbpaaW.PrintMore
set_option linter.unusedVariables false
def pr (l : List S69) : List (Int × Int) := l.map fun x => (x.f0, x.f1)
theorem RdP_of {w : World} {A : Option Addr} {c : Nat} {l : List S69} (h : Kd.C k69 w A l.length l) : RdP w A l.length c (pr l) := by
  obtain ⟨h1, h2, h3⟩ := h
  refine ⟨by simp [pr], h2, fun k p hp => ?_⟩
  have hk : k < l.length := by have := (List.getElem?_eq_some_iff.1 hp).1; simpa [pr] using this
  obtain ⟨ad, rfl, hc⟩ := h3 (by omega)
  have h00 : 0 < l.length := by omega
  obtain ⟨c0, _, hr0, hcell0⟩ := hc 0 _ (List.getElem?_eq_getElem h00)
  obtain rfl := k69_open hr0
  have g0 := hcell0 0 _ rfl
  simp only [Nat.zero_mul, Nat.add_zero] at g0
  have e0 : ad.add 0 = ad := by simp [Addr.add]
  rw [e0] at g0
  have hs := PH.spot_none' g0
  obtain ⟨c, hl, hr, hcell⟩ := hc k _ (List.getElem?_eq_getElem hk)
  obtain rfl := k69_open hr
  have f0 := hcell 0 _ rfl
  have f1 := hcell 1 _ rfl
  have hp2 : ((l[k]).f0, (l[k]).f1) = p := by
    simp only [pr, List.getElem?_map, List.getElem?_eq_getElem hk, Option.map_some] at hp
    exact Option.some.inj hp
  have esz : k69.sz = 2 := rfl
  rw [esz, hs, Addr.add_lit] at f0 f1
  subst hp2
  exact ⟨ad.block, ad.off, by rw [← hs], f0, f1⟩
theorem V_of {w : World} {A : Option Addr} {n c base B : Nat} {xs : List Int} (h : RdI w A n c xs) (hf : Fr B A) : Kd.V (Kd.int .i64) 3 w base (fun k_ => B ≤ k_) (.slice A n c) xs := by
  obtain rfl : xs.length = n := h.len
  refine Kd.V_mk h.cap (fun W' hW => ⟨rfl, h.size, fun hn => ?_⟩)
  obtain ⟨b, off, x, rfl, hx, hc⟩ := h.at hn
  refine ⟨⟨b, off, none⟩, rfl, fun j p hj => ⟨[.int .i64 p], rfl, rfl, fun i u hu => ?_⟩⟩
  obtain rfl : i = 0 := by
    have := (List.getElem?_eq_some_iff.1 hu).1
    simpa using this
  obtain rfl : Value.int .i64 p = u := by simpa using hu
  obtain ⟨b', off', e, hcj⟩ := h.cells j p hj
  cases e
  have hb := hW b (hf b off none rfl) (World.block_lt_of_cell? w _ hcj)
  have esz : (Kd.int .i64).sz = 1 := rfl
  rw [esz, Nat.mul_one, Nat.add_zero, Addr.add_lit]
  simpa [World.cell?, hb] using hcj
theorem V_nil' (w : World) (base B : Nat) : Kd.V (Kd.int .i64) 3 w base (fun k_ => B ≤ k_) (.slice none 0 0) [] := V_of (RdI.empty w) (fun _ _ _ e => by cases e)
/-- what Explain answers -/
def exX (s g : Int) (cells : List (Int × Int)) : List Int × List Int × Int := if okCells s g cells = true then (mem (looseX s cells), mem (wornS (bysX s cells) (looseX s cells)), 0) else ([], [], 1)
def health_Explain.f (a0 : Int) (a1 : Int) (l2 : List (S69)) : Option (List Int × List Int × Int) := some (exX a0 a1 (pr l2))
theorem health_Explain.calls (a0 : Int) (a1 : Int) (A2 : Option Addr) (c2 : Nat) (l2 : List (S69)) (r1 : List Int) (r2 : List Int) (r3 : Int) (w : World) (hr2 : Kd.C k69 w A2 l2.length l2) (hc2 : l2.length ≤ c2) (h : health_Explain.f a0 a1 l2 = some (r1, r2, r3)) :
    Calls Try.prog 30 #[.int .i64 a0, .int .i64 a1, .slice A2 l2.length c2] w fun e w' => ∃ v0_ v1_ : Value, e = .returned (.tuple #[v0_, v1_, .int .i64 r3]) ∧ Kd.V (Kd.int .i64) 3 w' w.heap.size (fun k_ => w.heap.size ≤ k_) v0_ r1 ∧ Kd.V (Kd.int .i64) 3 w' w.heap.size (fun k_ => w.heap.size ≤ k_) v1_ r2 ∧ Below w.heap.size w w' := by
  have h' : exX a0 a1 (pr l2) = (r1, r2, r3) := Option.some.inj h
  refine (Explain_any a0 a1 A2 l2.length c2 (pr l2) w (RdP_of hr2)).mono ?_
  rintro e w' ⟨hb, hh⟩
  unfold exX at h'
  rcases hh with ⟨h1, rfl⟩ | ⟨h1, A1, n1, c1, A2, n2, c2, rfl, g1, g2, g3, g4⟩
  · rw [h1, if_neg (by simp)] at h'
    cases h'
    exact ⟨_, _, rfl, V_nil' _ _ _, V_nil' _ _ _, hb⟩
  · rw [h1, if_pos rfl] at h'
    cases h'
    exact ⟨_, _, rfl, V_of g1 g3, V_of g2 g4, hb⟩
end Go.Proofs.Ytcmjpcmdgnbbpaa.PE
