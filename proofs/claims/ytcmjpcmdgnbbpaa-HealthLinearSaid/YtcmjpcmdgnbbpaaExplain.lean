/- Explain of the program: the fewest loose sensors and the gears that have to be worn. -/
import Derived.Test.YtcmjpcmdgnbbpaaMin
namespace Go.Proofs.Ytcmjpcmdgnbbpaa
open Go.RowKit
def bysX (s : Int) (cells : List (Int × Int)) : List Nat := bysTo s.toNat cells cells.length
def looseX (s : Int) (cells : List (Int × Int)) : Nat := minX (explTo (szX (bysX s cells)) (2 ^ s.toNat))
def ExplainPost (s g : Int) (cells : List (Int × Int)) (w : World) (e : Ending) (w' : World) : Prop :=
  Below w.heap.size w w' ∧
  ((okCells s g cells = false ∧ e = .returned (.tuple #[.slice none 0 0, .slice none 0 0, .int .i64 1])) ∨
   (okCells s g cells = true ∧ ∃ A1 n1 c1 A2 n2 c2, e = .returned (.tuple #[.slice A1 n1 c1, .slice A2 n2 c2, .int .i64 0]) ∧
      RdI w' A1 n1 c1 (mem (looseX s cells)) ∧ RdI w' A2 n2 c2 (mem (wornS (bysX s cells) (looseX s cells))) ∧ Fr w.heap.size A1 ∧ Fr w.heap.size A2))
theorem explTo_pos (sz : Nat → Nat) (k : Nat) : 1 ≤ (explTo sz (k + 1)).length := by
  rw [explTo]
  split
  · simp
  · split
    · simp
    · split <;> simp
set_option maxRecDepth 100000 in
set_option maxHeartbeats 8000000 in
theorem Explain_any (s g : Int) (A : Option Addr) (n c : Nat) (cells : List (Int × Int)) (w : World) (h : RdP w A n c cells) :
    Calls Try.prog 30 #[.int .i64 s, .int .i64 g, .slice A n c] w (ExplainPost s g cells w) := by
  have hN := newBox_any s g A n c cells w h
  clear h
  cases hok : okCells s g cells with
  | false =>
    have HN : Hid (Calls Try.prog 68 #[.int .i64 s, .int .i64 g, .slice A n c] w fun e w' => e = .returned (.tuple #[.pointer none, .bool false]) ∧ Below w.heap.size w w') :=
      (show Calls _ _ _ _ _ from hN.mono fun e w' ⟨hb, hh⟩ => by
        rcases hh with ⟨_, h2⟩ | ⟨h1, _⟩
        · exact ⟨h2, hb⟩
        · rw [hok] at h1; cases h1)
    have HOK := Lib.hid hok
    clear hN hok
    go_enter Try.func30, Try.ntmps30
    go_wp2_with (go_at_call 68; refine HN.out.mono ?_; rintro e w1 ⟨rfl, hb1⟩; have HB1 := Lib.hid hb1; clear hb1)
    go_ret3
    exact ⟨HB1.out, .inl ⟨HOK.out, rfl⟩⟩
  | true =>
    have hs : 1 ≤ s ∧ s ≤ 8 := by
      have : okCells s g cells = (withinB s 1 8 && withinB g 1 12 && okFrom s g none cells) := rfl
      rw [this] at hok
      simp only [Bool.and_eq_true] at hok
      exact (withinB_iff _ _ _).1 hok.1.1
    obtain ⟨sn, rfl⟩ : ∃ sn : Nat, s = sn := ⟨s.toNat, by omega⟩
    have hsn : sn ≤ 8 := by omega
    have HN : Hid (Calls Try.prog 68 #[.int .i64 sn, .int .i64 g, .slice A n c] w fun e w' => ∃ bb : Nat, e = .returned (.tuple #[.pointer (some ⟨bb, 0, none⟩), .bool true]) ∧ Below w.heap.size w w' ∧
        ∃ Ab : Option Addr, w'.heap[bb]? = some (.cells #[.int .i64 sn, .int .i64 g, .slice A n c, .slice Ab sn sn] 115 (0, 0)) ∧ RdI w' Ab sn sn (nats (bysX sn cells)) ∧ Small (bysX sn cells)) :=
      (show Calls _ _ _ _ _ from hN.mono fun e w' ⟨hb, hh⟩ => by
        rcases hh with ⟨h1, _⟩ | ⟨_, bb, h2, Ab, h3, h4, h5⟩
        · rw [hok] at h1; cases h1
        · exact ⟨bb, h2, hb, Ab, h3, h4, h5⟩)
    have HOK := Lib.hid hok
    have hpos : 1 ≤ (explTo (szX (bysX sn cells)) (2 ^ sn)).length := by
      obtain ⟨j, hj⟩ : ∃ j, 2 ^ sn = j + 1 := ⟨2 ^ sn - 1, by have := Nat.two_pow_pos sn; omega⟩
      rw [hj]; exact explTo_pos _ _
    have hle : (explTo (szX (bysX sn cells)) (2 ^ sn)).length ≤ 256 := Nat.le_trans (explTo_len _ _) (Nat.pow_le_pow_right (n := 2) (by omega) hsn)
    have HL : Hid (looseX sn cells = minX (explTo (szX (bysX sn cells)) (2 ^ sn))) := (show _ = _ from rfl)
    have HXX : Hid (∀ (bb : Nat) (A : Option Addr) (c : Nat) (w : World), w.cell? ⟨bb, 0, none⟩ = some (.int .i64 sn) → w.cell? ⟨bb, 3, none⟩ = some (.slice A sn c) → RdI w A sn c (nats (bysX sn cells)) → Small (bysX sn cells) →
        Calls Try.prog 70 #[.pointer (some ⟨bb, 0, none⟩)] w fun e w' => ∃ v cs, e = .returned v ∧ w'.ownsRow w.heap.size 92 2 v (explTo (szX (bysX sn cells)) (2 ^ sn)).length cs ∧ AreX w.heap.size w' cs (bysX sn cells) (explTo (szX (bysX sn cells)) (2 ^ sn)) ∧ Below w.heap.size w w') :=
      (show ∀ (bb : Nat), _ from fun bb A c w h0 h3 hr hsm => explanations_any bb sn A c _ w h0 h3 hr hsn hsm)
    clear hN hok
    generalize explTo (szX (bysX sn cells)) (2 ^ sn) = ls at *
    generalize hby : bysX sn cells = bys at *
    have HBY := Lib.hid hby
    clear hby
    go_enter Try.func30, Try.ntmps30
    go_wp2_with (go_at_call 68; refine HN.out.mono ?_; rintro e w1 ⟨bb, rfl, hb1, Ab, hh, hrd, hsm⟩; have HB1 := Lib.hid hb1; have HH := Lib.hid hh; have HRD := Lib.hid hrd; have HSM := Lib.hid hsm; clear hb1 hh hrd hsm)
    refine (HXX.out bb Ab sn w1 (cell_of_heap2 (o := 0) HH.out rfl) (cell_of_heap2 (o := 3) HH.out rfl) HRD.out HSM.out).mono ?_
    rintro e w2 ⟨v, cs, rfl, hown, hAX, hb2⟩
    obtain ⟨Av, cv, rfl⟩ := own_shape hown
    have HB2 := Lib.hid (below_trans HB1.out hb2)
    have HRX : Hid (RdX w.heap.size w2 Av bys ls) := (show RdX _ _ _ _ _ from ⟨fun k l hl => by
      obtain ⟨A1, n1, c1, A2, n2, c2, h1, h2, h3, h4⟩ := hAX.2 k l hl
      obtain ⟨g', e1, _, e2⟩ := own_cell hown h1
      obtain ⟨g'', e3, _, e4⟩ := own_cell hown h2
      rw [e1] at e3
      cases e3
      exact ⟨g', A1, n1, c1, A2, n2, c2, e1, e2, e4, h3.rd, h4.rd, (h3.lower HB1.out.size).fr, (h4.lower HB1.out.size).fr⟩⟩)
    have HM := Lib.hid (minFunc_any w.heap.size Av ls.length cv bys ls w2 HRX.out rfl hpos (by omega))
    clear hown hAX hb2 HXX
    go_wp2_with (go_at_call 69; refine HM.out.mono ?_; rintro e w3 ⟨A1, n1, c1, A2, n2, c2, rfl, hr1, hr2, hr3, hb3⟩; have HB3 := Lib.hid hb3; have HR := Lib.hid (And.intro hr1 (And.intro hr2 hr3)); clear hb3 hr1 hr2 hr3)
    all_goals
      go_quiet (fail)
      go_wp2_with fail
      go_ret3
      refine ⟨?_, .inr ⟨HOK.out, A1, n1, c1, A2, n2, c2, rfl, ?_, ?_, HR.out.2.2⟩⟩
      · refine below_trans HB2.out (below_trans HB3.out ?_)
        repeat (first | exact Below.refl _ _ | refine Below.drew ?_ | refine below_drewN ?_ _ | refine below_alloc ?_ _)
      · rw [HL.out]
        refine HR.out.1.below ?_
        repeat (first | exact Below.refl _ _ | refine Below.drew ?_ | refine below_drewN ?_ _ | refine below_alloc ?_ _)
      · rw [HL.out, HBY.out]
        refine HR.out.2.1.below ?_
        repeat (first | exact Below.refl _ _ | refine Below.drew ?_ | refine below_drewN ?_ _ | refine below_alloc ?_ _)
end Go.Proofs.Ytcmjpcmdgnbbpaa
