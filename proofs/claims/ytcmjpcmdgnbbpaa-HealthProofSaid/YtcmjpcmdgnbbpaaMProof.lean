/- What the call of Proof answers: the pairs that its searches leave. -/
import Derived.Test.YtcmjpcmdgnbbpaaEFind
import Derived.Test.YtcmjpcmdgnbbpaaERepeat
import Derived.Test.YtcmjpcmdgnbbpaaMExplain
namespace Go.Proofs.Ytcmjpcmdgnbbpaa.PE
open Go.RowKit Go.Proofs.YtcmjpcmdgnbbpaaW.PrintWords Go.Proofs.YtcmjpcmdgnbbpaaW.PrintLast Go.Proofs.YtcmjpcmdgnbbpaaW.PrintMore
set_option linter.unusedVariables false
theorem info69 : (Try.prog.info? 69).map (fun i => (i.zero, i.size, i.bytes)) = some (some (.agg #[(.int .i64 0), (.int .i64 0)]), 2, 16) := by kernel_rfl
theorem Env.re {bc oc fc bb ob tb : Nat} (tb' : Nat) {Ab : Option Addr} {S G : Nat} {adj : List Nat} {w : World} (h : Env bc oc fc bb ob tb Ab S G adj w) : Env bc oc fc bb ob tb' Ab S G adj w := ⟨h.hbc, h.hoc, h.hfc, h.hbb, h.hby⟩
/-- the pairs of the first k gears -/
def outL (m : List Int) (k : Nat) : List S69 := ((List.range k).filter fun g => decide (0 ≤ m.getD g 0)).map fun g => ⟨m.getD g 0, (g : Int)⟩
theorem outL_succ (m : List Int) (k : Nat) : outL m (k + 1) = outL m k ++ if 0 ≤ m.getD k 0 then [⟨m.getD k 0, (k : Int)⟩] else [] := by
  unfold outL
  rw [List.range_succ, List.filter_append, List.map_append]
  by_cases h : 0 ≤ m.getD k 0
  · rw [if_pos h, List.filter_cons_of_pos (by rw [decide_eq_true h])]; rfl
  · rw [if_neg h, List.filter_cons_of_neg (by rw [decide_eq_false h]; simp)]; rfl
theorem outL_len (m : List Int) (k : Nat) : (outL m k).length ≤ k := by
  unfold outL
  rw [List.length_map]
  have := List.length_filter_le (fun g => decide (0 ≤ m.getD g 0)) (List.range k)
  rwa [List.length_range] at this
/-- the cells, as the searches see them -/
theorem adj_of {sn gn : Nat} {cells : List (Int × Int)} (h : okCells (sn : Int) (gn : Int) cells = true) (hg : gn ≤ 12) : Adj sn gn (bysX (sn : Int) cells) := by
  have hsm := ok_small h
  refine ⟨bysTo_len _ _ _, fun s g hs hb => ?_, hg⟩
  unfold bysX at hb
  rw [bys_bit _ _ _ hsm _ (Nat.le_refl _) _ _ hs, List.take_length] at hb
  obtain ⟨a, b, e, ha, hb⟩ := hsm _ hb
  have := (Prod.mk.inj e).2
  simp at hb; omega
/-- what Proof answers -/
def prX (s g : Int) (cells : List (Int × Int)) : List S69 × Int := if okCells s g cells = true then (outL (runTo (bysX s cells) g.toNat s.toNat) g.toNat, 0) else ([], 1)
def health_Proof.f (a0 : Int) (a1 : Int) (l2 : List (S69)) : Option (List S69 × Int) := some (prX a0 a1 (pr l2))
/-- one sensor's search, with a new set of tried gears -/
theorem one_any {bc oc fc bb ob S G B : Nat} {Ab : Option Addr} {adj : List Nat} (ha : Adj S G adj) (hS : S ≤ 8) (k : Nat) (hk : k < S) (wr : World) (he : Env bc oc fc bb ob 0 Ab S G adj wr) (hn : bc ≠ ob ∧ oc ≠ ob ∧ fc ≠ ob ∧ bb ≠ ob)
    (hAb : ∀ b off s, Ab = some ⟨b, off, s⟩ → b ≠ ob) (hho : wr.heap[ob]? = some (.cells (ints (runTo adj G k)).toArray 3 (0, 0))) (hB : B ≤ ob) (hB2 : B ≤ wr.heap.size) :
    Calls Try.prog 86 #[.int .i64 k, .pointer (some ⟨wr.heap.size, 0, none⟩), .pointer (some ⟨bc, 0, none⟩), .pointer (some ⟨oc, 0, none⟩), .pointer (some ⟨fc, 0, none⟩)] (wr.alloc (.cells #[.int .i64 0] 3)) fun e w' =>
      ∃ b, e = .returned (.bool b) ∧ Env bc oc fc bb ob 0 Ab S G adj w' ∧ w'.heap[ob]? = some (.cells (ints (runTo adj G (k + 1))).toArray 3 (0, 0)) ∧ Below B wr w' := by
  obtain ⟨T, hi⟩ := run_inv ha k (by omega)
  have hbo := World.block_lt_of_cell? wr _ he.hbc
  have hoo := World.block_lt_of_cell? wr _ he.hoc
  have hfo := World.block_lt_of_cell? wr _ he.hfc
  have hbbo := World.block_lt_of_cell? wr _ he.hbb
  have hobo : ob < wr.heap.size := (Array.getElem?_eq_some_iff.1 hho).1
  simp only at hbo hoo hfo hbbo
  obtain ⟨ab, ao, x, rfl, _, hcx⟩ := he.hby.at hk
  have hab := World.block_lt_of_cell? wr _ hcx
  simp only at hab
  have hb := below_a1 wr (.cells #[.int .i64 0] 3)
  have hne : Nes bc oc fc bb ob wr.heap.size (some ⟨ab, ao, none⟩) := ⟨⟨hn.1, by omega⟩, ⟨hn.2.1, by omega⟩, ⟨hn.2.2.1, by omega⟩, ⟨hn.2.2.2, by omega⟩, fun b off s e => ⟨hAb b off s e, by cases e; omega⟩, by omega⟩
  have hE : Env bc oc fc bb ob wr.heap.size (some ⟨ab, ao, none⟩) S G adj (wr.alloc (.cells #[.int .i64 0] 3)) := (he.re _).two hne (Two.of hb)
  have hV : Var ob wr.heap.size (runTo adj G k) 0 (wr.alloc (.cells #[.int .i64 0] 3)) := ⟨(hb.block ob hobo).trans hho, heap_alloc_new wr _⟩
  refine (find_any ha hS hne 16 k (runTo adj G k) 0 _ hk hi.ok (un_le 0) hE hV).mono ?_
  rintro e w' ⟨he', hv', ht'⟩
  exact ⟨_, he', (hE.two hne ht').re 0, hv'.ho, ((Two.of hb).trans ht').toBelow hB hB2 hB2⟩
set_option maxRecDepth 100000 in
set_option maxHeartbeats 8000000 in
theorem Proof_any (s g : Int) (A : Option Addr) (n c : Nat) (cells : List (Int × Int)) (w : World) (h : RdP w A n c cells) :
    Calls Try.prog 46 #[.int .i64 s, .int .i64 g, .slice A n c] w fun e w' => ∃ v, e = .returned (.tuple #[v, .int .i64 (prX s g cells).2]) ∧ Kd.R k69 69 w' w.heap.size (fun _ => True) v (prX s g cells).1 ∧ Below w.heap.size w w' := by
  have HN0 := newBox_any s g A n c cells w h
  cases hok : okCells s g cells with
  | false =>
    have HN : Hid (Calls Try.prog 68 #[.int .i64 s, .int .i64 g, .slice A n c] w fun e w' => e = .returned (.tuple #[.pointer none, .bool false]) ∧ Below w.heap.size w w') :=
      (show Calls _ _ _ _ _ from HN0.mono fun e w' ⟨hb, hh⟩ => by
        rcases hh with ⟨_, h2⟩ | ⟨h1, _⟩
        · exact ⟨h2, hb⟩
        · rw [hok] at h1; cases h1)
    have HP : Hid (prX s g cells = ([], 1)) := (show _ = _ by simp [prX, hok])
    clear h HN0 hok
    go_enter Try.func46, Try.ntmps46
    go_wp2_with (go_at_call 68; refine HN.out.mono ?_; rintro e w1 ⟨rfl, hb1⟩; have HB := Lib.hid hb1; clear hb1)
    go_ret2
    refine ⟨.slice none 0 0, by rw [HP.out]; rfl, by rw [HP.out]; exact Kd.R_nil _ _ _ _ _, ?_⟩
    exact by repeat (first | exact HB.out | refine Below.drew ?_ | refine below_drewN ?_ _ | refine below_alloc ?_ _ | refine Below.setCell ?_ ?_ _)
  | true =>
    have h18 : (1 ≤ s ∧ s ≤ 8) ∧ (1 ≤ g ∧ g ≤ 12) := by
      have h := hok
      simp only [okCells, Bool.and_eq_true] at h
      exact ⟨(withinB_iff _ _ _).1 h.1.1, (withinB_iff _ _ _).1 h.1.2⟩
    obtain ⟨sn, rfl⟩ := Int.eq_ofNat_of_zero_le (show 0 ≤ s by omega)
    obtain ⟨gn, rfl⟩ := Int.eq_ofNat_of_zero_le (show 0 ≤ g by omega)
    have hsn : 1 ≤ sn ∧ sn ≤ 8 := by omega
    have hgn : 1 ≤ gn ∧ gn ≤ 12 := by omega
    have ha := adj_of hok hgn.2
    have HN : Hid (Calls Try.prog 68 #[.int .i64 sn, .int .i64 gn, .slice A n c] w fun e w' => ∃ bb : Nat, e = .returned (.tuple #[.pointer (some ⟨bb, 0, none⟩), .bool true]) ∧ Below w.heap.size w w' ∧
        ∃ Ab : Option Addr, w'.heap[bb]? = some (.cells #[.int .i64 sn, .int .i64 gn, .slice A n c, .slice Ab sn sn] 115 (0, 0)) ∧ RdI w' Ab sn sn (nats (bysX sn cells))) :=
      (show Calls _ _ _ _ _ from HN0.mono fun e w' ⟨hb, hh⟩ => by
        rcases hh with ⟨h1, _⟩ | ⟨_, bb, h2, Ab, h3, h4, h5⟩
        · rw [hok] at h1; cases h1
        · exact ⟨bb, h2, hb, Ab, h3, h4⟩)
    have HP : Hid (prX sn gn cells = (outL (runTo (bysX sn cells) gn sn) gn, 0)) := (show _ = _ by simp [prX, hok])
    have HRP : Hid (∀ (A : Option Addr) (c : Nat) (w : World), RdI w A 1 c [-1] → Calls Try.prog 85 #[.slice A 1 c, .int .i64 gn] w fun e w' => ∃ g, e = .returned (.slice (some ⟨g, 0, none⟩) gn gn) ∧ w.heap.size ≤ g ∧ w'.heap[g]? = some (.cells (ints (List.replicate gn (-1))).toArray 3 (0, 0)) ∧ Below w.heap.size w w') :=
      (show ∀ (A : Option Addr), _ from fun A c w h => Repeat_any (-1) gn A c w h hgn.1 (by omega))
    have HADJ := Lib.hid ha
    have hal := ha.len
    generalize bysX sn cells = adj at *
    clear h HN0 hok ha h18
    go_enter Try.func46, Try.ntmps46
    go_wp2_with (first
      | (go_at_call 68; refine HN.out.mono ?_; rintro e w1 ⟨bb, rfl, hb1, Ab, hh, hrd⟩; have HB1 := Lib.hid hb1; have HH := Lib.hid hh; have HRD := Lib.hid hrd; clear hb1 hh hrd))
    have hr1 : RdI ((w1.alloc (.cells #[.pointer (some ⟨bb, 0, none⟩)] 88)).alloc (.cells #[.int .i64 (-1)] 3)) (some ⟨w1.heap.size + 1, 0, none⟩) 1 1 [-1] := by
      have := RdI.one (w1.alloc (.cells #[.pointer (some ⟨bb, 0, none⟩)] 88)) (-1)
      simpa using this
    have HCALL := Lib.hid (HRP.out _ _ _ hr1)
    clear hr1
    refine HCALL.out.mono ?_
    rintro e w2 ⟨ob, rfl, hob, hho, hb2⟩
    have HB2 : Hid (Below w1.heap.size w1 w2) := (show Below _ _ _ from below_trans (below_trans (below_a1 _ _) (below_a1 _ _)) hb2)
    have HHO := Lib.hid hho
    have c0 : w2.cell? ⟨w1.heap.size, 0, none⟩ = some (.pointer (some ⟨bb, 0, none⟩)) := cell_below (below_trans (below_a1 _ _) hb2) (cell_new rfl)
    have HC0 := Lib.hid c0
    have hobz : w1.heap.size < ob := by simp at hob; omega
    clear hho hb2 c0 hob HCALL
    go_wp2_with fail
    obtain ⟨W3, hW3⟩ : ∃ W3, W3 = ((w2.alloc (.cells #[.slice (some ⟨ob, 0, none⟩) gn gn] 22)).alloc (.cells #[.func (.func 86) #[] #[.pointer (some ⟨w1.heap.size, 0, none⟩), .pointer (some ⟨w2.heap.size, 0, none⟩), .pointer (some ⟨w2.heap.size + 1, 0, none⟩)]] 111)) := ⟨_, rfl⟩
    rw [← hW3]
    have hb3 : Below w2.heap.size w2 W3 := by rw [hW3]; exact below_trans (below_a1 _ _) (below_a1 _ _)
    have hob2 : ob < w2.heap.size := (Array.getElem?_eq_some_iff.1 HHO.out).1
    have hbb1 : bb < w1.heap.size := (Array.getElem?_eq_some_iff.1 HH.out).1
    have hE3 : Env w1.heap.size w2.heap.size (w2.heap.size + 1) bb ob 0 Ab sn gn adj W3 := by
      refine ⟨cell_below hb3 HC0.out, ?_, ?_, cell_below hb3 (cell_below HB2.out (cell_of_heap2 HH.out rfl)), (HRD.out.below HB2.out).below hb3⟩
      · rw [hW3]; exact cell_below (below_a1 _ _) (cell_new rfl)
      · rw [hW3]; exact cell_new (by simp)
    have hO3 : W3.heap[ob]? = some (.cells (ints (runTo adj gn 0)).toArray 3 (0, 0)) := (hb3.block ob hob2).trans HHO.out
    have hAb : ∀ b off s, Ab = some ⟨b, off, s⟩ → b ≠ ob := fun b off s e => by
      obtain ⟨b', off', x, e', _, hcx⟩ := HRD.out.at (show 0 < sn by omega)
      rw [e'] at e
      cases e
      have := World.block_lt_of_cell? w1 _ hcx
      simp only at this
      omega
    have HB3 : Hid (Below w.heap.size w W3) := (show Below _ _ _ from below_trans HB1.out (below_trans HB2.out hb3))
    have hwz := HB3.out.size
    have hwz1 := HB1.out.size
    have HONE : Hid (∀ (k : Nat) (wr : World), k < sn → Env w1.heap.size w2.heap.size (w2.heap.size + 1) bb ob 0 Ab sn gn adj wr → wr.heap[ob]? = some (.cells (ints (runTo adj gn k)).toArray 3 (0, 0)) → w.heap.size ≤ wr.heap.size →
        Calls Try.prog 86 #[.int .i64 k, .pointer (some ⟨wr.heap.size, 0, none⟩), .pointer (some ⟨w1.heap.size, 0, none⟩), .pointer (some ⟨w2.heap.size, 0, none⟩), .pointer (some ⟨w2.heap.size + 1, 0, none⟩)] (wr.alloc (.cells #[.int .i64 0] 3)) fun e w' =>
          ∃ b, e = .returned (.bool b) ∧ Env w1.heap.size w2.heap.size (w2.heap.size + 1) bb ob 0 Ab sn gn adj w' ∧ w'.heap[ob]? = some (.cells (ints (runTo adj gn (k + 1))).toArray 3 (0, 0)) ∧ Below w.heap.size wr w') :=
      (show ∀ k, _ from fun k wr hk he hho hz => one_any HADJ.out hsn.2 k hk wr he ⟨by omega, by omega, by omega, by omega⟩ hAb hho (by omega) hz)
    have HE3 := Lib.hid hE3
    have HO3 := Lib.hid hO3
    have e86 := enters86
    clear hE3 hO3 hb3 hAb hW3
    go_loopw [12, 13, 30] (fun a b i wr => ∃ (k : Nat) (u1 u2 : Value), k ≤ sn ∧ i = .int .i64 k ∧ a = u1 ∧ b = u2 ∧ Hid (Env w1.heap.size w2.heap.size (w2.heap.size + 1) bb ob 0 Ab sn gn adj wr) ∧ Hid (wr.heap[ob]? = some (.cells (ints (runTo adj gn k)).toArray 3 (0, 0))) ∧ Hid (Below w.heap.size w wr)) (fun _ _ i _ => sn - (intOf i).toNat)
    case atStart => exact ⟨0, _, _, Nat.zero_le _, rfl, rfl, rfl, HE3.out, HO3.out, HB3.out⟩
    case round =>
      obtain ⟨k, u1, u2, hk, rfl, rfl, rfl, HE, HO, HB⟩ := hrel
      by_cases hlt : k < sn
      · have HCALL := Lib.hid (HONE.out k wr hlt HE.out HO.out HB.out.size)
        have d1 : (wr.alloc (.cells #[.int .i64 0] 3)).cell? ⟨w2.heap.size + 1, 0, none⟩ = _ := cell_below (below_a1 _ _) HE.out.hfc
        go_wp2_with (go_at_fn 86; refine HCALL.out.mono ?_; rintro e w5 ⟨fb, rfl, he5, ho5, hb5⟩; have HE5 := Lib.hid he5; have HO5 := Lib.hid ho5; have HB5 : Hid (Below w.heap.size w w5) := (show Below _ _ _ from HB.out.trans hb5); clear he5 ho5 hb5)
        go_roundw
        case rel => exact ⟨k + 1, _, _, by omega, by first | rfl | go_num, rfl, rfl, HE5.out, HO5.out, HB5.out⟩
        case measure => simp [intOf]; omega
      · obtain rfl : k = sn := by omega
        obtain ⟨T, hi⟩ := run_inv HADJ.out k (Nat.le_refl _)
        have hml := hi.ok.len
        have hR : RdI wr (some ⟨ob, 0, none⟩) gn gn (runTo adj gn k) := ⟨hml, Nat.le_refl _, by omega, fun e => (by cases e), fun j x hx => ⟨_, _, rfl, cell_of_heap2 HO.out (by simpa [ints] using hx)⟩⟩
        have HR := Lib.hid hR
        have d1 := HE.out.hoc
        generalize runTo adj gn k = m at *
        have HML := Lib.hid hml
        clear hi hml hR
        obtain ⟨W7, rfl⟩ : ∃ W7, W7 = wr := ⟨_, rfl⟩
        go_wp2_with fail
        go_loopw [6, 14, 15, 39] (fun o a b i w' => ∃ (j : Nat) (v u1 u2 : Value), j ≤ gn ∧ i = .int .i64 j ∧ o = v ∧ a = u1 ∧ b = u2 ∧ Hid (Kd.R k69 69 w' W7.heap.size (fun _ => True) v (outL m j)) ∧ Hid (Below W7.heap.size W7 w')) (fun _ _ _ i _ => gn - (intOf i).toNat)
        case atStart => exact ⟨0, _, _, _, Nat.zero_le _, rfl, rfl, rfl, rfl, Kd.R_nil _ _ _ _ _, Below.refl _ _⟩
        case round =>
          obtain ⟨j, v, u1, u2, hj, rfl, rfl, rfl, rfl, HV, HBQ⟩ := hrel
          by_cases hlt2 : j < gn
          · obtain ⟨b', off', x, e', hx, hcx0⟩ := HR.out.at hlt2
            cases e'
            have hcx := cell_below HBQ.out hcx0
            rw [Nat.zero_add] at hcx
            have hxg : m.getD j 0 = x := by rw [List.getD_eq_getElem?_getD, hx]; rfl
            have HOL := Lib.hid (outL_succ m j)
            have hll := outL_len m j
            rw [hxg] at HOL
            clear hx hcx0 hxg
            by_cases hx0 : 0 ≤ x
            · rw [if_pos hx0] at HOL
              go_wp2_with (first | (at_builtin; refine Kd.R_append k69 (w0 := W7) W7.heap.size rfl (.tmp 46) (.tmp 50) 39 69 (.agg #[(.int .i64 0), (.int .i64 0)]) 16 rfl Try.underlying39 info69 rfl (by decide) (by omega) _ (outL m j) (⟨x, (j : Int)⟩ : S69) [.int .i64 x, .int .i64 j] (fun _ => True) (fun _ => False) rfl rfl ?aP (fun _ hk => hk.elim) ?aF ?aO ?aB ?aS ?aL ?_; (case aP => exact k69_mkM _ _ _ (⟨x, (j : Int)⟩ : S69)); (case aB => exact HBQ.out); (case aF => exact (fun _ _ => trivial)); (case aO => exact HV.out); (case aS => exact HBQ.out.size); (case aL => omega); intro v5 w5 ho hb hg hat; rw [← HOL.out] at ho; have HV5 := Lib.hid ho; have HB5 := Lib.hid hb; clear ho hb hg hat))
              go_roundw
              case rel => exact ⟨j + 1, _, _, _, by omega, by first | rfl | go_num, rfl, rfl, rfl, HV5.out, HB5.out⟩
              case measure => simp [intOf]; omega
            · rw [if_neg hx0, List.append_nil] at HOL
              go_wp2_with fail
              go_roundw
              case rel => exact ⟨j + 1, _, _, _, by omega, by first | rfl | go_num, rfl, rfl, rfl, (show Kd.R _ _ _ _ _ _ _ by rw [HOL.out]; exact HV.out), HBQ.out⟩
              case measure => simp [intOf]; omega
          · obtain rfl : j = gn := by omega
            go_wp2_with fail
            go_ret2
            refine ⟨_, by rw [HP.out]; rfl, ?_, below_trans HB.out HBQ.out⟩
            rw [HP.out]
            exact Kd.R_lower HV.out HB.out.size
theorem health_Proof.calls (a0 : Int) (a1 : Int) (A2 : Option Addr) (c2 : Nat) (l2 : List (S69)) (r1 : List S69) (r2 : Int) (w : World) (hr2 : Kd.C k69 w A2 l2.length l2) (hc2 : l2.length ≤ c2) (h : health_Proof.f a0 a1 l2 = some (r1, r2)) :
    Calls Try.prog 46 #[.int .i64 a0, .int .i64 a1, .slice A2 l2.length c2] w fun e w' => ∃ v0_ : Value, e = .returned (.tuple #[v0_, .int .i64 r2]) ∧ Kd.R k69 69 w' w.heap.size (fun _ => True) v0_ r1 ∧ Below w.heap.size w w' := by
  have h' : prX a0 a1 (pr l2) = (r1, r2) := Option.some.inj h
  have := Proof_any a0 a1 A2 l2.length c2 (pr l2) w (RdP_of hr2)
  rw [h'] at this
  exact this
end Go.Proofs.Ytcmjpcmdgnbbpaa.PE
