/- The search of Proof: what the call of its function answers and leaves. -/
import Derived.Test.YtcmjpcmdgnbbpaaEMatch
namespace Go.Proofs.Ytcmjpcmdgnbbpaa.PE
open Go.RowKit
set_option linter.unusedVariables false
/-- all blocks but two are as they were -/
structure Two (o t : Nat) (w w' : World) : Prop where
  os : w'.os = w.os
  tape : w'.tape = w.tape
  output : w'.output = w.output
  size : w.heap.size ≤ w'.heap.size
  block : ∀ k, k < w.heap.size → k ≠ o → k ≠ t → w'.heap[k]? = w.heap[k]?
theorem Two.refl (o t : Nat) (w : World) : Two o t w w := ⟨rfl, rfl, rfl, Nat.le_refl _, fun _ _ _ _ => rfl⟩
theorem Two.trans {o t : Nat} {a b c : World} (h : Two o t a b) (k : Two o t b c) : Two o t a c :=
  ⟨k.os.trans h.os, k.tape.trans h.tape, k.output.trans h.output, Nat.le_trans h.size k.size, fun i hi h1 h2 => (k.block i (Nat.lt_of_lt_of_le hi h.size) h1 h2).trans (h.block i hi h1 h2)⟩
theorem Two.of {o t : Nat} {w w' : World} (h : Below w.heap.size w w') : Two o t w w' := ⟨h.os, h.tape, h.output, h.size, fun k hk _ _ => h.block k hk⟩
theorem Two.drewN {o t : Nat} {w w' : World} (h : Two o t w w') (n : Nat) : Two o t w (w'.drewN n) := ⟨h.os, h.tape, h.output, h.size, h.block⟩
theorem Two.set {o t b j : Nat} {w w' : World} (h : Two o t w w') (hb : b = o ∨ b = t) (v : Value) : Two o t w (w'.setCell ⟨b, j, none⟩ v) := by
  have hs : Below 0 w' (w'.setCell ⟨b, j, none⟩ v) := (Below.refl 0 w').setCell (Nat.zero_le _) v
  refine ⟨hs.os.trans h.os, hs.tape.trans h.tape, hs.output.trans h.output, Nat.le_trans h.size hs.size, fun k hk h1 h2 => ?_⟩
  rw [Below.heap_setCell _ _ _ _ (by rcases hb with rfl | rfl <;> simp <;> omega)]
  exact h.block k hk h1 h2
theorem Two.cell {o t : Nat} {w w' : World} (h : Two o t w w') {b j : Nat} {v : Value} (hc : w.cell? ⟨b, j, none⟩ = some v) (h1 : b ≠ o) (h2 : b ≠ t) : w'.cell? ⟨b, j, none⟩ = some v := by
  have hlt := World.block_lt_of_cell? w _ hc
  have := h.block b hlt h1 h2
  simpa [World.cell?, this] using hc
def Off (o t : Nat) (A : Option Addr) : Prop := ∀ b off s, A = some ⟨b, off, s⟩ → b ≠ o ∧ b ≠ t
theorem Two.rd {o t : Nat} {w w' : World} (h : Two o t w w') {A : Option Addr} {n c : Nat} {xs : List Int} (hr : RdI w A n c xs) (ho : Off o t A) : RdI w' A n c xs :=
  ⟨hr.len, hr.cap, hr.big, hr.nil, fun k x hx => by
    obtain ⟨b, off, hA, hc⟩ := hr.cells k x hx
    have := ho b off none hA
    exact ⟨b, off, hA, h.cell hc this.1 this.2⟩⟩
theorem Two.toBelow {o t B : Nat} {w w' : World} (h : Two o t w w') (h1 : B ≤ o) (h2 : B ≤ t) (h3 : B ≤ w.heap.size) : Below B w w' :=
  ⟨h.os, h.tape, h.output, h.size, fun k hk => h.block k (by omega) (by omega) (by omega)⟩
/-- what the search reads and does not write -/
structure Env (bc oc fc bb ob tb : Nat) (Ab : Option Addr) (S G : Nat) (adj : List Nat) (w : World) : Prop where
  hbc : w.cell? ⟨bc, 0, none⟩ = some (.pointer (some ⟨bb, 0, none⟩))
  hoc : w.cell? ⟨oc, 0, none⟩ = some (.slice (some ⟨ob, 0, none⟩) G G)
  hfc : w.cell? ⟨fc, 0, none⟩ = some (.func (.func 86) #[] #[.pointer (some ⟨bc, 0, none⟩), .pointer (some ⟨oc, 0, none⟩), .pointer (some ⟨fc, 0, none⟩)])
  hbb : w.cell? ⟨bb, 3, none⟩ = some (.slice Ab S S)
  hby : RdI w Ab S S (nats adj)
structure Nes (bc oc fc bb ob tb : Nat) (Ab : Option Addr) : Prop where
  n1 : bc ≠ ob ∧ bc ≠ tb
  n2 : oc ≠ ob ∧ oc ≠ tb
  n3 : fc ≠ ob ∧ fc ≠ tb
  n4 : bb ≠ ob ∧ bb ≠ tb
  n5 : Off ob tb Ab
  n6 : ob ≠ tb
theorem Env.two {bc oc fc bb ob tb : Nat} {Ab : Option Addr} {S G : Nat} {adj : List Nat} {w w' : World} (h : Env bc oc fc bb ob tb Ab S G adj w) (hn : Nes bc oc fc bb ob tb Ab) (ht : Two ob tb w w') : Env bc oc fc bb ob tb Ab S G adj w' :=
  ⟨ht.cell h.hbc hn.n1.1 hn.n1.2, ht.cell h.hoc hn.n2.1 hn.n2.2, ht.cell h.hfc hn.n3.1 hn.n3.2, ht.cell h.hbb hn.n4.1 hn.n4.2, ht.rd h.hby hn.n5⟩
/-- what it reads and writes -/
structure Var (ob tb : Nat) (m : List Int) (t : Nat) (w : World) : Prop where
  ho : w.heap[ob]? = some (.cells (ints m).toArray 3 (0, 0))
  ht : w.heap[tb]? = some (.cells #[.int .i64 t] 3 (0, 0))
theorem Var.below {ob tb : Nat} {m : List Int} {t : Nat} {w w' : World} (h : Var ob tb m t w) (hb : Below w.heap.size w w') : Var ob tb m t w' :=
  ⟨(hb.block ob (Array.getElem?_eq_some_iff.1 h.ho).1).trans h.ho, (hb.block tb (Array.getElem?_eq_some_iff.1 h.ht).1).trans h.ht⟩
theorem Var.drewN {ob tb : Nat} {m : List Int} {t : Nat} {w : World} (h : Var ob tb m t w) (n : Nat) : Var ob tb m t (w.drewN n) := ⟨h.ho, h.ht⟩
theorem Var.drew {ob tb : Nat} {m : List Int} {t : Nat} {w : World} (h : Var ob tb m t w) : Var ob tb m t w.drew := ⟨h.ho, h.ht⟩
theorem Two.drew {o t : Nat} {w w' : World} (h : Two o t w w') : Two o t w w'.drew := ⟨h.os, h.tape, h.output, h.size, h.block⟩
theorem Var.setT {ob tb : Nat} {m : List Int} {t t' : Nat} {w : World} (h : Var ob tb m t w) (hne : ob ≠ tb) : Var ob tb m t' (w.setCell ⟨tb, 0, none⟩ (.int .i64 t')) :=
  ⟨by rw [Below.heap_setCell _ _ _ _ (by simpa using fun e => hne e)]; exact h.ho, by rw [heap_setCell_same _ _ _ _ _ _ _ h.ht]; rfl⟩
theorem Var.setO {ob tb g : Nat} {m : List Int} {t : Nat} {v : Int} {w : World} (h : Var ob tb m t w) (hne : ob ≠ tb) : Var ob tb (m.set g v) t (w.setCell ⟨ob, g, none⟩ (.int .i64 v)) :=
  ⟨by rw [heap_setCell_same _ _ _ _ _ _ _ h.ho]; simp [ints, List.map_set], by rw [Below.heap_setCell _ _ _ _ (by simpa using fun e => hne e.symm)]; exact h.ht⟩
theorem Var.cellT {ob tb : Nat} {m : List Int} {t : Nat} {w : World} (h : Var ob tb m t w) : w.cell? ⟨tb, 0, none⟩ = some (.int .i64 t) := cell_of_heap2 h.ht rfl
theorem Var.cellO {ob tb g : Nat} {m : List Int} {t : Nat} {w : World} (h : Var ob tb m t w) (hg : g < m.length) : w.cell? ⟨ob, g, none⟩ = some (.int .i64 (m.getD g 0)) :=
  cell_of_heap2 h.ho (by simp [ints, List.getD_eq_getElem?_getD, List.getElem?_eq_getElem hg])
/-! the numbers that are not tried -/
theorem bits_andNot_nat (a b : Nat) (ha : a < 65536) (hb : b < 65536) : bits BinOp.andNot IntKind.i64 (a : Int) (b : Int) = ((a &&& (65535 - b) : Nat) : Int) := by
  have e : (BitVec.ofInt 64 (a : Int) &&& ~~~BitVec.ofInt 64 (b : Int)).toNat = a &&& (2 ^ 64 - 1 - b) := by
    rw [BitVec.toNat_and, BitVec.toNat_not, ofInt_toNat64 a (by omega), ofInt_toNat64 b (by omega)]
  have e2 : a &&& (2 ^ 64 - 1 - b) = a &&& (65535 - b) := Nat.eq_of_testBit_eq fun i => by
    rw [Nat.testBit_and, Nat.testBit_and, show 2 ^ 64 - 1 - b = 2 ^ 64 - (b + 1) by omega, show 65535 - b = 2 ^ 16 - (b + 1) by omega, Nat.testBit_two_pow_sub_succ (by omega), Nat.testBit_two_pow_sub_succ (by omega)]
    by_cases hi : i < 16
    · rw [decide_eq_true hi, decide_eq_true (show i < 64 by omega)]
    · rw [Nat.testBit_lt_two_pow (Nat.lt_of_lt_of_le (show a < 2 ^ 16 by omega) (Nat.pow_le_pow_right (by omega) (by omega)))]; simp
  have h2 : a &&& (65535 - b) ≤ a := Nat.and_le_left
  show IntKind.i64.wrap (((BitVec.ofInt 64 (a : Int) &&& ~~~BitVec.ofInt 64 (b : Int)).toNat : Nat) : Int) = _
  rw [e, e2, IntKind.wrap_i64]; omega
theorem mem_left (a t : Nat) (ht : t < 65536) : mem (a &&& (65535 - t)) = (left a t).map fun i : Nat => (i : Int) := by
  unfold mem left
  congr 1
  refine List.filter_congr fun i hi => ?_
  have hi := List.mem_range.1 hi
  rw [Nat.testBit_and, show 65535 - t = 2 ^ 16 - (t + 1) by omega, Nat.testBit_two_pow_sub_succ (by omega), decide_eq_true hi]
  simp
theorem lt_of_bits {t G : Nat} (h : ∀ i, t.testBit i = true → i < G) : t < 2 ^ G :=
  Nat.lt_pow_two_of_testBit t fun i hi => by
    cases hb : t.testBit i
    · rfl
    · have := h i hb; omega
theorem Ok.small {S G : Nat} {m : List Int} {t : Nat} (h : Ok S G m t) (hG : G ≤ 12) : t < 4096 :=
  Nat.lt_of_lt_of_le (lt_of_bits h.lt) (Nat.pow_le_pow_right (n := 2) (by omega) hG)
theorem enters86 : ∀ args w, (callFunc 86 args).run Try.prog w = .ok (.enter 86 args) w := enters_of Try.func86 (by kernel_rfl) rfl
/-- what a call of the search answers and leaves -/
def FindPost (ob tb : Nat) (w : World) (r : St3) (e : Ending) (w' : World) : Prop := e = .returned (.bool r.1) ∧ Var ob tb r.2.1 r.2.2 w' ∧ Two ob tb w w'
set_option maxRecDepth 100000 in
set_option maxHeartbeats 8000000 in
theorem find_step {bc oc fc bb ob tb S G : Nat} {Ab : Option Addr} {adj : List Nat} (ha : Adj S G adj) (hS : S ≤ 8) (hn : Nes bc oc fc bb ob tb Ab) (k s : Nat) (m : List Int) (t : Nat) (w : World) (hs : s < S) (hok : Ok S G m t)
    (he : Env bc oc fc bb ob tb Ab S G adj w) (hv : Var ob tb m t w)
    (hrec : ∀ (s' : Nat) (m' : List Int) (t' : Nat) (w' : World), s' < S → Ok S G m' t' → un t' < un t → Env bc oc fc bb ob tb Ab S G adj w' → Var ob tb m' t' w' →
      Calls Try.prog 86 #[.int .i64 s', .pointer (some ⟨tb, 0, none⟩), .pointer (some ⟨bc, 0, none⟩), .pointer (some ⟨oc, 0, none⟩), .pointer (some ⟨fc, 0, none⟩)] w' (FindPost ob tb w' (fnd adj k s' m' t'))) :
    Calls Try.prog 86 #[.int .i64 s, .pointer (some ⟨tb, 0, none⟩), .pointer (some ⟨bc, 0, none⟩), .pointer (some ⟨oc, 0, none⟩), .pointer (some ⟨fc, 0, none⟩)] w (FindPost ob tb w (fl (fnd adj k) s (left (adj.getD s 0) t) m t)) := by
  have hG := ha.hG
  have ht := hok.small hG
  have hob : ob < w.heap.size := (Array.getElem?_eq_some_iff.1 hv.ho).1
  have htb : tb < w.heap.size := (Array.getElem?_eq_some_iff.1 hv.ht).1
  have hadj : adj.getD s 0 < 4096 := Nat.lt_of_lt_of_le (lt_of_bits (fun i hi => ha.lt s i hs hi)) (Nat.pow_le_pow_right (n := 2) (by omega) hG)
  obtain ⟨gs, hgs⟩ : ∃ gs, left (adj.getD s 0) t = gs := ⟨_, rfl⟩
  have hml := mem_left (adj.getD s 0) t (by omega)
  have hmem : ∀ g, g ∈ gs → g < G ∧ t.testBit g = false := fun g hg => by
    rw [← hgs] at hg
    exact ⟨ha.lt s g hs (left_mem.1 hg).2.1, (left_mem.1 hg).2.2⟩
  rw [hgs] at hml
  rw [hgs]
  have hsu : s < S := hs
  obtain ⟨ab, ao, x, rfl, hx, hcx⟩ := he.hby.at hs
  obtain rfl : ((adj.getD s 0 : Nat) : Int) = x := by
    rw [nats_get, List.getElem?_eq_getElem (by rw [ha.len]; exact hs)] at hx
    rw [List.getD_eq_getElem?_getD, List.getElem?_eq_getElem (by rw [ha.len]; exact hs)]
    exact Option.some.inj hx
  have hbn := bits_andNot_nat (adj.getD s 0) t (by omega) (by omega)
  have hdl : adj.getD s 0 &&& (65535 - t) < 65536 := by have : adj.getD s 0 &&& (65535 - t) ≤ adj.getD s 0 := Nat.and_le_left; omega
  generalize adj.getD s 0 = a at *
  generalize a &&& (65535 - t) = d at *
  have HM : Hid (∀ w, Calls Try.prog 87 #[.int .i64 d] w fun e w' => ∃ A n c, e = .returned (.slice A n c) ∧ RdM w.heap.size w' A n c (mem d) ∧ Below w.heap.size w w') := (show ∀ w, _ from fun w => members_any d w hdl)
  have c1 := he.hbc
  have c2 := he.hbb
  have c3 := hv.cellT
  have HE := Lib.hid he
  have HV := Lib.hid hv
  have HREC := Lib.hid hrec
  have HOKK := Lib.hid hok
  have HGS := Lib.hid hgs
  have HMEM := Lib.hid hmem
  have HML := Lib.hid hml
  have HN := Lib.hid hn
  have HC := Lib.hid (And.intro c1 (And.intro c2 (And.intro c3 hcx)))
  have e86 := enters86
  clear he hv hrec hok hgs hmem hml hn hx hs hdl
  go_enter Try.func86, Try.ntmps86
  go_wp2_with fail
  go_region_held3 (fun W => W.cell? ⟨bc, 0, none⟩ = some (.pointer (some ⟨bb, 0, none⟩)) ∧ W.cell? ⟨bb, 3, none⟩ = some (.slice (some ⟨ab, ao, none⟩) S S) ∧ W.cell? ⟨tb, 0, none⟩ = some (.int .i64 t) ∧ W.cell? ⟨ab, ao + s, none⟩ = some (.int .i64 a))
    (first | go_keep | (have hw5 : Below w.heap.size w w5 := below_trans ((Below.refl _ w).drew) hb5; exact ⟨cell_below hw5 HC.out.1, cell_below hw5 HC.out.2.1, cell_below hw5 HC.out.2.2.1, cell_below hw5 HC.out.2.2.2⟩))
    ((go_at_call 87; refine (HM.out _).mono ?_; rintro e w5 ⟨A, n, c, rfl, hrm, hb5⟩))
  have HW5 : Hid (Below w.heap.size w w5) := (show Below _ _ _ from below_trans ((Below.refl _ w).drew) hb5)
  have HR := Lib.hid hrm.rd
  have HFR : Hid (Fr w.heap.size A) := (show Fr _ _ from hrm.fr)
  have hnl : gs.length = n := by
    have h1 := hrm.rd.len
    rw [HML.out, List.length_map] at h1
    exact h1
  have hn16 : n ≤ 16 := by have := hrm.rd.len; have := mem_len d; omega
  have HNL := Lib.hid hnl
  rw [HML.out] at HR
  clear hrm hb5 c1 c2 c3 hcx hnl
  go_wp2_with fail
  go_loopw [9, 23] (fun gv i wr => ∃ (j : Nat) (u : Value) (m' : List Int) (t' : Nat), j ≤ n ∧ i = .int .i64 j ∧ gv = u ∧ Hid (fl (fnd adj k) s gs m t = fl (fnd adj k) s (gs.drop j) m' t') ∧ Hid (Ok S G m' t') ∧ Hid (Sub t t') ∧ Hid (Var ob tb m' t' wr) ∧ Hid (Two ob tb w wr) ∧ Hid (Two ob tb w5 wr)) (fun _ i _ => n - (intOf i).toNat)
  case atStart => exact ⟨0, _, m, t, Nat.zero_le _, rfl, rfl, rfl, HOKK.out, Sub.refl t, HV.out.below HW5.out, Two.of HW5.out, Two.refl _ _ _⟩
  case round =>
    obtain ⟨j, u, m', t', hj, rfl, rfl, HI, HOK2, HSU, HVR, HTW, HT5⟩ := hrel
    by_cases hlt : j < n
    · obtain ⟨b, off, x, rfl, hx, hcx⟩ := HR.out.at hlt
      obtain ⟨g, hg⟩ : ∃ g, gs[j]? = some g := ⟨_, List.getElem?_eq_getElem (by rw [HNL.out]; exact hlt)⟩
      obtain rfl : (g : Int) = x := by
        rw [List.getElem?_map, hg] at hx
        exact Option.some.inj hx
      have hfb := HFR.out b off none rfl
      have hcw := HT5.out.cell hcx (by omega) (by omega)
      have hdr : gs.drop j = g :: gs.drop (j + 1) := drop_of hg
      obtain ⟨hgG, hgt⟩ := HMEM.out g (List.mem_of_getElem? hg)
      have hok1 := HOK2.out.or hgG
      have ht'b := HOK2.out.small hG
      have hPb : 2 ^ g < 4096 := Nat.pow_lt_pow_right (n := 12) (by omega) (by omega)
      have hy63 : g ≤ 63 := by omega
      have hor := bits_or_nat t' (2 ^ g) (by omega) (by omega)
      have hcT := HVR.out.cellT
      have hfz : wr.frozen? ⟨tb, 0, none⟩ = false := frozen_of_heap2 HVR.out.ht
      have htbw : tb < wr.heap.size := (Array.getElem?_eq_some_iff.1 HVR.out.ht).1
      have HOK1 := Lib.hid hok1
      have HDR := Lib.hid hdr
      have HGT := Lib.hid hgt
      clear hx hg hcx hok1 hdr hgt
      cases hneg : decide (m'.getD g 0 < 0) with
      | true =>
        have hng := of_decide_eq_true hneg
        have HNG := Lib.hid hng
        have HRES : Hid (fl (fnd adj k) s gs m t = (true, m'.set g (s : Int), t' ||| 2 ^ g)) := (show _ = _ by rw [HI.out, HDR.out, fl, if_pos HNG.out])
        clear hneg
        go_wp2_with fail
        go_region
        go_wp2_with fail
        obtain ⟨W4, hW4⟩ : ∃ W4, W4 = (wr.setCell ⟨tb, 0, none⟩ (.int .i64 (bits BinOp.or IntKind.i64 (t' : Int) (wrap64 (2 ^ g))))).drew := ⟨_, rfl⟩
        rw [← hW4]
        have hV4 : Var ob tb m' (t' ||| 2 ^ g) W4 := by
          rw [hW4, wrap_pow g hPb, hor]
          exact (HVR.out.setT HN.out.n6).drew
        have hT4 : Two ob tb wr W4 := by
          rw [hW4]
          exact ((Two.refl _ _ _).set (.inr rfl) _).drew
        have hE4 := HE.out.two HN.out (HTW.out.trans hT4)
        have d1 := hE4.hoc
        have d2 := hE4.hfc
        have d3 := hV4.cellO (g := g) (by rw [HOK2.out.len]; exact hgG)
        have HV4 := Lib.hid hV4
        have HT4 := Lib.hid hT4
        have HE4 := Lib.hid hE4
        have hfz4 : W4.frozen? ⟨ob, g, none⟩ = false := frozen_of_heap2 hV4.ho
        have hob4 : ob < W4.heap.size := (Array.getElem?_eq_some_iff.1 hV4.ho).1
        clear hW4 hV4 hT4 hE4
        generalize m'.getD g 0 = y at *
        go_quiet (fail)
        go_wp2_with fail
        go_ret
        refine ⟨by rw [HRES.out]; rfl, ?_, ?_⟩
        · rw [HRES.out]
          exact (by first | exact HV4.out | exact HV4.out.drew | exact HV4.out.drewN _ : Var ob tb m' (t' ||| 2 ^ g) _).setO HN.out.n6
        · exact (by first | exact HTW.out.trans HT4.out | exact (HTW.out.trans HT4.out).drew | exact (HTW.out.trans HT4.out).drewN _ : Two ob tb w _).set (.inl rfl) _
      | false =>
        have hng := of_decide_eq_false hneg
        have HNG := Lib.hid hng
        obtain ⟨r, hr, er⟩ : ∃ r : Nat, r < S ∧ m'.getD g 0 = (r : Int) := by
          rcases HOK2.out.rng g hgG with e | e
          · omega
          · exact e
        have hun := un_lt (t := t) (t' := t' ||| 2 ^ g) (by omega) HGT.out (by rw [or_bit]; simp) (HSU.out.trans (Sub.or _ _))
        have HREC2 := Lib.hid (fun w' h1 h2 => HREC.out r m' (t' ||| 2 ^ g) w' hr HOK1.out hun h1 h2)
        have HER := Lib.hid er
        have HR0 := Lib.hid hr
        clear hneg hng hr hun
        go_wp2_with fail
        go_region
        go_wp2_with fail
        obtain ⟨W4, hW4⟩ : ∃ W4, W4 = (wr.setCell ⟨tb, 0, none⟩ (.int .i64 (bits BinOp.or IntKind.i64 (t' : Int) (wrap64 (2 ^ g))))).drew := ⟨_, rfl⟩
        rw [← hW4]
        have hV4 : Var ob tb m' (t' ||| 2 ^ g) W4 := by
          rw [hW4, wrap_pow g hPb, hor]
          exact (HVR.out.setT HN.out.n6).drew
        have hT4 : Two ob tb wr W4 := by
          rw [hW4]
          exact ((Two.refl _ _ _).set (.inr rfl) _).drew
        have hE4 := HE.out.two HN.out (HTW.out.trans hT4)
        have d1 := hE4.hoc
        have d2 := hE4.hfc
        have d3 := hV4.cellO (g := g) (by rw [HOK2.out.len]; exact hgG)
        have HV4 := Lib.hid hV4
        have HT4 := Lib.hid hT4
        have HE4 := Lib.hid hE4
        have hfz4 : W4.frozen? ⟨ob, g, none⟩ = false := frozen_of_heap2 hV4.ho
        have hob4 : ob < W4.heap.size := (Array.getElem?_eq_some_iff.1 hV4.ho).1
        clear hW4 hV4 hT4 hE4
        rw [HER.out] at d3
        obtain ⟨res, hres⟩ : ∃ res, fnd adj k r m' (t' ||| 2 ^ g) = res := ⟨_, rfl⟩
        obtain ⟨fb, m2, t2⟩ := res
        have hok3 := fnd_ok ha k r m' (t' ||| 2 ^ g) HR0.out HOK1.out
        rw [hres] at HREC2 hok3
        simp only at hok3
        have HOK3 := Lib.hid hok3.1
        have HSU3 := Lib.hid hok3.2
        have HRES := Lib.hid hres
        clear hres hok3
        cases fb with
        | true =>
          have HFIN : Hid (fl (fnd adj k) s gs m t = (true, m2.set g (s : Int), t2)) := (show _ = _ by
            rw [HI.out, HDR.out, fl, if_neg (by have := HNG.out; omega), HER.out, Int.toNat_natCast, HRES.out, if_pos rfl])
          go_region_with ((go_at_fn 86; refine (HREC2.out _ (by first | exact HE4.out.two HN.out (Two.refl _ _ _).drew | exact HE4.out.two HN.out ((Two.refl _ _ _).drewN _)) (by first | exact HV4.out.drew | exact HV4.out.drewN _)).mono ?_; rintro e w6 ⟨rfl, hv6, ht6⟩))
          all_goals
            have HT6 : Hid (Two ob tb W4 w6) := (show Two _ _ _ _ by first | exact (Two.refl _ _ _).drew.trans ht6 | exact ((Two.refl _ _ _).drewN _).trans ht6)
            have d4 := (HE4.out.two HN.out HT6.out).hoc
            have d5 : w6.frozen? ⟨ob, g, none⟩ = false := frozen_of_heap2 hv6.ho
            have d6 := hv6.cellO (g := g) (by have := HOK3.out.len; omega)
            have HV6 := Lib.hid hv6
            have hob6 : ob < w6.heap.size := (Array.getElem?_eq_some_iff.1 hv6.ho).1
            clear hv6 ht6 d1 d2 d3
            go_wp2_with fail
            go_ret
            refine ⟨by rw [HFIN.out]; rfl, ?_, ?_⟩
            · rw [HFIN.out]
              exact HV6.out.setO HN.out.n6
            · exact (HTW.out.trans (HT4.out.trans HT6.out)).set (.inl rfl) _
        | false =>
          have HFIN : Hid (fl (fnd adj k) s gs m t = fl (fnd adj k) s (gs.drop (j + 1)) m2 t2) := (show _ = _ by
            rw [HI.out, HDR.out, fl, if_neg (by have := HNG.out; omega), HER.out, Int.toNat_natCast, HRES.out, if_neg (by simp)])
          go_region_with ((go_at_fn 86; refine (HREC2.out _ (by first | exact HE4.out.two HN.out (Two.refl _ _ _).drew | exact HE4.out.two HN.out ((Two.refl _ _ _).drewN _)) (by first | exact HV4.out.drew | exact HV4.out.drewN _)).mono ?_; rintro e w6 ⟨rfl, hv6, ht6⟩))
          all_goals
            have HT6 : Hid (Two ob tb W4 w6) := (show Two _ _ _ _ by first | exact (Two.refl _ _ _).drew.trans ht6 | exact ((Two.refl _ _ _).drewN _).trans ht6)
            have HV6 := Lib.hid hv6
            clear hv6 ht6 d1 d2 d3
            go_wp2_with fail
            go_roundw
            case rel => exact ⟨j + 1, _, m2, t2, by omega, by first | rfl | go_num, rfl, HFIN.out, HOK3.out, HSU.out.trans ((Sub.or _ _).trans HSU3.out), HV6.out, HTW.out.trans (HT4.out.trans HT6.out), HT5.out.trans (HT4.out.trans HT6.out)⟩
            case measure => simp [intOf]; omega
    · obtain rfl : j = n := by omega
      have HFIN : Hid (fl (fnd adj k) s gs m t = (false, m', t')) := (show _ = _ by rw [HI.out, List.drop_eq_nil_of_le (by rw [HNL.out]; exact Nat.le_refl _)]; rfl)
      go_wp2_with fail
      go_ret
      refine ⟨by rw [HFIN.out]; rfl, ?_, HTW.out⟩
      rw [HFIN.out]
      exact HVR.out
/-- what a call of the search answers and leaves -/
theorem find_any {bc oc fc bb ob tb S G : Nat} {Ab : Option Addr} {adj : List Nat} (ha : Adj S G adj) (hS : S ≤ 8) (hn : Nes bc oc fc bb ob tb Ab) (k : Nat) : ∀ (s : Nat) (m : List Int) (t : Nat) (w : World), s < S → Ok S G m t → un t ≤ k →
    Env bc oc fc bb ob tb Ab S G adj w → Var ob tb m t w →
    Calls Try.prog 86 #[.int .i64 s, .pointer (some ⟨tb, 0, none⟩), .pointer (some ⟨bc, 0, none⟩), .pointer (some ⟨oc, 0, none⟩), .pointer (some ⟨fc, 0, none⟩)] w (FindPost ob tb w (fnd adj k s m t)) := by
  induction k with
  | zero =>
    intro s m t w hs hok hu he hv
    have hnil : left (adj.getD s 0) t = [] := by
      refine List.filter_eq_nil_iff.2 fun i hi => ?_
      intro hb
      have : i ∈ (List.range 16).filter fun i => !t.testBit i := by
        rw [Bool.and_eq_true] at hb
        exact List.mem_filter.2 ⟨hi, hb.2⟩
      have := List.length_pos_of_mem this
      unfold un at hu
      omega
    have h := find_step ha hS hn 0 s m t w hs hok he hv (fun s' m' t' w' _ _ hlt _ _ => by omega)
    rw [hnil] at h
    exact h
  | succ k ih =>
    intro s m t w hs hok hu he hv
    exact find_step ha hS hn k s m t w hs hok he hv (fun s' m' t' w' hs' hok' hlt he' hv' => ih s' m' t' w' hs' hok' (by omega) he' hv')
end Go.Proofs.Ytcmjpcmdgnbbpaa.PE
