/- Making a box of cells: which cells may be, and which gears each sensor has. -/
import Derived.Test.YtcmjpcmdgnbbpaaLists
namespace Go.Proofs.Ytcmjpcmdgnbbpaa
open Go.RowKit

/-- Are these cells pairs of such numbers, in strictly ascending order? -/
def okFrom (s g : Int) : Option (Int × Int) → List (Int × Int) → Bool
  | _, [] => true
  | prev, c :: cs => withinB c.1 0 (s - 1) && withinB c.2 0 (g - 1) && (match prev with | none => true | some p => decide (cmpL [p.1, p.2] [c.1, c.2] < 0)) && okFrom s g (some c) cs
def okCells (s g : Int) (cells : List (Int × Int)) : Bool := withinB s 1 8 && withinB g 1 12 && okFrom s g none cells
def prevOf (cells : List (Int × Int)) : Nat → Option (Int × Int)
  | 0 => none
  | k + 1 => cells[k]?
/-- The gears of each sensor, bit by bit. -/
def bysTo (s : Nat) (cells : List (Int × Int)) (k : Nat) : List Nat :=
  (cells.take k).foldl (fun acc c => acc.set c.1.toNat (acc.getD c.1.toNat 0 ||| 2 ^ c.2.toNat)) (List.replicate s 0)
theorem bysTo_succ {s k : Nat} {cells : List (Int × Int)} {c : Int × Int} (h : cells[k]? = some c) :
    bysTo s cells (k + 1) = (bysTo s cells k).set c.1.toNat ((bysTo s cells k).getD c.1.toNat 0 ||| 2 ^ c.2.toNat) := by
  unfold bysTo; rw [take_succ_of h, List.foldl_append]; rfl
theorem bysTo_len (s : Nat) (cells : List (Int × Int)) (k : Nat) : (bysTo s cells k).length = s := by
  unfold bysTo
  generalize cells.take k = l
  have : ∀ (l : List (Int × Int)) (acc : List Nat), (l.foldl (fun acc c => acc.set c.1.toNat (acc.getD c.1.toNat 0 ||| 2 ^ c.2.toNat)) acc).length = acc.length := by
    intro l
    induction l with
    | nil => intro acc; rfl
    | cons c l ih => intro acc; simp only [List.foldl_cons]; rw [ih]; simp
  rw [this]; simp
def nats (xs : List Nat) : List Int := xs.map fun x : Nat => (x : Int)
theorem nats_get (xs : List Nat) (k : Nat) : (nats xs)[k]? = (xs[k]?).map fun x : Nat => (x : Int) := by simp [nats]
def Small (bys : List Nat) : Prop := ∀ k : Nat, bys.getD k 0 < 4096
theorem small_set {bys : List Nat} (h : Small bys) (i v : Nat) (hv : v < 4096) : Small (bys.set i v) := by
  intro k
  rw [List.getD_eq_getElem?_getD, List.getElem?_set]
  split
  · split
    · exact hv
    · simp
  · have := h k
    rwa [List.getD_eq_getElem?_getD] at this
theorem small_bysTo {s k : Nat} {cells : List (Int × Int)} (hc : ∀ (j : Nat) (c : Int × Int), j < k → cells[j]? = some c → c.2 < 12) : Small (bysTo s cells k) := by
  induction k with
  | zero =>
    intro j
    simp [bysTo, List.getD_eq_getElem?_getD, List.getElem?_replicate]
    split <;> simp
  | succ k ih =>
    have ih' := ih (fun j c hj h => hc j c (by omega) h)
    by_cases hk : k < cells.length
    · have hget := List.getElem?_eq_getElem hk
      rw [bysTo_succ hget]
      refine small_set ih' _ _ (Nat.or_lt_two_pow (n := 12) (ih' _) ?_)
      have := hc k _ (by omega) hget
      exact Nat.pow_lt_pow_right (by omega) (by omega)
    · have : cells.take (k + 1) = cells.take k := by rw [List.take_of_length_le (by omega), List.take_of_length_le (by omega)]
      unfold bysTo at ih' ⊢
      rw [this]; exact ih'

/-- what making a box leaves -/
def NewBoxPost (s g : Int) (cells : List (Int × Int)) (Ac : Option Addr) (n c : Nat) (w : World) (e : Ending) (w' : World) : Prop :=
  Below w.heap.size w w' ∧
  ((okCells s g cells = false ∧ e = .returned (.tuple #[.pointer none, .bool false])) ∨
   (okCells s g cells = true ∧ ∃ bb : Nat, e = .returned (.tuple #[.pointer (some ⟨bb, 0, none⟩), .bool true]) ∧
      ∃ Ab : Option Addr, w'.heap[bb]? = some (.cells #[.int .i64 s, .int .i64 g, .slice Ac n c, .slice Ab s.toNat s.toNat] 115 (0, 0)) ∧
        RdI w' Ab s.toNat s.toNat (nats (bysTo s.toNat cells cells.length)) ∧ Small (bysTo s.toNat cells cells.length)))

theorem run_make22n (n : Nat) (hn : n ≤ 1000) (w : World) : (Instr.makeSlice 22 (.int .i64 n) (.int .i64 n)).run Try.prog w = .ok (.slice (some ⟨w.heap.size, 0, none⟩) n n) (w.alloc (.cells (madeCells #[.int .i64 0] n) 3)) := by
  obtain ⟨i, hi, hz0, hz1, hz2⟩ := info_parts info3
  have h := run_make (P := Try.prog) w 22 3 i (.int .i64 0) Try.underlying22 hi hz0 .i64 .i64 n n (by omega) (by omega) (by rw [hz2]; omega) (by omega)
  rw [hz1] at h
  simpa [Value.cells] using h
theorem heap_two (w : World) (o1 o2 : Obj) (k : Nat) : ((w.alloc o1).alloc o2).heap[k]? = if k = w.heap.size + 1 then some o2 else if k = w.heap.size then some o1 else w.heap[k]? := by
  show ((w.heap.push o1).push o2)[k]? = _
  simp only [Array.getElem?_push, Array.size_push]
theorem made_zero (n : Nat) : madeCells #[.int .i64 0] n = (ints (nats (List.replicate n 0))).toArray := by
  apply Array.ext
  · simp [madeCells, ints, nats]
  · intro i h1 h2
    simp [madeCells, ints, nats, Nat.mod_one]
theorem cell_of_heap2 {w : World} {b o : Nat} {c : Array Value} {t : TypeId} {z : Nat × Nat} {v : Value} (h : w.heap[b]? = some (.cells c t z)) (hv : c[o]? = some v) : w.cell? ⟨b, o, none⟩ = some v := by
  simp [World.cell?, h, hv]
theorem frozen_of_heap2 {w : World} {b o : Nat} {c : Array Value} {t : TypeId} (h : w.heap[b]? = some (.cells c t (0, 0))) : w.frozen? ⟨b, o, none⟩ = false := by
  simp [World.frozen?, h]
theorem intsnats_set (l : List Nat) (i v : Nat) : (ints (nats l)).toArray.setIfInBounds i (.int .i64 (v : Int)) = (ints (nats (l.set i v))).toArray := by
  simp [ints, nats, List.map_set]
theorem wrap_pow (n : Nat) (h : 2 ^ n < 4096) : wrap64 ((2 : Int) ^ n) = ((2 ^ n : Nat) : Int) := by
  have e : ((2 : Int) ^ n) = ((2 ^ n : Nat) : Int) := by simp
  rw [e]
  generalize 2 ^ n = q at *
  exact w64 _ (by omega) (by omega)
/-- behind a round of making a box -/
theorem RdI.two {w : World} {b off : Nat} {x y : Int} (h1 : w.cell? ⟨b, off, none⟩ = some (.int .i64 x)) (h2 : w.cell? ⟨b, off + 1, none⟩ = some (.int .i64 y)) : RdI w (some ⟨b, off, none⟩) 2 2 [x, y] :=
  ⟨rfl, by omega, by omega, fun e => (by cases e), fun k v hv => by
    have hk := (List.getElem?_eq_some_iff.1 hv).1
    match k, hk with
    | 0, _ => obtain rfl : x = v := by simpa using hv
              exact ⟨_, _, rfl, h1⟩
    | 1, _ => obtain rfl : y = v := by simpa using hv
              exact ⟨_, _, rfl, h2⟩⟩
theorem cell_new {W : World} {cs : Array Value} {t : TypeId} {b j : Nat} (hb : b = W.heap.size) : (W.alloc (.cells cs t)).cell? ⟨b, j, none⟩ = cs[j]? := by
  subst hb
  have h : (W.alloc (.cells cs t)).heap[W.heap.size]? = some (.cells cs t (0, 0)) := heap_alloc_new W _
  unfold World.cell?
  simp only []
  rw [h]
  simp
theorem nb_step {w wr : World} {l : List Nat} {bc : Array Value} {X : Obj} {m i v : Nat} (hb : Below w.heap.size w wr) (hy : wr.heap[w.heap.size]? = some (.cells (ints (nats l)).toArray 3 (0, 0)))
    (hbb : wr.heap[w.heap.size + 1]? = some (.cells bc 115 (0, 0))) :
    Below w.heap.size w ((((wr.alloc X).drewN m)).setCell ⟨w.heap.size, i, none⟩ (.int .i64 (v : Int))) ∧
    ((((wr.alloc X).drewN m)).setCell ⟨w.heap.size, i, none⟩ (.int .i64 (v : Int))).heap[w.heap.size]? = some (.cells (ints (nats (l.set i v))).toArray 3 (0, 0)) ∧
    ((((wr.alloc X).drewN m)).setCell ⟨w.heap.size, i, none⟩ (.int .i64 (v : Int))).heap[w.heap.size + 1]? = some (.cells bc 115 (0, 0)) := by
  have h1 : w.heap.size < wr.heap.size := (Array.getElem?_eq_some_iff.1 hy).1
  have h2 : w.heap.size + 1 < wr.heap.size := (Array.getElem?_eq_some_iff.1 hbb).1
  have g1 : ((wr.alloc X).drewN m).heap[w.heap.size]? = some (.cells (ints (nats l)).toArray 3 (0, 0)) := (Below.heap_alloc wr X _ h1).trans hy
  have g2 : ((wr.alloc X).drewN m).heap[w.heap.size + 1]? = some (.cells bc 115 (0, 0)) := (Below.heap_alloc wr X _ h2).trans hbb
  refine ⟨(below_drewN (below_alloc hb _) _).setCell (Nat.le_refl _) _, ?_, ?_⟩
  · rw [heap_setCell_same _ _ _ _ _ _ _ g1, intsnats_set]
  · rw [Below.heap_setCell _ _ _ _ (by simp)]; exact g2
theorem withinB_iff (n l h : Int) : withinB n l h = true ↔ l ≤ n ∧ n ≤ h := by simp [withinB]

set_option maxRecDepth 100000 in
set_option maxHeartbeats 8000000 in
theorem newBox_any (s g : Int) (A : Option Addr) (n c : Nat) (cells : List (Int × Int)) (w : World) (h : RdP w A n c cells) :
    Calls Try.prog 68 #[.int .i64 s, .int .i64 g, .slice A n c] w (NewBoxPost s g cells A n c w) := by
  have hm := h.size
  have H := Lib.hid h
  have HOK : Hid (okCells s g cells = (withinB s 1 8 && withinB g 1 12 && okFrom s g none cells)) := (show _ = _ from rfl)
  clear h
  cases hs : withinB s 1 8 with
  | false =>
    have HS := Lib.hid hs
    rw [hs] at HOK
    clear hs
    go_enter Try.func68, Try.ntmps68
    go_wp2_with (go_at_call 62; refine (within_any _ _ _ _).mono ?_; (try rw [HS.out]); rintro e w' ⟨rfl, rfl⟩)
    go_ret2
    exact ⟨Below.refl _ _, .inl ⟨by rw [HOK.out]; rfl, rfl⟩⟩
  | true =>
    cases hg : withinB g 1 12 with
    | false =>
      have HS := Lib.hid hs
      have HG := Lib.hid hg
      rw [hs, hg] at HOK
      clear hs hg
      go_enter Try.func68, Try.ntmps68
      go_wp2_with (first
        | (go_at_call 62; (with_reducible refine (within_any s 1 8 _).mono ?_); rw [HS.out]; rintro e w' ⟨rfl, rfl⟩)
        | (go_at_call 62; (with_reducible refine (within_any g 1 12 _).mono ?_); rw [HG.out]; rintro e w' ⟨rfl, rfl⟩))
      go_ret2
      exact ⟨Below.refl _ _, .inl ⟨by rw [HOK.out]; rfl, rfl⟩⟩
    | true =>
      have h1 := (withinB_iff _ _ _).1 hs
      have h2 := (withinB_iff _ _ _).1 hg
      obtain ⟨S, rfl⟩ := Int.eq_ofNat_of_zero_le (show 0 ≤ s by omega)
      obtain ⟨G, rfl⟩ := Int.eq_ofNat_of_zero_le (show 0 ≤ g by omega)
      have HS := Lib.hid hs
      have HG := Lib.hid hg
      rw [hs, hg] at HOK
      have hmk := run_make22n S (by omega)
      clear hs hg
      go_enter Try.func68, Try.ntmps68
      go_wp2_with (first
        | (go_at_call 62; (with_reducible refine (within_any _ 1 8 _).mono ?_); rw [HS.out]; rintro e w' ⟨rfl, rfl⟩)
        | (go_at_call 62; (with_reducible refine (within_any _ 1 12 _).mono ?_); rw [HG.out]; rintro e w' ⟨rfl, rfl⟩))
      go_loopw [28] (fun i wr => ∃ k : Nat, k ≤ n ∧ i = .int .i64 k ∧ Hid (Below w.heap.size w wr) ∧ Hid (wr.heap[w.heap.size]? = some (.cells (ints (nats (bysTo S cells k))).toArray 3 (0, 0))) ∧
          Hid (wr.heap[w.heap.size + 1]? = some (.cells #[.int .i64 S, .int .i64 G, .slice A n c, .slice (some ⟨w.heap.size, 0, none⟩) S S] 115 (0, 0))) ∧
          Hid (okFrom S G none cells = okFrom S G (prevOf cells k) (cells.drop k)) ∧ Hid (∀ (j : Nat) (c : Int × Int), j < k → cells[j]? = some c → c.2 < 12)) (fun i _ => n - (intOf i).toNat)
      case atStart =>
        refine ⟨0, Nat.zero_le _, rfl, below_a2 _ _ _, ?_, ?_, (show _ = _ from by simp [prevOf]), (show ∀ (j : Nat) (c : Int × Int), _ from fun j c hj => absurd hj (Nat.not_lt_zero _))⟩
        · exact (show _ = _ from by rw [heap_two, if_neg (by omega), if_pos rfl, made_zero]; rfl)
        · exact (show _ = _ from by rw [heap_two, if_pos rfl])
      case round =>
        obtain ⟨k, hk, rfl, HB, HY, HBB, HF, HLT⟩ := hrel
        by_cases hlt : k < n
        · obtain ⟨b, off, x, y, rfl, hp, hcx0, hcy0⟩ := H.out.at hlt
          have hcx := cell_below HB.out hcx0
          have hcy := cell_below HB.out hcy0
          have HCX0 := Lib.hid hcx0
          have HCY0 := Lib.hid hcy0
          have HP := Lib.hid hp
          have hbl : b < wr.heap.size := World.block_lt_of_cell? wr _ hcx
          have a1 : IntKind.i64.wrap ((S : Int) - 1) = (S : Int) - 1 := by rw [IntKind.wrap_i64]; omega
          have a2 : IntKind.i64.wrap ((G : Int) - 1) = (G : Int) - 1 := by rw [IntKind.wrap_i64]; omega
          have HF1 : Hid (okFrom S G none cells = (withinB x 0 ((S : Int) - 1) && withinB y 0 ((G : Int) - 1) && (match prevOf cells k with | none => true | some p => decide (cmpL [p.1, p.2] [x, y] < 0)) && okFrom S G (some (x, y)) (cells.drop (k + 1)))) := by
            show _ = _
            rw [HF.out, drop_of HP.out]; rfl
          clear hcx0 hcy0 hp
          have HX := Lib.hid (within_any x 0 ((S : Int) - 1))
          have HYY := Lib.hid (within_any y 0 ((G : Int) - 1))
          cases hx : withinB x 0 ((S : Int) - 1) with
          | false =>
            rw [hx] at HF1 HX
            clear hx
            go_wp2_with fail
            go_quiet ((first | (go_at_call 62; exact Calls.quiet_of_same ((HX.out _).mono fun _ _ ⟨a, b⟩ => ⟨a, b.symm⟩))))
            go_wp2_with fail
            go_ret2
            exact ⟨by repeat (first | exact HB.out | refine Below.drew ?_ | refine below_drewN ?_ _ | refine below_alloc ?_ _), .inl ⟨by rw [HOK.out, HF1.out]; simp, rfl⟩⟩
          | true =>
            cases hy : withinB y 0 ((G : Int) - 1) with
            | false =>
              rw [hx] at HF1 HX
              rw [hy] at HF1 HYY
              clear hx hy
              go_wp2_with fail
              go_quiet ((first | (go_at_call 62; with_reducible exact Calls.quiet_of_same ((HX.out _).mono fun _ _ ⟨a, b⟩ => ⟨a, b.symm⟩)) | (go_at_call 62; exact Calls.quiet_of_same ((HYY.out _).mono fun _ _ ⟨a, b⟩ => ⟨a, b.symm⟩))))
              go_wp2_with fail
              go_ret2
              exact ⟨by repeat (first | exact HB.out | refine Below.drew ?_ | refine below_drewN ?_ _ | refine below_alloc ?_ _), .inl ⟨by rw [HOK.out, HF1.out]; simp, rfl⟩⟩
            | true =>
              have hxb := (withinB_iff _ _ _).1 hx
              have hyb := (withinB_iff _ _ _).1 hy
              obtain ⟨xn, rfl⟩ := Int.eq_ofNat_of_zero_le (show 0 ≤ x by omega)
              obtain ⟨yn, rfl⟩ := Int.eq_ofNat_of_zero_le (show 0 ≤ y by omega)
              rw [hx] at HF1 HX
              rw [hy] at HF1 HYY
              have hlb := bysTo_len S cells k
              have hxl : xn < (bysTo S cells k).length := by omega
              obtain ⟨old, hold⟩ : ∃ old, (bysTo S cells k)[xn]? = some old := ⟨_, List.getElem?_eq_getElem hxl⟩
              have HSM := small_bysTo (s := S) (cells := cells) HLT.out
              have hob : old < 4096 := by
                have := HSM xn
                rw [List.getD_eq_getElem?_getD, hold] at this
                exact this
              have HBS : Hid (bysTo S cells (k + 1) = (bysTo S cells k).set xn (old ||| 2 ^ yn)) := by
                show _ = _
                rw [bysTo_succ HP.out, List.getD_eq_getElem?_getD]
                simp [hold]
              have hPb : 2 ^ yn < 4096 := Nat.pow_lt_pow_right (n := 12) (by omega) (by omega)
              have hcy1 : wr.cell? ⟨w.heap.size, xn, none⟩ = some (.int .i64 (old : Nat)) := by
                refine cell_of_heap2 HY.out ?_
                simp [ints, nats, hold]
              have hfz : wr.frozen? ⟨w.heap.size, xn, none⟩ = false := frozen_of_heap2 HY.out
              have hcb : wr.cell? ⟨w.heap.size + 1, 3, none⟩ = some (.slice (some ⟨w.heap.size, 0, none⟩) S S) := cell_of_heap2 HBB.out rfl
              have hsz1 : w.heap.size < wr.heap.size := (Array.getElem?_eq_some_iff.1 HY.out).1
              have hsz2 : w.heap.size + 1 < wr.heap.size := (Array.getElem?_eq_some_iff.1 HBB.out).1
              have HOB := Lib.hid hold
              clear hold hlb hxl HSM hx hy
              have hor := bits_or_nat old (2 ^ yn) (by omega) (by omega)
              cases k with
              | zero =>
                simp only [Nat.zero_mul, Nat.add_zero] at hcx hcy
                go_wp2_with fail
                go_quiet ((first | (go_at_call 62; with_reducible exact Calls.quiet_of_same ((HX.out _).mono fun _ _ ⟨a, b⟩ => ⟨a, b.symm⟩)) | (go_at_call 62; exact Calls.quiet_of_same ((HYY.out _).mono fun _ _ ⟨a, b⟩ => ⟨a, b.symm⟩))))
                go_wp2_with fail
                have hxS : (xn : Int) < (S : Int) := by omega
                have hy63 : yn ≤ 63 := by omega
                have hz0 : (w.heap.size < wr.heap.size + 1) := by omega
                have hz1 : (w.heap.size + 1 < wr.heap.size + 1) := by omega
                go_region
                go_wp2_with fail
                go_roundw
                case rel =>
                  have hst := nb_step (X := Obj.cells #[Value.int IntKind.i64 xn, Value.int IntKind.i64 yn] 69) (m := nq + 1) (i := xn) (v := old ||| 2 ^ yn) HB.out HY.out HBB.out
                  rw [← HBS.out, ← hor, ← wrap_pow yn hPb] at hst
                  exact ⟨0 + 1, by omega, by first | rfl | go_num, hst.1, hst.2.1, hst.2.2, (show _ = _ by rw [HF1.out]; simp [prevOf, HP.out]), (show ∀ (j : Nat) (c : Int × Int), _ from fun j c hj hc => by
                    by_cases hjk : j < 0
                    · exact HLT.out j c hjk hc
                    · obtain rfl : j = 0 := by omega
                      rw [HP.out] at hc
                      cases hc
                      show (yn : Int) < 12
                      omega)⟩
                case measure => simp [intOf] <;> omega
              | succ k =>
                obtain ⟨b', off', x', y', e', hp', gx0, gy0⟩ := H.out.at (show k < n by omega)
                cases e'
                have gx := cell_below HB.out gx0
                have gy := cell_below HB.out gy0
                have hxS : (xn : Int) < (S : Int) := by omega
                have hy63 : yn ≤ 63 := by omega
                have hz0 : (w.heap.size < wr.heap.size + 1) := by omega
                have hz1 : (w.heap.size + 1 < wr.heap.size + 1) := by omega
                have HCMP : Hid (∀ nq, Calls Try.prog 73 #[.slice (some ⟨b, off + k * 2, none⟩) 2 2, .slice (some ⟨wr.heap.size, 0, none⟩) 2 2] ((wr.alloc (Obj.cells #[Value.int IntKind.i64 xn, Value.int IntKind.i64 yn] 69)).drewN nq) fun e w' =>
                    e = .returned (.int .i64 (cmpL [x', y'] [(xn : Int), (yn : Int)])) ∧ ∃ m, w' = (wr.alloc (Obj.cells #[Value.int IntKind.i64 xn, Value.int IntKind.i64 yn] 69)).drewN m) := by
                  show ∀ nq, _
                  intro nq
                  refine (compareL_any _ _ _ _ _ _ [x', y'] [(xn : Int), (yn : Int)] _ ?_ ?_).mono fun e w' ⟨he, hw⟩ => ⟨he, nq, hw.symm⟩
                  · exact RdI.two (cell_below (below_drewN (below_a1 _ _) _) gx) (cell_below (below_drewN (below_a1 _ _) _) gy)
                  · exact RdI.two (cell_new rfl) (cell_new rfl)
                have hpv : prevOf cells (k + 1) = some (x', y') := hp'
                rw [hpv] at HF1
                have HF2 : Hid (okFrom S G none cells = (true && true && decide (cmpL [x', y'] [(xn : Int), (yn : Int)] < 0) && okFrom S G (some ((xn : Int), (yn : Int))) (cells.drop (k + 1 + 1)))) := (show _ = _ from HF1.out)
                have hbd := cmpL_bd [x', y'] [(xn : Int), (yn : Int)]
                have a3 : IntKind.i64.wrap ((k : Int) + 1 - 1) = (k : Int) := by rw [IntKind.wrap_i64]; omega
                clear gx0 gy0 gx gy hp' hpv
                generalize cmpL [x', y'] [(xn : Int), (yn : Int)] = cc at *
                by_cases hcc : cc < 0
                · have a5 : ¬ (0 ≤ cc) := by omega
                  go_wp2_with fail
                  go_quiet ((first | (go_at_call 62; with_reducible exact Calls.quiet_of_same ((HX.out _).mono fun _ _ ⟨a, b⟩ => ⟨a, b.symm⟩)) | (go_at_call 62; exact Calls.quiet_of_same ((HYY.out _).mono fun _ _ ⟨a, b⟩ => ⟨a, b.symm⟩)) | (go_at_call 73; exact HCMP.out _)))
                  go_wp2_with fail
                  go_region
                  go_wp2_with fail
                  go_roundw
                  case rel =>
                    have hst := nb_step (X := Obj.cells #[Value.int IntKind.i64 xn, Value.int IntKind.i64 yn] 69) (m := nq + 1) (i := xn) (v := old ||| 2 ^ yn) HB.out HY.out HBB.out
                    rw [← HBS.out, ← hor, ← wrap_pow yn hPb] at hst
                    exact ⟨k + 1 + 1, by omega, by first | rfl | go_num, hst.1, hst.2.1, hst.2.2, (show _ = _ by rw [HF2.out]; simp [prevOf, HP.out, hcc]), (show ∀ (j : Nat) (c : Int × Int), _ from fun j c hj hc => by
                      by_cases hjk : j < k + 1
                      · exact HLT.out j c hjk hc
                      · obtain rfl : j = k + 1 := by omega
                        rw [HP.out] at hc
                        cases hc
                        show (yn : Int) < 12
                        omega)⟩
                  case measure => simp [intOf] <;> omega
                · have a5 : 0 ≤ cc := by omega
                  go_wp2_with fail
                  go_quiet ((first | (go_at_call 62; with_reducible exact Calls.quiet_of_same ((HX.out _).mono fun _ _ ⟨a, b⟩ => ⟨a, b.symm⟩)) | (go_at_call 62; exact Calls.quiet_of_same ((HYY.out _).mono fun _ _ ⟨a, b⟩ => ⟨a, b.symm⟩)) | (go_at_call 73; exact HCMP.out _)))
                  go_wp2_with fail
                  go_ret2
                  exact ⟨by repeat (first | exact HB.out | refine Below.drew ?_ | refine below_drewN ?_ _ | refine below_alloc ?_ _), .inl ⟨by rw [HOK.out, HF2.out, show decide (cc < 0) = false by simp; omega]; simp, rfl⟩⟩
        · obtain rfl : k = n := by omega
          have hlc : cells.length = k := H.out.len
          have HLC := Lib.hid hlc; clear hlc
          go_wp2_with fail
          go_ret2
          refine ⟨HB.out, .inr ⟨?_, w.heap.size + 1, rfl, some ⟨w.heap.size, 0, none⟩, HBB.out, ?_, ?_⟩⟩
          · rw [HOK.out, HF.out, List.drop_eq_nil_of_le (by rw [HLC.out]; omega)]; simp [okFrom]
          · rw [HLC.out]
            refine ⟨by simp [nats, bysTo_len], by simp, by simp; omega, fun e => (by cases e), fun j x hx => ⟨_, _, rfl, cell_of_heap2 HY.out ?_⟩⟩
            simpa [ints] using hx
          · rw [HLC.out]
            exact small_bysTo HLT.out
end Go.Proofs.Ytcmjpcmdgnbbpaa
