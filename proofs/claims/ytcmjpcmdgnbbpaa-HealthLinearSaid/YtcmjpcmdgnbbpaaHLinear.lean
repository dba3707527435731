/- What the call of the law HealthLinear answers: true. -/
import Derived.Test.YtcmjpcmdgnbbpaaHLinW
import Derived.Test.YtcmjpcmdgnbbpaaHWorks
import Derived.Test.YtcmjpcmdgnbbpaaHAllocs
namespace Go.Proofs.Ytcmjpcmdgnbbpaa.PH
open Go.RowKit Go.Proofs.YtcmjpcmdgnbbpaaW.PrintWords Go.Proofs.YtcmjpcmdgnbbpaaW.PrintLast Go.Proofs.YtcmjpcmdgnbbpaaW.PrintMore
set_option linter.unusedVariables false
set_option linter.unusedSimpArgs false
theorem cellB {w : World} {g : Nat} {x y : Value} {t : TypeId} (h : w.heap[g]? = some (.cells #[x, y] t (0, 0))) : w.cell? ⟨g, 0, none⟩ = some x ∧ w.cell? ⟨g, 1, none⟩ = some y ∧ w.frozen? ⟨g, 0, none⟩ = false := by
  refine ⟨?_, ?_, ?_⟩ <;> simp [World.cell?, World.frozen?, h]
def put2 (W : World) (p : Nat) (u v : Value) : World := (W.setCell ⟨p, 0, none⟩ u).setCell ⟨p, 1, none⟩ v
theorem put2_at {W : World} {p : Nat} {x y u v : Value} (h : W.heap[p]? = some (.cells #[x, y] 52 (0, 0))) : (put2 W p u v).heap[p]? = some (.cells #[u, v] 52 (0, 0)) := by
  have := blk_set (blk_set h 0 u) 1 v
  simpa [put2] using this
theorem put2_far {W : World} {p k : Nat} {u v : Value} (h : k ≠ p) : (put2 W p u v).heap[k]? = W.heap[k]? := by
  unfold put2
  rw [Below.heap_setCell _ _ _ _ h, Below.heap_setCell _ _ _ _ h]
theorem mul_bdL (y : Int) (D : Nat) (hy : -100 ≤ y ∧ y ≤ 100) (hD : D ≤ 216) : -21600 ≤ y * (D : Int) ∧ y * (D : Int) ≤ 21600 := by
  have h1 := Int.mul_le_mul_of_nonneg_right hy.1 (show (0 : Int) ≤ (D : Int) by omega)
  have h2 := Int.mul_le_mul_of_nonneg_right hy.2 (show (0 : Int) ≤ (D : Int) by omega)
  omega
theorem put2_below {B : Nat} {w W : World} {p : Nat} {u v : Value} (h : Below B w W) (hp : B ≤ p) : Below B w (put2 W p u v) := (h.setCell hp u).setCell hp v
theorem cellB1 {w : World} {g : Nat} {x y : Value} {t : TypeId} (h : w.heap[g]? = some (.cells #[x, y] t (0, 0))) : w.frozen? ⟨g, 1, none⟩ = false := by simp [World.frozen?, h]
set_option maxHeartbeats 4000000 in
set_option maxRecDepth 100000 in
theorem linear_no (A0 : Option Addr) (c0 : Nat) (xs : List Int) (A1 : Option Addr) (c1 : Nat) (ms : List Int) (A2 : Option Addr) (c2 : Nat) (os : List Int) (n : Int) (w : World)
    (h0 : Kd.C (Kd.int .i64) w A0 xs.length xs) (g0 : xs.length ≤ c0) (h1 : Kd.C (Kd.int .i64) w A1 ms.length ms) (g1 : ms.length ≤ c1) (hno : vibB xs ms = false ∨ n < 1 ∨ 24 < n) :
    Calls Try.prog 11 #[.agg #[.slice A0 xs.length c0, .slice A1 ms.length c1], .slice A2 os.length c2, .int .i64 n] w fun e w' => e = .returned (.bool true) ∧ Below w.heap.size w w' := by
  have HCK : Hid (∀ W, Below w.heap.size w W → Calls Try.prog 36 #[.agg #[.slice A0 xs.length c0, .slice A1 ms.length c1]] W fun e w' => e = .returned (.int .i64 (vibE xs ms)) ∧ Below W.heap.size W w') :=
    (show ∀ W, _ from fun W hb => swashplateref08_Check.calls A0 c0 xs A1 c1 ms _ W (Kd.C_below h0 hb) g0 (Kd.C_below h1 hb) g1 (RCheck_f xs ms))
  have HVE : Hid (vibE xs ms = if vibB xs ms = true then 0 else 80) := (show _ = _ from rfl)
  generalize xs.length = n0 at *
  generalize ms.length = n1 at *
  clear h0 h1 g0 g1
  cases hv : vibB xs ms with
  | false =>
    have HE : Hid (vibE xs ms = 80) := (show _ = _ by rw [HVE.out, hv]; rfl)
    clear hno HVE hv
    generalize vibE xs ms = ve at *
    obtain rfl := HE.out
    go_enter Try.func11, Try.ntmps11
    go_wp2_with (first
      | (go_at_call 36; refine (HCK.out _ (below_a1 w _)).mono ?_; rintro e w1 ⟨rfl, hb1⟩; have HB1 := Lib.hid hb1; clear hb1)
      | (go_at_call 20; refine (works_any _).mono ?_; rintro e w2 ⟨rfl, hb2⟩; have HB2 := Lib.hid hb2; clear hb2))
    go_ret
    exact ⟨rfl, below_trans (below_a1 w _) (below_trans HB1.out HB2.out)⟩
  | true =>
    have HE : Hid (vibE xs ms = 0) := (show _ = _ by rw [HVE.out, hv]; rfl)
    have hn : n < 1 ∨ (¬ n < 1 ∧ 24 < n) := by
      rcases hno with h | h | h
      · rw [hv] at h; cases h
      · exact .inl h
      · by_cases h' : n < 1
        · exact .inl h'
        · exact .inr ⟨h', h⟩
    clear hno HVE hv
    generalize vibE xs ms = ve at *
    obtain rfl := HE.out
    rcases hn with hn | ⟨hn, hn2⟩
    all_goals
      go_enter Try.func11, Try.ntmps11
      go_wp2_with (first
        | (go_at_call 36; refine (HCK.out _ (below_a1 w _)).mono ?_; rintro e w1 ⟨rfl, hb1⟩; have HB1 := Lib.hid hb1; clear hb1)
        | (go_at_call 20; refine (works_any _).mono ?_; rintro e w2 ⟨rfl, hb2⟩; have HB2 := Lib.hid hb2; clear hb2))
      go_ret
      exact ⟨rfl, below_trans (below_a1 w _) (below_trans HB1.out HB2.out)⟩
def lin_T12 : Bool × List (List Nat × List Nat) := (true, [([], []), ([0], [0]), ([], []), ([2], [2]), ([3], [3]), ([4], [4]), ([5], [5]), ([1, 6], [1, 6]), ([0, 1, 2, 3, 4, 5, 6, 7], []), ([8, 7, 7, 0, 1, 2, 3, 4, 5, 6, 7], [7, 8])])
def lin_B12 : List Nat := [0, 1, 0, 4, 12, 28, 60, 127, 255, 511]
theorem lin_tab12 : rtab .any (opsOf Try.f11 12) = lin_T12 := by kernel_rfl
theorem lin_bits12 : waitsOk lin_T12.2 lin_B12 = true := by kernel_rfl
def lin_T13 : Bool × List (List Nat × List Nat) := (true, [([], []), ([0], [0]), ([], []), ([2], [2]), ([], []), ([3, 4], [3, 4]), ([5], [5]), ([6], [6]), ([7], [7]), ([1, 8], [1, 8]), ([0, 1, 2, 3, 4, 5, 6, 7, 8, 9], []), ([10, 9, 9, 0, 1, 2, 3, 4, 5, 6, 7, 8, 9], [9, 10])])
def lin_B13 : List Nat := [0, 1, 0, 4, 0, 28, 60, 124, 252, 511, 1023, 2047]
theorem lin_tab13 : rtab .any (opsOf Try.f11 13) = lin_T13 := by kernel_rfl
theorem lin_bits13 : waitsOk lin_T13.2 lin_B13 = true := by kernel_rfl
def lin_T15 : Bool × List (List Nat × List Nat) := (true, [([], []), ([0], [0]), ([], []), ([2], [2]), ([], []), ([3, 4], [3, 4]), ([5], [5]), ([], []), ([6, 7], [6, 7]), ([8], [8]), ([1, 9], [1, 9]), ([0, 1, 2, 3, 4, 5, 6, 7, 8, 9, 10], []), ([11, 10, 10, 0, 1, 2, 3, 4, 5, 6, 7, 8, 9, 10], [10, 11])])
def lin_B15 : List Nat := [0, 1, 0, 4, 0, 28, 60, 0, 252, 508, 1023, 2047, 4095]
theorem lin_tab15 : rtab .any (opsOf Try.f11 15) = lin_T15 := by kernel_rfl
theorem lin_bits15 : waitsOk lin_T15.2 lin_B15 = true := by kernel_rfl
def lin_T3 : Bool × List (List Nat × List Nat) := (true, [([], []), ([0], [0]), ([1], [1]), ([], []), ([3], [3]), ([4], [4]), ([], []), ([6], [6]), ([7], [7]), ([], []), ([9], [9]), ([10], [10]), ([], []), ([], []), ([], []), ([], []), ([12, 2, 0, 1, 2, 12, 13, 14, 15], [2, 12]), ([13, 5, 16, 0, 1, 2, 3, 4, 5, 12, 13, 14, 15, 16], [5, 13]), ([14, 8, 17, 0, 1, 2, 3, 4, 5, 6, 7, 8, 12, 13, 14, 15, 16, 17], [8, 14]), ([15, 11, 18, 0, 1, 2, 3, 4, 5, 6, 7, 8, 9, 10, 11, 12, 13, 14, 15, 16, 17, 18], [11, 15])])
def lin_B3 : List Nat := [0, 1, 3, 0, 8, 24, 0, 64, 192, 0, 512, 1536, 0, 0, 0, 0, 61447, 127039, 258559, 524287]
theorem lin_tab3 : rtab .any (opsOf Try.f11 3) = lin_T3 := by kernel_rfl
theorem lin_bits3 : waitsOk lin_T3.2 lin_B3 = true := by kernel_rfl
set_option maxHeartbeats 8000000 in
set_option maxRecDepth 100000 in
theorem linear_yes (A0 : Option Addr) (c0 : Nat) (xs : List Int) (A1 : Option Addr) (c1 : Nat) (ms : List Int) (A2 : Option Addr) (c2 : Nat) (os : List Int) (n : Nat) (w : World)
    (h0 : Kd.C (Kd.int .i64) w A0 xs.length xs) (g0 : xs.length ≤ c0) (h1 : Kd.C (Kd.int .i64) w A1 ms.length ms) (g1 : ms.length ≤ c1) (h2 : Kd.C (Kd.int .i64) w A2 os.length os) (hv : vibB xs ms = true) (hn1 : 1 ≤ n) (hn2 : n ≤ 24) :
    Calls Try.prog 11 #[.agg #[.slice A0 xs.length c0, .slice A1 ms.length c1], .slice A2 os.length c2, .int .i64 n] w fun e w' => e = .returned (.bool true) ∧ Below w.heap.size w w' := by
  have HCK : Hid (Calls Try.prog 36 #[.agg #[.slice A0 xs.length c0, .slice A1 ms.length c1]] (w.alloc (.cells #[.slice A0 xs.length c0, .slice A1 ms.length c1] 52)) fun e w' => e = .returned (.int .i64 0) ∧ Below (w.heap.size + 1) (w.alloc (.cells #[.slice A0 xs.length c0, .slice A1 ms.length c1] 52)) w') := by
    have h := swashplateref08_Check.calls A0 c0 xs A1 c1 ms 0 _ (Kd.C_below h0 (below_a1 w (.cells #[.slice A0 xs.length c0, .slice A1 ms.length c1] 52))) g0 (Kd.C_below h1 (below_a1 w _)) g1 (by rw [RCheck_f]; unfold vibE; rw [if_pos hv])
    have hz : (w.alloc (.cells #[.slice A0 xs.length c0, .slice A1 ms.length c1] 52)).heap.size = w.heap.size + 1 := by simp
    rw [hz] at h
    exact h
  have hvv := vib_of hv
  have hlen := hvv.len
  have htwo := hvv.two
  have hnine := hvv.nine
  have HV := Lib.hid hv
  have HVV := Lib.hid hvv
  have H0 := Lib.hid h0
  have H1 := Lib.hid h1
  have H2 := Lib.hid h2
  have hN0 : Hid (xs.length = xs.length) := Lib.hid rfl
  clear hv hvv h0 h1 h2
  obtain ⟨n0, hn0⟩ : ∃ n0, xs.length = n0 := ⟨_, rfl⟩
  obtain ⟨n1, hn1'⟩ : ∃ n1, ms.length = n1 := ⟨_, rfl⟩
  obtain ⟨n2, hn2'⟩ : ∃ n2, os.length = n2 := ⟨_, rfl⟩
  rw [hn0, hn1'] at HCK
  rw [hn0] at H0 hlen g0
  rw [hn1'] at H1 htwo hnine g1
  rw [hn2'] at H2
  rw [hn0, hn1', hn2']
  have HN0 := Lib.hid hn0
  have HN1 := Lib.hid hn1'
  have HN2 := Lib.hid hn2'
  clear hn0 hn1' hn2' hN0
  have hpos : 0 < n0 := by
    have := HVV.out.lt 0 (by have := HN1.out; omega)
    have := HN0.out
    omega
  obtain ⟨b0, o0, _, rfl, _, _⟩ := (RdW.of H0.out).at hpos
  go_enter Try.func11, Try.ntmps11
  go_upto_region 3 with (first
    | (go_at_call 36; refine HCK.out.mono ?_; rintro e w1 ⟨rfl, hb1⟩; have HB1 := Lib.hid hb1; clear hb1))
  have HG : Hid (w1.heap[w.heap.size]? = some (.cells #[.slice (some ⟨b0, o0, none⟩) n0 c0, .slice A1 n1 c1] 52 (0, 0))) := by
    show _ = _
    rw [HB1.out.block w.heap.size (by omega)]
    exact heap_alloc_new w _
  have HBW : Hid (Below w.heap.size w w1) := (show Below _ _ _ from below_then (below_a1 w _) (by simp) (by have := HB1.out; simpa using this))
  obtain ⟨k0, k1, k2⟩ := cellB HG.out
  have hlt := HBW.out.size
  have hg1 : w.heap.size < w1.heap.size := (Array.getElem?_eq_some_iff.1 HG.out).1
  go_cut [7, 8, 9, 10] (fun s7 s8 s9 s10 wc => ∃ p q r s : Nat, s7 = .pointer (some ⟨p, 0, none⟩) ∧ s8 = .pointer (some ⟨q, 0, none⟩) ∧ s9 = .pointer (some ⟨r, 0, none⟩) ∧ s10 = .pointer (some ⟨s, 0, none⟩) ∧
    Hid (Blocks w.heap.size w.heap.size p q r s ∧ Blocks w.heap.size w.heap.size q r s p ∧ Blocks w.heap.size w.heap.size r s p q ∧ Blocks w.heap.size w.heap.size s p q r) ∧ Hid (Lin w w.heap.size p q r s (.slice (some ⟨b0, o0, none⟩) n0 c0) (.slice A1 n1 c1) wc (.slice none 0 0) (.slice none 0 0) (.slice none 0 0) (.slice none 0 0) [] [] [] []))
  case first => as_aux_lemma =>
    refine start_ (n := 20) (S := fun W => W.cell? ⟨w.heap.size, 0, none⟩ = some (.slice (some ⟨b0, o0, none⟩) n0 c0) ∧ W.cell? ⟨w.heap.size, 1, none⟩ = some (.slice A1 n1 c1)) (ds := []) #[false, false, false, false, false, false, false, false, false, false, false, false, false, false, false, false, false, false, false, false] (by as_aux_lemma => kernel_rfl) rfl rfl ⟨k0, k1⟩ (fun hH => ?_)
    refine with_tabW lin_tab3 lin_bits3 (fun HT HW => ?_)
    refine pure_ (i := 0) (N := some 41) (v := ?_) (a' := ?_) #[true, false, false, false, false, false, false, false, false, false, false, false, false, false, false, false, false, false, false, false] rfl rfl (any_of HT.out (by as_aux_lemma => kernel_rfl)) (fun _ _ _ h => h) (Or.inl ⟨by rfl, ?_⟩) ?_ ?_
    rotate_left
    · (intro w'; go_simp; with_reducible rfl)
    rotate_left
    · (simp only [Act.put, List.setIfInBounds_toArray, List.set_cons_zero, List.set_cons_succ, i64_w, i32_w]; rfl)
    refine pure_ (i := 3) (N := some 44) (v := ?_) (a' := ?_) #[true, false, false, true, false, false, false, false, false, false, false, false, false, false, false, false, false, false, false, false] rfl rfl (any_of HT.out (by as_aux_lemma => kernel_rfl)) (fun _ _ _ h => h) (Or.inl ⟨by rfl, ?_⟩) ?_ ?_
    rotate_left
    · (intro w'; go_simp; with_reducible rfl)
    rotate_left
    · (simp only [Act.put, List.setIfInBounds_toArray, List.set_cons_zero, List.set_cons_succ, i64_w, i32_w]; rfl)
    refine pure_ (i := 6) (N := some 47) (v := ?_) (a' := ?_) #[true, false, false, true, false, false, true, false, false, false, false, false, false, false, false, false, false, false, false, false] rfl rfl (any_of HT.out (by as_aux_lemma => kernel_rfl)) (fun _ _ _ h => h) (Or.inl ⟨by rfl, ?_⟩) ?_ ?_
    rotate_left
    · (intro w'; go_simp; with_reducible rfl)
    rotate_left
    · (simp only [Act.put, List.setIfInBounds_toArray, List.set_cons_zero, List.set_cons_succ, i64_w, i32_w]; rfl)
    refine pure_ (i := 9) (N := some 50) (v := ?_) (a' := ?_) #[true, false, false, true, false, false, true, false, false, true, false, false, false, false, false, false, false, false, false, false] rfl rfl (any_of HT.out (by as_aux_lemma => kernel_rfl)) (fun _ _ _ h => h) (Or.inl ⟨by rfl, ?_⟩) ?_ ?_
    rotate_left
    · (intro w'; go_simp; with_reducible rfl)
    rotate_left
    · (simp only [Act.put, List.setIfInBounds_toArray, List.set_cons_zero, List.set_cons_succ, i64_w, i32_w]; rfl)
    refine take_ (i := 1) (N := some 42) (v := ?_) (a' := ?_) #[true, true, false, true, false, false, true, false, false, true, false, false, false, false, false, false, false, false, false, false] rfl rfl (take_ofW HT.out HW.out (by as_aux_lemma => kernel_rfl)) (fun _ _ _ h => h) (Or.inl ⟨by rfl, ?_⟩) hH ?_ ?_
    rotate_left
    · (rintro w' ⟨s0, s1⟩; go_simp; with_reducible rfl)
    rotate_left
    · (simp only [Act.put, List.setIfInBounds_toArray, List.set_cons_zero, List.set_cons_succ, i64_w, i32_w]; rfl)
    refine pure_ (i := 2) (N := some 43) (v := ?_) (a' := ?_) #[true, true, true, true, false, false, true, false, false, true, false, false, false, false, false, false, false, false, false, false] rfl rfl (any_of HT.out (by as_aux_lemma => kernel_rfl)) (fun _ _ _ h => h) (Or.inl ⟨by rfl, ?_⟩) ?_ ?_
    rotate_left
    · (intro w'; go_simp; with_reducible rfl)
    rotate_left
    · (simp only [Act.put, List.setIfInBounds_toArray, List.set_cons_zero, List.set_cons_succ, i64_w, i32_w]; rfl)
    refine take_ (i := 4) (N := some 45) (v := ?_) (a' := ?_) #[true, true, true, true, true, false, true, false, false, true, false, false, false, false, false, false, false, false, false, false] rfl rfl (take_ofW HT.out HW.out (by as_aux_lemma => kernel_rfl)) (fun _ _ _ h => h) (Or.inl ⟨by rfl, ?_⟩) hH ?_ ?_
    rotate_left
    · (rintro w' ⟨s0, s1⟩; go_simp; with_reducible rfl)
    rotate_left
    · (simp only [Act.put, List.setIfInBounds_toArray, List.set_cons_zero, List.set_cons_succ, i64_w, i32_w]; rfl)
    refine pure_ (i := 5) (N := some 46) (v := ?_) (a' := ?_) #[true, true, true, true, true, true, true, false, false, true, false, false, false, false, false, false, false, false, false, false] rfl rfl (any_of HT.out (by as_aux_lemma => kernel_rfl)) (fun _ _ _ h => h) (Or.inl ⟨by rfl, ?_⟩) ?_ ?_
    rotate_left
    · (intro w'; go_simp; with_reducible rfl)
    rotate_left
    · (simp only [Act.put, List.setIfInBounds_toArray, List.set_cons_zero, List.set_cons_succ, i64_w, i32_w]; rfl)
    refine take_ (i := 7) (N := some 48) (v := ?_) (a' := ?_) #[true, true, true, true, true, true, true, true, false, true, false, false, false, false, false, false, false, false, false, false] rfl rfl (take_ofW HT.out HW.out (by as_aux_lemma => kernel_rfl)) (fun _ _ _ h => h) (Or.inl ⟨by rfl, ?_⟩) hH ?_ ?_
    rotate_left
    · (rintro w' ⟨s0, s1⟩; go_simp; with_reducible rfl)
    rotate_left
    · (simp only [Act.put, List.setIfInBounds_toArray, List.set_cons_zero, List.set_cons_succ, i64_w, i32_w]; rfl)
    refine pure_ (i := 8) (N := some 49) (v := ?_) (a' := ?_) #[true, true, true, true, true, true, true, true, true, true, false, false, false, false, false, false, false, false, false, false] rfl rfl (any_of HT.out (by as_aux_lemma => kernel_rfl)) (fun _ _ _ h => h) (Or.inl ⟨by rfl, ?_⟩) ?_ ?_
    rotate_left
    · (intro w'; go_simp; with_reducible rfl)
    rotate_left
    · (simp only [Act.put, List.setIfInBounds_toArray, List.set_cons_zero, List.set_cons_succ, i64_w, i32_w]; rfl)
    refine take_ (i := 10) (N := some 51) (v := ?_) (a' := ?_) #[true, true, true, true, true, true, true, true, true, true, true, false, false, false, false, false, false, false, false, false] rfl rfl (take_ofW HT.out HW.out (by as_aux_lemma => kernel_rfl)) (fun _ _ _ h => h) (Or.inl ⟨by rfl, ?_⟩) hH ?_ ?_
    rotate_left
    · (rintro w' ⟨s0, s1⟩; go_simp; with_reducible rfl)
    rotate_left
    · (simp only [Act.put, List.setIfInBounds_toArray, List.set_cons_zero, List.set_cons_succ, i64_w, i32_w]; rfl)
    refine pure_ (i := 11) (N := some 52) (v := ?_) (a' := ?_) #[true, true, true, true, true, true, true, true, true, true, true, true, false, false, false, false, false, false, false, false] rfl rfl (any_of HT.out (by as_aux_lemma => kernel_rfl)) (fun _ _ _ h => h) (Or.inl ⟨by rfl, ?_⟩) ?_ ?_
    rotate_left
    · (intro w'; go_simp; with_reducible rfl)
    rotate_left
    · (simp only [Act.put, List.setIfInBounds_toArray, List.set_cons_zero, List.set_cons_succ, i64_w, i32_w]; rfl)
    have step : ∀ {d : Tmp} {o : Oper} {K : Act → World → Prop} {a : Act} {W : World}, True → True := fun _ => trivial
    refine allocs4 (fuel := 4) (fun b0 b1 b2 b3 => #[true, true, true, true, true, true, true, true, true, true, true, true, b0, b1, b2, b3, false, false, false, false]) 12 13 14 15 7 8 9 10 (.cells #[.slice none 0 0, .slice none 0 0] 52) (by decide) ?hR (fun _ _ _ => rfl) (fun _ _ _ => rfl) (fun _ _ _ => rfl) (fun _ _ _ => rfl) ?s0 ?s1 ?s2 ?s3 ?hS ?hfin
    case hR =>
      intro b0 b1 b2 b3 h
      rw [ready_eq, HT.out]
      revert h
      cases b0 <;> cases b1 <;> cases b2 <;> cases b3 <;> first | (intro h; cases h; done) | (intro _; kernel_rfl)
    case s0 =>
      intro K a W hK
      refine wpOp_step rfl (fun K' hK' => ?_)
      rw [if_pos (by rfl)]
      unfold Oper.wp
      go_simp
      exact hK' _ _ hK
    case s1 =>
      intro K a W hK
      refine wpOp_step rfl (fun K' hK' => ?_)
      rw [if_pos (by rfl)]
      unfold Oper.wp
      go_simp
      exact hK' _ _ hK
    case s2 =>
      intro K a W hK
      refine wpOp_step rfl (fun K' hK' => ?_)
      rw [if_pos (by rfl)]
      unfold Oper.wp
      go_simp
      exact hK' _ _ hK
    case s3 =>
      intro K a W hK
      refine wpOp_step rfl (fun K' hK' => ?_)
      rw [if_pos (by rfl)]
      unfold Oper.wp
      go_simp
      exact hK' _ _ hK
    case hS =>
      intro W hb
      exact ⟨cell_below hb k0, cell_below hb k1⟩
    case hfin =>
      intro p q r s W hst
      refine norm_ (a' := ?_) ?_ ?_
      rotate_left
      · (simp only [A4, pif, ptr, if_true, Act.put, List.setIfInBounds_toArray, List.set_cons_zero, List.set_cons_succ]; rfl)
      obtain ⟨hb, h0, h1, h2, h3, n01, n02, n03, n12, n13, n23⟩ := hst
      obtain ⟨z0, y0⟩ := h0 rfl
      clear h0
      obtain ⟨z1, y1⟩ := h1 rfl
      clear h1
      obtain ⟨z2, y2⟩ := h2 rfl
      clear h2
      obtain ⟨z3, y3⟩ := h3 rfl
      clear h3
      have m01 := n01 rfl rfl
      clear n01
      have m02 := n02 rfl rfl
      clear n02
      have m03 := n03 rfl rfl
      clear n03
      have m12 := n12 rfl rfl
      clear n12
      have m13 := n13 rfl rfl
      clear n13
      have m23 := n23 rfl rfl
      clear n23
      have g0' : ∀ k, w1.heap.size ≤ k → w.heap.size ≠ k := fun k hk => by omega
      have yg : W.heap[w.heap.size]? = some (.cells #[.slice (some ⟨b0, o0, none⟩) n0 c0, .slice A1 n1 c1] 52 (0, 0)) := (hb.block _ (by exact hg1)).trans HG.out
      refine one_ (i := 16) (N := none) #[true, true, true, true, true, true, true, true, true, true, true, true, true, true, true, true, true, false, false, false] rfl rfl (one_of HT.out (by as_aux_lemma => kernel_rfl)) (by decide) (fun K hK => ?_)
      have u0 := (cellB y0).1
      have u1 := (cellB y0).2.1
      have u2 := (cellB y0).2.2
      have u3 := cellB1 y0
      refine skip_ (w1 := ?_) (by rfl) rfl ?_ ?_
      rotate_left
      · (go_simp; rfl)
      clear u0 u1 u2 u3
      show K _ (put2 W p (.slice none 0 0) (.slice A1 n1 c1))
      obtain ⟨V0, hV0⟩ : ∃ V, V = put2 W p (.slice none 0 0) (.slice A1 n1 c1) := ⟨_, rfl⟩
      rw [← hV0]
      replace hb : Below w1.drew.heap.size w1.drew V0 := by rw [hV0]; exact put2_below hb z0
      replace yg := (put2_far (u := .slice none 0 0) (v := .slice A1 n1 c1) (g0' _ z0)).trans yg
      rw [← hV0] at yg
      replace y0 := put2_at (u := .slice none 0 0) (v := .slice A1 n1 c1) y0
      rw [← hV0] at y0
      replace y1 := (put2_far (u := .slice none 0 0) (v := .slice A1 n1 c1) m01.symm).trans y1
      rw [← hV0] at y1
      replace y2 := (put2_far (u := .slice none 0 0) (v := .slice A1 n1 c1) m02.symm).trans y2
      rw [← hV0] at y2
      replace y3 := (put2_far (u := .slice none 0 0) (v := .slice A1 n1 c1) m03.symm).trans y3
      rw [← hV0] at y3
      clear hV0
      refine hK.out _ _ ⟨(cellB yg).1, (cellB yg).2.1⟩ (fun hH => ?_)
      clear hK K
      refine one_ (i := 17) (N := none) #[true, true, true, true, true, true, true, true, true, true, true, true, true, true, true, true, true, true, false, false] rfl rfl (one_of HT.out (by as_aux_lemma => kernel_rfl)) (by decide) (fun K hK => ?_)
      have u0 := (cellB y1).1
      have u1 := (cellB y1).2.1
      have u2 := (cellB y1).2.2
      have u3 := cellB1 y1
      refine skip_ (w1 := ?_) (by rfl) rfl ?_ ?_
      rotate_left
      · (go_simp; rfl)
      clear u0 u1 u2 u3
      show K _ (put2 V0 q (.slice none 0 0) (.slice A1 n1 c1))
      obtain ⟨V1, hV1⟩ : ∃ V, V = put2 V0 q (.slice none 0 0) (.slice A1 n1 c1) := ⟨_, rfl⟩
      rw [← hV1]
      replace hb : Below w1.drew.heap.size w1.drew V1 := by rw [hV1]; exact put2_below hb z1
      replace yg := (put2_far (u := .slice none 0 0) (v := .slice A1 n1 c1) (g0' _ z1)).trans yg
      rw [← hV1] at yg
      replace y0 := (put2_far (u := .slice none 0 0) (v := .slice A1 n1 c1) m01).trans y0
      rw [← hV1] at y0
      replace y1 := put2_at (u := .slice none 0 0) (v := .slice A1 n1 c1) y1
      rw [← hV1] at y1
      replace y2 := (put2_far (u := .slice none 0 0) (v := .slice A1 n1 c1) m12.symm).trans y2
      rw [← hV1] at y2
      replace y3 := (put2_far (u := .slice none 0 0) (v := .slice A1 n1 c1) m13.symm).trans y3
      rw [← hV1] at y3
      clear hV1
      refine hK.out _ _ ⟨(cellB yg).1, (cellB yg).2.1⟩ (fun hH => ?_)
      clear hK K
      refine one_ (i := 18) (N := none) #[true, true, true, true, true, true, true, true, true, true, true, true, true, true, true, true, true, true, true, false] rfl rfl (one_of HT.out (by as_aux_lemma => kernel_rfl)) (by decide) (fun K hK => ?_)
      have u0 := (cellB y2).1
      have u1 := (cellB y2).2.1
      have u2 := (cellB y2).2.2
      have u3 := cellB1 y2
      refine skip_ (w1 := ?_) (by rfl) rfl ?_ ?_
      rotate_left
      · (go_simp; rfl)
      clear u0 u1 u2 u3
      show K _ (put2 V1 r (.slice none 0 0) (.slice A1 n1 c1))
      obtain ⟨V2, hV2⟩ : ∃ V, V = put2 V1 r (.slice none 0 0) (.slice A1 n1 c1) := ⟨_, rfl⟩
      rw [← hV2]
      replace hb : Below w1.drew.heap.size w1.drew V2 := by rw [hV2]; exact put2_below hb z2
      replace yg := (put2_far (u := .slice none 0 0) (v := .slice A1 n1 c1) (g0' _ z2)).trans yg
      rw [← hV2] at yg
      replace y0 := (put2_far (u := .slice none 0 0) (v := .slice A1 n1 c1) m02).trans y0
      rw [← hV2] at y0
      replace y1 := (put2_far (u := .slice none 0 0) (v := .slice A1 n1 c1) m12).trans y1
      rw [← hV2] at y1
      replace y2 := put2_at (u := .slice none 0 0) (v := .slice A1 n1 c1) y2
      rw [← hV2] at y2
      replace y3 := (put2_far (u := .slice none 0 0) (v := .slice A1 n1 c1) m23.symm).trans y3
      rw [← hV2] at y3
      clear hV2
      refine hK.out _ _ ⟨(cellB yg).1, (cellB yg).2.1⟩ (fun hH => ?_)
      clear hK K
      refine one_ (i := 19) (N := none) #[true, true, true, true, true, true, true, true, true, true, true, true, true, true, true, true, true, true, true, true] rfl rfl (one_of HT.out (by as_aux_lemma => kernel_rfl)) (by decide) (fun K hK => ?_)
      have u0 := (cellB y3).1
      have u1 := (cellB y3).2.1
      have u2 := (cellB y3).2.2
      have u3 := cellB1 y3
      refine skip_ (w1 := ?_) (by rfl) rfl ?_ ?_
      rotate_left
      · (go_simp; rfl)
      clear u0 u1 u2 u3
      show K _ (put2 V2 s (.slice none 0 0) (.slice A1 n1 c1))
      obtain ⟨V3, hV3⟩ : ∃ V, V = put2 V2 s (.slice none 0 0) (.slice A1 n1 c1) := ⟨_, rfl⟩
      rw [← hV3]
      replace hb : Below w1.drew.heap.size w1.drew V3 := by rw [hV3]; exact put2_below hb z3
      replace yg := (put2_far (u := .slice none 0 0) (v := .slice A1 n1 c1) (g0' _ z3)).trans yg
      rw [← hV3] at yg
      replace y0 := (put2_far (u := .slice none 0 0) (v := .slice A1 n1 c1) m03).trans y0
      rw [← hV3] at y0
      replace y1 := (put2_far (u := .slice none 0 0) (v := .slice A1 n1 c1) m13).trans y1
      rw [← hV3] at y1
      replace y2 := (put2_far (u := .slice none 0 0) (v := .slice A1 n1 c1) m23).trans y2
      rw [← hV3] at y2
      replace y3 := put2_at (u := .slice none 0 0) (v := .slice A1 n1 c1) y3
      rw [← hV3] at y3
      clear hV3
      refine hK.out _ _ ⟨(cellB yg).1, (cellB yg).2.1⟩ (fun hH => ?_)
      clear hK K
      refine done_ (done_of HT.out (by as_aux_lemma => kernel_rfl)) ?_
      clear HT HW hH
      have zB : w.heap.size ≤ p ∧ w.heap.size ≤ q ∧ w.heap.size ≤ r ∧ w.heap.size ≤ s := ⟨Nat.le_trans hlt z0, Nat.le_trans hlt z1, Nat.le_trans hlt z2, Nat.le_trans hlt z3⟩
      have zg : p ≠ w.heap.size ∧ q ≠ w.heap.size ∧ r ≠ w.heap.size ∧ s ≠ w.heap.size := ⟨(g0' _ z0).symm, (g0' _ z1).symm, (g0' _ z2).symm, (g0' _ z3).symm⟩
      have hbw : Below w.heap.size w V3 := below_then (below_drewN HBW.out 1) (by exact hlt) hb
      go_wp2_with fail
      go_meet
      exact ⟨p, q, r, s, rfl, rfl, rfl, rfl, ⟨⟨zg.1, m01, m02, m03, zB.1⟩, ⟨zg.2.1, m12, m13, m01.symm, zB.2.1⟩, ⟨zg.2.2.1, m23, m02.symm, m12.symm, zB.2.2.1⟩, ⟨zg.2.2.2, m03.symm, m13.symm, m23.symm, zB.2.2.2⟩⟩,
        ⟨⟨Kd.R_nil _ _ _ _ _, Kd.R_nil _ _ _ _ _, Kd.R_nil _ _ _ _ _, Kd.R_nil _ _ _ _ _⟩, hbw, yg, y0, y1, y2, y3⟩⟩
  case rest =>
    obtain ⟨p, q, r, s, rfl, rfl, rfl, rfl, hbk, hlin⟩ := hcut
    have HBK := Lib.hid hbk
    have HLIN := Lib.hid hlin
    clear hbk hlin HG HB1 HCK HBW k0 k1 hlt hg1
    have HXS : Hid (∀ i, -100 ≤ xs.getD i 0 ∧ xs.getD i 0 ≤ 100) := (show ∀ i, _ from HVV.out.smp)
    have HXR : Hid (RdW w (some ⟨b0, o0, none⟩) n0 xs) := (show RdW _ _ _ _ from RdW.of H0.out)
    have HOR : Hid (RdW w A2 n2 os) := (show RdW _ _ _ _ from RdW.of H2.out)
    go_wp2_with fail
    go_loopg [11] n0 (fun kq v11 wr => ∃ (i : Nat) (a b c d : Value), i + kq = n0 ∧ v11 = .int .i64 i ∧ Hid (Lin w w.heap.size p q r s (.slice (some ⟨b0, o0, none⟩) n0 c0) (.slice A1 n1 c1) wr a b c d (plainL xs i) (minusL xs i) (moreL xs os i) (bothL xs os i)))
    case atStart => exact ⟨0, _, _, _, _, by omega, rfl, HLIN.out⟩
    case round =>
      obtain ⟨i, a, b, c, d, hi, rfl, HL⟩ := hrel
      clear HLIN
      cases gk with
      | zero => as_aux_lemma =>
        obtain rfl : i = n0 := by omega
        obtain ⟨Aa, ca, ea, ga, Ca⟩ := Kd.R_reads HL.out.four.ra
        have la : (plainL xs i).length = i := by unfold plainL; rw [rowF_len]
        rw [la] at ea ga Ca
        subst ea
        obtain ⟨Ab, cb, eb, gb, Cb⟩ := Kd.R_reads HL.out.four.rb
        have lb : (minusL xs i).length = i := by unfold minusL; rw [rowF_len]
        rw [lb] at eb gb Cb
        subst eb
        obtain ⟨Ac, cc, ec, gc, Cc⟩ := Kd.R_reads HL.out.four.rc
        have lc : (moreL xs os i).length = i := by unfold moreL; rw [rowF_len]
        rw [lc] at ec gc Cc
        subst ec
        obtain ⟨Ad, cd, ed, gd, Cd⟩ := Kd.R_reads HL.out.four.rd
        have ld : (bothL xs os i).length = i := by unfold bothL; rw [rowF_len]
        rw [ld] at ed gd Cd
        subst ed
        have VL := vib_linear os HV.out
        rw [HN0.out] at VL
        have HBL := Lib.hid HL.out.bel
        obtain ⟨D, hD⟩ : ∃ D, n * (n1 - 1) = D := ⟨_, rfl⟩
        have hDi : (n : Int) * ((n1 : Int) - 1) = (D : Int) := by rw [← hD]; push_cast; rw [Int.ofNat_sub (by omega)]; rfl
        have hD216 : D ≤ 216 := by rw [← hD]; exact Nat.le_trans (Nat.mul_le_mul hn2 (show n1 - 1 ≤ 8 by omega)) (by decide)
        have HQ : Hid (∀ (l : List Int) (A : Option Addr) (c : Nat), vibB l ms = true → l.length = i → Kd.C (Kd.int .i64) wr A i l → i ≤ c → ∀ W, Below wr.heap.size wr W → Calls Try.prog 37 #[.agg #[.slice A i c, .slice A1 n1 c1], .int .i64 n] W fun e w' => ∃ A' c', e = .returned (.tuple #[.slice A' n c', .int .i64 D, .int .i64 0]) ∧ RdW w' A' n (avgL l ms n) ∧ Below W.heap.size W w') := by
          show ∀ l, _
          intro l A c hv hl hC hc W hb
          have := avg_any hv hn1 hn2 hl HN1.out A c A1 c1 W (Kd.C_below hC hb) hc (Kd.C_below (Kd.C_below H1.out HBL.out) hb) g1
          rwa [hD] at this
        have HCa := Lib.hid Ca
        have HCb := Lib.hid Cb
        have HCc := Lib.hid Cc
        have HCd := Lib.hid Cd
        have HVL := Lib.hid VL
        have HLa := Lib.hid la
        have HLb := Lib.hid lb
        have HLc := Lib.hid lc
        have HLd := Lib.hid ld
        have HDD := Lib.hid hD
        clear Ca Cb Cc Cd VL la lb lc ld hD hi
        have hsz : w.heap.size < wr.heap.size := (Array.getElem?_eq_some_iff.1 HL.out.hg).1
        have hzp : p < wr.heap.size := (Array.getElem?_eq_some_iff.1 HL.out.hp).1
        have hzq : q < wr.heap.size := (Array.getElem?_eq_some_iff.1 HL.out.hq).1
        have hzr : r < wr.heap.size := (Array.getElem?_eq_some_iff.1 HL.out.hr).1
        have hzs : s < wr.heap.size := (Array.getElem?_eq_some_iff.1 HL.out.hs).1
        obtain ⟨kg0, kg1, _⟩ := cellB HL.out.hg
        go_wp2_with fail
        refine (HQ.out xs (some ⟨b0, o0, none⟩) c0 HV.out HN0.out (Kd.C_below H0.out HBL.out) g0 wr (Below.refl _ _)).mono ?_
        rintro e w1 ⟨R1, q1, rfl, hr1, hb1⟩
        have HR1 := Lib.hid hr1
        have HB1 : Hid (Below wr.heap.size wr w1) := (show Below _ _ _ from hb1)
        clear hr1 hb1 kg0 kg1
        obtain ⟨kg0, kg1, _⟩ := cellB ((HB1.out.block _ hzp).trans HL.out.hp)
        go_wp2_with fail
        refine (HQ.out (plainL xs i) Aa ca HVL.out.1 HLa.out HCa.out ga w1 HB1.out).mono ?_
        rintro e w2 ⟨R2, q2, rfl, hr2, hb2⟩
        have HR2 := Lib.hid hr2
        have HB2 : Hid (Below wr.heap.size wr w2) := (show Below _ _ _ from below_trans HB1.out hb2)
        replace HR1 : Hid (RdW w2 R1 n _) := (show RdW _ _ _ _ from HR1.out.below hb2)
        clear hr2 hb2 kg0 kg1
        obtain ⟨kg0, kg1, _⟩ := cellB ((HB2.out.block _ hzq).trans HL.out.hq)
        go_wp2_with fail
        refine (HQ.out (minusL xs i) Ab cb HVL.out.2.1 HLb.out HCb.out gb w2 HB2.out).mono ?_
        rintro e w3 ⟨R3, q3, rfl, hr3, hb3⟩
        have HR3 := Lib.hid hr3
        have HB3 : Hid (Below wr.heap.size wr w3) := (show Below _ _ _ from below_trans HB2.out hb3)
        replace HR1 : Hid (RdW w3 R1 n _) := (show RdW _ _ _ _ from HR1.out.below hb3)
        replace HR2 : Hid (RdW w3 R2 n _) := (show RdW _ _ _ _ from HR2.out.below hb3)
        clear hr3 hb3 kg0 kg1
        obtain ⟨kg0, kg1, _⟩ := cellB ((HB3.out.block _ hzr).trans HL.out.hr)
        go_wp2_with fail
        refine (HQ.out (moreL xs os i) Ac cc HVL.out.2.2.1 HLc.out HCc.out gc w3 HB3.out).mono ?_
        rintro e w4 ⟨R4, q4, rfl, hr4, hb4⟩
        have HR4 := Lib.hid hr4
        have HB4 : Hid (Below wr.heap.size wr w4) := (show Below _ _ _ from below_trans HB3.out hb4)
        replace HR1 : Hid (RdW w4 R1 n _) := (show RdW _ _ _ _ from HR1.out.below hb4)
        replace HR2 : Hid (RdW w4 R2 n _) := (show RdW _ _ _ _ from HR2.out.below hb4)
        replace HR3 : Hid (RdW w4 R3 n _) := (show RdW _ _ _ _ from HR3.out.below hb4)
        clear hr4 hb4 kg0 kg1
        obtain ⟨kg0, kg1, _⟩ := cellB ((HB4.out.block _ hzs).trans HL.out.hs)
        go_wp2_with fail
        refine (HQ.out (bothL xs os i) Ad cd HVL.out.2.2.2 HLd.out HCd.out gd w4 HB4.out).mono ?_
        rintro e w5 ⟨R5, q5, rfl, hr5, hb5⟩
        have HR5 := Lib.hid hr5
        have HB5 : Hid (Below wr.heap.size wr w5) := (show Below _ _ _ from below_trans HB4.out hb5)
        replace HR1 : Hid (RdW w5 R1 n _) := (show RdW _ _ _ _ from HR1.out.below hb5)
        replace HR2 : Hid (RdW w5 R2 n _) := (show RdW _ _ _ _ from HR2.out.below hb5)
        replace HR3 : Hid (RdW w5 R3 n _) := (show RdW _ _ _ _ from HR3.out.below hb5)
        replace HR4 : Hid (RdW w5 R4 n _) := (show RdW _ _ _ _ from HR4.out.below hb5)
        clear hr5 hb5 kg0 kg1
        obtain ⟨kg0, kg1, _⟩ := cellB ((HB5.out.block _ hsz).trans HL.out.hg)
        obtain ⟨_, _, y, e2, hy, hcy0⟩ := HXR.out.at hpos
        cases e2
        rw [Nat.add_zero] at hcy0
        have HCY : Hid (w5.cell? ⟨b0, o0, none⟩ = some (.int .i64 y)) := (show _ = _ from cell_below HB5.out (cell_below HBL.out hcy0))
        have HYG : Hid (xs.getD 0 0 = y) := (show _ = _ by rw [List.getD_eq_getElem?_getD, hy]; rfl)
        have hyb := HXS.out 0
        rw [HYG.out] at hyb
        clear hcy0 hy
        go_wp2_with fail
        obtain ⟨W7, hW7⟩ : ∃ W7, W7 = w5 := ⟨_, rfl⟩
        subst hW7
        have e1 : IntKind.i64.wrap (y * (D : Int)) = y * (D : Int) := by
          have := mul_bdL y D hyb hD216
          rw [IntKind.wrap_i64]; omega
        have f1 : ((y * (D : Int)) == y * (D : Int)) = true := by simp
        have f2 : ((y * (D : Int)) != y * (D : Int)) = false := by simp
        have HBW : Hid (Below w.heap.size w W7) := (show Below _ _ _ from below_trans HBL.out HB5.out)
        have HGC : Hid (W7.cell? ⟨w.heap.size, 0, none⟩ = some (.slice (some ⟨b0, o0, none⟩) i c0)) := (show _ = _ from kg0)
        clear kg0 kg1
        go_loopw [28] (fun s28 wq => ∃ (j : Nat), j ≤ n ∧ s28 = .int .i64 j ∧ Hid (Below W7.heap.size W7 wq)) (fun s28 _ => n - (intOf s28).toNat)
        case atStart => exact ⟨0, Nat.zero_le _, rfl, Below.refl _ _⟩
        case round =>
          obtain ⟨j, hj, rfl, HBq⟩ := hrel
          by_cases hlt : j < n
          · have hlin := avgTo_linear os HVV.out hn1 hn2 (k := j) hlt (n1 - 1) (by have := HN1.out; omega)
            have hbdA := avgTo_bd HVV.out hn1 hn2 (n1 - 1) j
            have hbdD := avgTo_bd (vib_of HVL.out.2.2.1) hn1 hn2 (n1 - 1) j
            obtain ⟨p1, o1, v1, ee1, hv1, hc1⟩ := HR1.out.at hlt
            have gv1 : avgTo xs ms n (n1 - 1) j = v1 := by
              have := rowF_get (avgTo xs ms n (ms.length - 1)) hlt
              rw [show rowF n (avgTo xs ms n (ms.length - 1)) = avgL xs ms n from rfl, List.getD_eq_getElem?_getD, hv1, HN1.out] at this
              exact this.symm
            obtain ⟨p2, o2, v2, ee2, hv2, hc2⟩ := HR2.out.at hlt
            have gv2 : avgTo (plainL xs i) ms n (n1 - 1) j = v2 := by
              have := rowF_get (avgTo (plainL xs i) ms n (ms.length - 1)) hlt
              rw [show rowF n (avgTo (plainL xs i) ms n (ms.length - 1)) = avgL (plainL xs i) ms n from rfl, List.getD_eq_getElem?_getD, hv2, HN1.out] at this
              exact this.symm
            obtain ⟨p3, o3, v3, ee3, hv3, hc3⟩ := HR3.out.at hlt
            have gv3 : avgTo (minusL xs i) ms n (n1 - 1) j = v3 := by
              have := rowF_get (avgTo (minusL xs i) ms n (ms.length - 1)) hlt
              rw [show rowF n (avgTo (minusL xs i) ms n (ms.length - 1)) = avgL (minusL xs i) ms n from rfl, List.getD_eq_getElem?_getD, hv3, HN1.out] at this
              exact this.symm
            obtain ⟨p4, o4, v4, ee4, hv4, hc4⟩ := HR4.out.at hlt
            have gv4 : avgTo (moreL xs os i) ms n (n1 - 1) j = v4 := by
              have := rowF_get (avgTo (moreL xs os i) ms n (ms.length - 1)) hlt
              rw [show rowF n (avgTo (moreL xs os i) ms n (ms.length - 1)) = avgL (moreL xs os i) ms n from rfl, List.getD_eq_getElem?_getD, hv4, HN1.out] at this
              exact this.symm
            obtain ⟨p5, o5, v5, ee5, hv5, hc5⟩ := HR5.out.at hlt
            have gv5 : avgTo (bothL xs os i) ms n (n1 - 1) j = v5 := by
              have := rowF_get (avgTo (bothL xs os i) ms n (ms.length - 1)) hlt
              rw [show rowF n (avgTo (bothL xs os i) ms n (ms.length - 1)) = avgL (bothL xs os i) ms n from rfl, List.getD_eq_getElem?_getD, hv5, HN1.out] at this
              exact this.symm
            rw [HN0.out] at hlin
            rw [gv1, gv2, gv3, gv4, gv5, HYG.out, HDD.out] at hlin
            rw [gv1] at hbdA
            rw [gv4] at hbdD
            obtain ⟨m1, m2, m3⟩ := hlin
            subst m1 m2 m3
            subst ee1
            replace hc1 := cell_below HBq.out hc1
            subst ee2
            replace hc2 := cell_below HBq.out hc2
            subst ee3
            replace hc3 := cell_below HBq.out hc3
            subst ee4
            replace hc4 := cell_below HBq.out hc4
            subst ee5
            replace hc5 := cell_below HBq.out hc5
            have hcg := cell_below HBq.out HGC.out
            have hcy := cell_below HBq.out HCY.out
            have n9 : ((n1 - 1 : Nat) : Int) ≤ 8 := by omega
            have w1' : IntKind.i64.wrap (-v1) = -v1 := by rw [IntKind.wrap_i64]; omega
            have w2' : IntKind.i64.wrap (v1 + v4) = v1 + v4 := by rw [IntKind.wrap_i64]; omega
            have j0 : (0 : Int) ≤ (j : Int) := Int.natCast_nonneg _
            have j1 : (j : Int) < (n : Int) := by omega
            have r1 : ((-v1 : Int) == -v1) = true := by simp
            have r2 : ((-v1 : Int) != -v1) = false := by simp
            have r3 : ((v1 + v4 : Int) == v1 + v4) = true := by simp
            have r4 : ((v1 + v4 : Int) != v1 + v4) = false := by simp
            clear hv1 hv2 hv3 hv4 hv5 gv1 gv2 gv3 gv4 gv5 hbdA hbdD n9
            go_wp2_with fail
            go_quiet (fail)
            go_wp2_with fail
            go_roundw
            case rel => exact ⟨j + 1, by omega, by first | rfl | go_num, below_drewN HBq.out _⟩
            case measure => simp [intOf]; omega
          · go_wp2_with (go_at_call 20; refine (works_any _).mono ?_; rintro e w8 ⟨rfl, hb8⟩; have HB8 := Lib.hid hb8; clear hb8)
            go_ret
            exact ⟨rfl, below_trans HBW.out (below_trans HBq.out HB8.out)⟩
      | succ k1 =>
        have hlt : i < n0 := by omega
        obtain ⟨_, _, x, e1, hx, hcx0⟩ := HXR.out.at hlt
        cases e1
        obtain ⟨_, _, y, e2, hy, hcy0⟩ := HXR.out.at hpos
        cases e2
        have hcx := cell_below HL.out.bel hcx0
        have hcy := cell_below HL.out.bel hcy0
        rw [Nat.add_zero] at hcy
        have hxg : xs.getD i 0 = x := by rw [List.getD_eq_getElem?_getD, hx]; rfl
        have hyg : xs.getD 0 0 = y := by rw [List.getD_eq_getElem?_getD, hy]; rfl
        have hxb := HXS.out i
        rw [hxg] at hxb
        have HXG := Lib.hid hxg
        have HYG := Lib.hid hyg
        have kg := (cellB HL.out.hg).1
        have HCX := Lib.hid hcx0
        have HCY := Lib.hid hcy0
        clear hcx0 hcy0 hx hy hxg hyg
        have HI := Lib.hid hi
        clear hi
        go_upto_if 63 with (fail)
        go_cut [12] (fun s12 wc => s12 = .int .i64 (os.getD i 0) ∧ wc = wr)
        case first => as_aux_lemma =>
          by_cases h2 : i < n2
          · obtain ⟨b2, o2, z, rfl, hz, hcz0⟩ := HOR.out.at h2
            have hcz := cell_below HL.out.bel hcz0
            have hzg : Hid (os.getD i 0 = z) := (show _ = _ by rw [List.getD_eq_getElem?_getD, hz]; rfl)
            clear hcz0 hz
            go_wp2_with fail
            go_meet
            exact ⟨by rw [hzg.out], rfl⟩
          · have hzg : Hid (os.getD i 0 = 0) := (show _ = _ by rw [List.getD_eq_getElem?_getD, List.getElem?_eq_none (by have := HN2.out; omega)]; rfl)
            go_wp2_with fail
            go_meet
            exact ⟨by rw [hzg.out], rfl⟩
        case rest =>
          obtain ⟨rfl, rfl⟩ := hcut
          have HMO : Hid (moF xs os i = mo1 x (os.getD i 0)) := (show _ = _ by unfold moF; rw [HXG.out])
          generalize os.getD i 0 = o at *
          go_upto_region 10 with (fail)
          go_cut [93] (fun s93 wc' => s93 = .bool (decide (o < -100 ∨ o > 100 ∨ x + o < -100 ∨ x + o > 100)) ∧ wc' = wc)
          case first => as_aux_lemma =>
            have hc : o < -100 ∨ (¬ o < -100 ∧ o > 100) ∨ (¬ o < -100 ∧ ¬ o > 100 ∧ x + o < -100) ∨ (¬ o < -100 ∧ ¬ o > 100 ∧ ¬ x + o < -100 ∧ x + o > 100) ∨ (¬ o < -100 ∧ ¬ o > 100 ∧ ¬ x + o < -100 ∧ ¬ x + o > 100) := by omega
            rcases hc with h1 | ⟨h1, h2⟩ | ⟨h1, h2, h3⟩ | ⟨h1, h2, h3, h4⟩ | ⟨h1, h2, h3, h4⟩
            all_goals
              go_wp2_with fail
              go_meet
              refine ⟨?_, rfl⟩
              first | rfl | (congr 1; symm; simp; omega)
          case rest =>
            obtain ⟨rfl, rfl⟩ := hcut
            go_upto_if 93 with (fail)
            go_cut [12] (fun s12 wc' => s12 = .int .i64 (moF xs os i) ∧ wc' = wc)
            case first => as_aux_lemma =>
              by_cases hm : o < -100 ∨ o > 100 ∨ x + o < -100 ∨ x + o > 100
              · have e : Hid (moF xs os i = 0) := (show _ = _ by rw [HMO.out]; unfold mo1; rw [if_pos hm])
                have hm' := decide_eq_true hm
                clear hm
                generalize decide (o < -100 ∨ o > 100 ∨ x + o < -100 ∨ x + o > 100) = tt at *
                subst hm'
                go_wp2_with fail
                go_meet
                exact ⟨by rw [e.out], rfl⟩
              · have e : Hid (moF xs os i = o) := (show _ = _ by rw [HMO.out]; unfold mo1; rw [if_neg hm])
                have hm' := decide_eq_false hm
                clear hm
                generalize decide (o < -100 ∨ o > 100 ∨ x + o < -100 ∨ x + o > 100) = tt at *
                subst hm'
                go_wp2_with fail
                go_meet
                exact ⟨by rw [e.out], rfl⟩
            case rest =>
              obtain ⟨rfl, rfl⟩ := hcut
              have HMB : Hid ((-100 ≤ moF xs os i ∧ moF xs os i ≤ 100) ∧ -100 ≤ x + moF xs os i ∧ x + moF xs os i ≤ 100) := (show _ ∧ _ by rw [HMO.out]; exact mo1_bd x o hxb)
              have hmb := HMB.out
              have HMF : Hid (moF xs os i = moF xs os i) := Lib.hid rfl
              clear HMF
              obtain ⟨m, hm⟩ : ∃ m, moF xs os i = m := ⟨_, rfl⟩
              have HM := Lib.hid hm
              rw [hm] at hmb ⊢
              clear hm
              generalize decide (o < -100 ∨ o > 100 ∨ x + o < -100 ∨ x + o > 100) = tt at *
              have hi400 : i + 1 ≤ 400 := by omega
              have HS1 : Hid (plainL xs (i + 1) = plainL xs i ++ [y]) := (show _ = _ by unfold plainL; rw [rowF_succ, HYG.out])
              have HS2 : Hid (minusL xs (i + 1) = minusL xs i ++ [-x]) := (show _ = _ by unfold minusL; rw [rowF_succ, HXG.out])
              have HS3 : Hid (moreL xs os (i + 1) = moreL xs os i ++ [m]) := (show _ = _ by unfold moreL; rw [rowF_succ, HM.out])
              have HS4 : Hid (bothL xs os (i + 1) = bothL xs os i ++ [x + m]) := (show _ = _ by unfold bothL; rw [rowF_succ, HXG.out, HM.out])
              have HE1 : Hid (((plainL xs i).length + 1) * 8 ≤ 140737488355328) := (show _ ≤ _ by unfold plainL; rw [rowF_len]; omega)
              have HE2 : Hid (((minusL xs i).length + 1) * 8 ≤ 140737488355328) := (show _ ≤ _ by unfold minusL; rw [rowF_len]; omega)
              have HE3 : Hid (((moreL xs os i).length + 1) * 8 ≤ 140737488355328) := (show _ ≤ _ by unfold moreL; rw [rowF_len]; omega)
              have HE4 : Hid (((bothL xs os i).length + 1) * 8 ≤ 140737488355328) := (show _ ≤ _ by unfold bothL; rw [rowF_len]; omega)
              have HK1 : Hid ((plainL xs i ++ [y]).length = i + 1) := (show _ = _ by unfold plainL; rw [List.length_append, rowF_len]; rfl)
              have HK2 : Hid ((minusL xs i ++ [-x]).length = i + 1) := (show _ = _ by unfold minusL; rw [List.length_append, rowF_len]; rfl)
              have HK3 : Hid ((moreL xs os i ++ [m]).length = i + 1) := (show _ = _ by unfold moreL; rw [List.length_append, rowF_len]; rfl)
              have HK4 : Hid ((bothL xs os i ++ [x + m]).length = i + 1) := (show _ = _ by unfold bothL; rw [List.length_append, rowF_len]; rfl)
              have wn : IntKind.i64.wrap (-x) = -x := by rw [IntKind.wrap_i64]; omega
              have ws : IntKind.i64.wrap (x + m) = x + m := by rw [IntKind.wrap_i64]; omega
              clear hi400
              go_upto_region 12 with (fail)
              have HF := Lib.hid (HL.out.drew.four)
              have HFB := Lib.hid (HL.out.drew.bel)
              have kp0 := (cellB HL.out.hp).1
              go_cut [12] (fun s12 wc' => s12 = .int .i64 m ∧ ∃ v, Hid (Lin w w.heap.size q r s p (.slice (some ⟨b0, o0, none⟩) n0 c0) (.slice A1 n1 c1) wc' b c d v (minusL xs i) (moreL xs os i) (bothL xs os i) (plainL xs (i + 1))))
              case first => as_aux_lemma =>
                have HD := Lib.hid (HL.out.drew)
                refine start_ (n := 10) (S := fun W => W.cell? ⟨p, 0, none⟩ = some a ∧ W.cell? ⟨w.heap.size, 0, none⟩ = some (.slice (some ⟨b0, o0, none⟩) n0 c0) ∧ W.cell? ⟨b0, o0, none⟩ = some (.int .i64 y)) (ds := [9]) #[false, false, false, false, false, false, false, false, false, false] (by as_aux_lemma => kernel_rfl) rfl rfl ⟨(cellB HD.out.hp).1, (cellB HD.out.hg).1, cell_below HD.out.bel (by have := HCY.out; simpa using this)⟩ (fun hH => ?_)
                refine with_tabW lin_tab12 lin_bits12 (fun HT HW => ?_)
                clear kp0 kg hcx hcy HF HFB
                generalize wc.drew = Wd at HD hH ⊢
                refine pure_ (i := 0) (N := some 94) (v := ?_) (a' := ?_) #[true, false, false, false, false, false, false, false, false, false] rfl rfl (any_of HT.out (by as_aux_lemma => kernel_rfl)) (fun _ _ _ h => h) (Or.inl ⟨by rfl, ?_⟩) ?_ ?_
                rotate_left
                · (intro w'; go_simp; with_reducible rfl)
                rotate_left
                · (simp only [Act.put, List.setIfInBounds_toArray, List.set_cons_zero, List.set_cons_succ, i64_w, i32_w]; rfl)
                refine take_ (i := 1) (N := some 95) (v := ?_) (a' := ?_) #[true, true, false, false, false, false, false, false, false, false] rfl rfl (take_ofW HT.out HW.out (by as_aux_lemma => kernel_rfl)) (fun _ _ _ h => h) (Or.inl ⟨by rfl, ?_⟩) hH ?_ ?_
                rotate_left
                · (rintro w' ⟨s0, s1, s2⟩; go_simp; with_reducible rfl)
                rotate_left
                · (simp only [Act.put, List.setIfInBounds_toArray, List.set_cons_zero, List.set_cons_succ, i64_w, i32_w]; rfl)
                refine pure_ (i := 2) (N := some 96) (v := ?_) (a' := ?_) #[true, true, true, false, false, false, false, false, false, false] rfl rfl (any_of HT.out (by as_aux_lemma => kernel_rfl)) (fun _ _ _ h => h) (Or.inl ⟨by rfl, ?_⟩) ?_ ?_
                rotate_left
                · (intro w'; go_simp; with_reducible rfl)
                rotate_left
                · (simp only [Act.put, List.setIfInBounds_toArray, List.set_cons_zero, List.set_cons_succ, i64_w, i32_w]; rfl)
                refine take_ (i := 3) (N := some 97) (v := ?_) (a' := ?_) #[true, true, true, true, false, false, false, false, false, false] rfl rfl (take_ofW HT.out HW.out (by as_aux_lemma => kernel_rfl)) (fun _ _ _ h => h) (Or.inl ⟨by rfl, ?_⟩) hH ?_ ?_
                rotate_left
                · (rintro w' ⟨s0, s1, s2⟩; go_simp; with_reducible rfl)
                rotate_left
                · (simp only [Act.put, List.setIfInBounds_toArray, List.set_cons_zero, List.set_cons_succ, i64_w, i32_w]; rfl)
                refine pure_ (i := 4) (N := some 98) (v := ?_) (a' := ?_) #[true, true, true, true, true, false, false, false, false, false] rfl rfl (any_of HT.out (by as_aux_lemma => kernel_rfl)) (fun _ _ _ h => h) (Or.inl ⟨by rfl, ?_⟩) ?_ ?_
                rotate_left
                · (intro w'; go_simp; with_reducible rfl)
                rotate_left
                · (simp only [Act.put, List.setIfInBounds_toArray, List.set_cons_zero, List.set_cons_succ, i64_w, i32_w]; rfl)
                refine take_ (i := 5) (N := some 99) (v := ?_) (a' := ?_) #[true, true, true, true, true, true, false, false, false, false] rfl rfl (take_ofW HT.out HW.out (by as_aux_lemma => kernel_rfl)) (fun _ _ _ h => h) (Or.inl ⟨by rfl, ?_⟩) hH ?_ ?_
                rotate_left
                · (rintro w' ⟨s0, s1, s2⟩; go_simp; with_reducible rfl)
                rotate_left
                · (simp only [Act.put, List.setIfInBounds_toArray, List.set_cons_zero, List.set_cons_succ, i64_w, i32_w]; rfl)
                refine one_ (i := 6) (N := some 100) #[true, true, true, true, true, true, true, false, false, false] rfl rfl (one_of HT.out (by as_aux_lemma => kernel_rfl)) (by decide) (fun K hK => ?_)
                refine value_ (w1 := ?_) (v := ?_) (by rfl) rfl ?_ ?_
                rotate_left 2
                · go_simp
                  constructor
                  · rfl
                  · rfl
                refine hK.out _ _ ⟨cell_below (below_a1 Wd _) hH.1, cell_below (below_a1 Wd _) hH.2.1, cell_below (below_a1 Wd _) hH.2.2⟩ (fun hH2 => ?_)
                clear hK K
                refine norm_ (a' := ?_) ?_ ?_
                rotate_left
                · (show Act.put _ (some 100) _ = _; simp only [Act.put, List.setIfInBounds_toArray, List.set_cons_zero, List.set_cons_succ, i64_w, i32_w]; rfl)
                refine one_ (i := 7) (N := some 101) #[true, true, true, true, true, true, true, true, false, false] rfl rfl (one_of HT.out (by as_aux_lemma => kernel_rfl)) (by decide) (fun K hK => ?_)
                refine Kd.R_append_step (Kd.int .i64) (w0 := w) (W := Wd) w.heap.size rfl (.tmp 95) (.tmp 100) 22 3 (.int .i64 0) 8 rfl Try.underlying22 info3 rfl (by decide) (by decide) a (plainL xs i) (y) [.int .i64 (y)] (fun k => some k ≠ (b : Value).ownBlock ∧ some k ≠ (c : Value).ownBlock ∧ some k ≠ (d : Value).ownBlock) (fun _ => False) rfl rfl rfl (fun _ hk => hk.elim) (fun k hk => HD.out.four.fresh hk) HD.out.four.ra HD.out.bel HD.out.bel.size HE1.out ?_
                intro v1 w1 ho hb hg hat
                obtain ⟨Av, cv, hv⟩ := Kd.R_slice ho
                rw [HK1.out] at hv
                subst hv
                have HNEW := Lib.hid (HD.out.app (W := Wd) HBK.out.1 rfl ho hb hg hat)
                have kp := (cellB (HD.out.old (W := Wd) rfl hg)).1
                have kf := (cellB (HD.out.old (W := Wd) rfl hg)).2.2
                refine hK.out _ _ ⟨kp, (cellB (HD.out.oldg (W := Wd) rfl hg)).1, cell_below hb (by have := HCY.out; simpa using this)⟩ (fun hH3 => ?_)
                clear ho hb hg hat hK K
                refine norm_ (a' := ?_) ?_ ?_
                rotate_left
                · (show Act.put _ (some 101) _ = _; simp only [Act.put, List.setIfInBounds_toArray, List.set_cons_zero, List.set_cons_succ, i64_w, i32_w]; rfl)
                refine pure_ (i := 8) (N := some 102) (v := ?_) (a' := ?_) #[true, true, true, true, true, true, true, true, true, false] rfl rfl (any_of HT.out (by as_aux_lemma => kernel_rfl)) (fun _ _ _ h => h) (Or.inl ⟨by rfl, ?_⟩) ?_ ?_
                rotate_left
                · (intro w'; go_simp; with_reducible rfl)
                rotate_left
                · (simp only [Act.put, List.setIfInBounds_toArray, List.set_cons_zero, List.set_cons_succ, i64_w, i32_w]; rfl)
                refine last_ (i := 9) (N := none) #[true, true, true, true, true, true, true, true, true, true] rfl rfl (one_of HT.out (by as_aux_lemma => kernel_rfl)) (by decide) (fun K hK => ?_)
                refine skip_ (w1 := ?_) (by rfl) rfl ?_ ?_
                rotate_left
                · (go_simp; rfl)
                refine hK.out _ _ ?_
                clear hK K
                refine done_ (done_of HT.out (by as_aux_lemma => kernel_rfl)) ?_
                go_wp2_with fail
                all_goals go_meet
                all_goals (refine ⟨rfl, .slice Av (i + 1) cv, ?_⟩; rw [HS1.out]; exact HNEW.out.rot)
              case rest =>
                obtain ⟨rfl, v1, HL1⟩ := hcut
                clear kp0 kg hcx hcy HF HFB HL
                rename World => W1
                go_upto_region 13 with (fail)
                have HF := Lib.hid (HL1.out.drew.four)
                have HFB := Lib.hid (HL1.out.drew.bel)
                have kp0 := (cellB HL1.out.hp).1
                have kg := (cellB HL1.out.hg).1
                have hcx := cell_below HL1.out.bel HCX.out
                have hcy := cell_below HL1.out.bel HCY.out
                go_cut [12] (fun s12 wc' => s12 = .int .i64 m ∧ ∃ v, Hid (Lin w w.heap.size r s p q (.slice (some ⟨b0, o0, none⟩) n0 c0) (.slice A1 n1 c1) wc' c d v1 v (moreL xs os i) (bothL xs os i) (plainL xs (i + 1)) (minusL xs (i + 1))))
                case first => as_aux_lemma =>
                  have HD := Lib.hid (HL1.out.drew)
                  refine start_ (n := 12) (S := fun W => W.cell? ⟨q, 0, none⟩ = some b ∧ W.cell? ⟨w.heap.size, 0, none⟩ = some (.slice (some ⟨b0, o0, none⟩) n0 c0) ∧ W.cell? ⟨b0, o0 + i, none⟩ = some (.int .i64 x)) (ds := [11]) #[false, false, false, false, false, false, false, false, false, false, false, false] (by as_aux_lemma => kernel_rfl) rfl rfl ⟨(cellB HD.out.hp).1, (cellB HD.out.hg).1, cell_below HD.out.bel (by have := HCX.out; simpa using this)⟩ (fun hH => ?_)
                  refine with_tabW lin_tab13 lin_bits13 (fun HT HW => ?_)
                  clear kp0 kg hcx hcy HF HFB
                  generalize W1.drew = Wd at HD hH ⊢
                  refine pure_ (i := 0) (N := some 103) (v := ?_) (a' := ?_) #[true, false, false, false, false, false, false, false, false, false, false, false] rfl rfl (any_of HT.out (by as_aux_lemma => kernel_rfl)) (fun _ _ _ h => h) (Or.inl ⟨by rfl, ?_⟩) ?_ ?_
                  rotate_left
                  · (intro w'; go_simp; with_reducible rfl)
                  rotate_left
                  · (simp only [Act.put, List.setIfInBounds_toArray, List.set_cons_zero, List.set_cons_succ, i64_w, i32_w]; rfl)
                  refine take_ (i := 1) (N := some 104) (v := ?_) (a' := ?_) #[true, true, false, false, false, false, false, false, false, false, false, false] rfl rfl (take_ofW HT.out HW.out (by as_aux_lemma => kernel_rfl)) (fun _ _ _ h => h) (Or.inl ⟨by rfl, ?_⟩) hH ?_ ?_
                  rotate_left
                  · (rintro w' ⟨s0, s1, s2⟩; go_simp; with_reducible rfl)
                  rotate_left
                  · (simp only [Act.put, List.setIfInBounds_toArray, List.set_cons_zero, List.set_cons_succ, i64_w, i32_w]; rfl)
                  refine pure_ (i := 2) (N := some 105) (v := ?_) (a' := ?_) #[true, true, true, false, false, false, false, false, false, false, false, false] rfl rfl (any_of HT.out (by as_aux_lemma => kernel_rfl)) (fun _ _ _ h => h) (Or.inl ⟨by rfl, ?_⟩) ?_ ?_
                  rotate_left
                  · (intro w'; go_simp; with_reducible rfl)
                  rotate_left
                  · (simp only [Act.put, List.setIfInBounds_toArray, List.set_cons_zero, List.set_cons_succ, i64_w, i32_w]; rfl)
                  refine take_ (i := 3) (N := some 106) (v := ?_) (a' := ?_) #[true, true, true, true, false, false, false, false, false, false, false, false] rfl rfl (take_ofW HT.out HW.out (by as_aux_lemma => kernel_rfl)) (fun _ _ _ h => h) (Or.inl ⟨by rfl, ?_⟩) hH ?_ ?_
                  rotate_left
                  · (rintro w' ⟨s0, s1, s2⟩; go_simp; with_reducible rfl)
                  rotate_left
                  · (simp only [Act.put, List.setIfInBounds_toArray, List.set_cons_zero, List.set_cons_succ, i64_w, i32_w]; rfl)
                  refine pure_ (i := 4) (N := some 107) (v := ?_) (a' := ?_) #[true, true, true, true, true, false, false, false, false, false, false, false] rfl rfl (any_of HT.out (by as_aux_lemma => kernel_rfl)) (fun _ _ _ h => h) (Or.inl ⟨by rfl, ?_⟩) ?_ ?_
                  rotate_left
                  · (intro w'; go_simp; with_reducible rfl)
                  rotate_left
                  · (simp only [Act.put, List.setIfInBounds_toArray, List.set_cons_zero, List.set_cons_succ, i64_w, i32_w]; rfl)
                  refine pure_ (i := 5) (N := some 108) (v := ?_) (a' := ?_) #[true, true, true, true, true, true, false, false, false, false, false, false] rfl rfl (any_of HT.out (by as_aux_lemma => kernel_rfl)) (fun _ _ _ h => h) (Or.inl ⟨by rfl, ?_⟩) ?_ ?_
                  rotate_left
                  · (intro w'; go_simp; with_reducible rfl)
                  rotate_left
                  · (simp only [Act.put, List.setIfInBounds_toArray, List.set_cons_zero, List.set_cons_succ, i64_w, i32_w]; rfl)
                  refine take_ (i := 6) (N := some 109) (v := ?_) (a' := ?_) #[true, true, true, true, true, true, true, false, false, false, false, false] rfl rfl (take_ofW HT.out HW.out (by as_aux_lemma => kernel_rfl)) (fun _ _ _ h => h) (Or.inl ⟨by rfl, ?_⟩) hH ?_ ?_
                  rotate_left
                  · (rintro w' ⟨s0, s1, s2⟩; go_simp; with_reducible rfl)
                  rotate_left
                  · (simp only [Act.put, List.setIfInBounds_toArray, List.set_cons_zero, List.set_cons_succ, i64_w, i32_w]; rfl)
                  refine pure_ (i := 7) (N := some 110) (v := ?_) (a' := ?_) #[true, true, true, true, true, true, true, true, false, false, false, false] rfl rfl (any_of HT.out (by as_aux_lemma => kernel_rfl)) (fun _ _ _ h => h) (Or.inl ⟨by rfl, ?_⟩) ?_ ?_
                  rotate_left
                  · (intro w'; go_simp; with_reducible rfl)
                  rotate_left
                  · (simp only [Act.put, List.setIfInBounds_toArray, List.set_cons_zero, List.set_cons_succ, i64_w, i32_w]; rfl)
                  refine one_ (i := 8) (N := some 111) #[true, true, true, true, true, true, true, true, true, false, false, false] rfl rfl (one_of HT.out (by as_aux_lemma => kernel_rfl)) (by decide) (fun K hK => ?_)
                  refine value_ (w1 := ?_) (v := ?_) (by rfl) rfl ?_ ?_
                  rotate_left 2
                  · go_simp
                    constructor
                    · rfl
                    · rfl
                  refine hK.out _ _ ⟨cell_below (below_a1 Wd _) hH.1, cell_below (below_a1 Wd _) hH.2.1, cell_below (below_a1 Wd _) hH.2.2⟩ (fun hH2 => ?_)
                  clear hK K
                  refine norm_ (a' := ?_) ?_ ?_
                  rotate_left
                  · (show Act.put _ (some 111) _ = _; simp only [Act.put, List.setIfInBounds_toArray, List.set_cons_zero, List.set_cons_succ, i64_w, i32_w]; rfl)
                  refine one_ (i := 9) (N := some 112) #[true, true, true, true, true, true, true, true, true, true, false, false] rfl rfl (one_of HT.out (by as_aux_lemma => kernel_rfl)) (by decide) (fun K hK => ?_)
                  refine Kd.R_append_step (Kd.int .i64) (w0 := w) (W := Wd) w.heap.size rfl (.tmp 104) (.tmp 111) 22 3 (.int .i64 0) 8 rfl Try.underlying22 info3 rfl (by decide) (by decide) b (minusL xs i) (-x) [.int .i64 (-x)] (fun k => some k ≠ (c : Value).ownBlock ∧ some k ≠ (d : Value).ownBlock ∧ some k ≠ (v1 : Value).ownBlock) (fun _ => False) rfl rfl rfl (fun _ hk => hk.elim) (fun k hk => HD.out.four.fresh hk) HD.out.four.ra HD.out.bel HD.out.bel.size HE2.out ?_
                  intro v1 w1 ho hb hg hat
                  obtain ⟨Av, cv, hv⟩ := Kd.R_slice ho
                  rw [HK2.out] at hv
                  subst hv
                  have HNEW := Lib.hid (HD.out.app (W := Wd) HBK.out.2.1 rfl ho hb hg hat)
                  have kp := (cellB (HD.out.old (W := Wd) rfl hg)).1
                  have kf := (cellB (HD.out.old (W := Wd) rfl hg)).2.2
                  refine hK.out _ _ ⟨kp, (cellB (HD.out.oldg (W := Wd) rfl hg)).1, cell_below hb (by have := HCX.out; simpa using this)⟩ (fun hH3 => ?_)
                  clear ho hb hg hat hK K
                  refine norm_ (a' := ?_) ?_ ?_
                  rotate_left
                  · (show Act.put _ (some 112) _ = _; simp only [Act.put, List.setIfInBounds_toArray, List.set_cons_zero, List.set_cons_succ, i64_w, i32_w]; rfl)
                  refine pure_ (i := 10) (N := some 113) (v := ?_) (a' := ?_) #[true, true, true, true, true, true, true, true, true, true, true, false] rfl rfl (any_of HT.out (by as_aux_lemma => kernel_rfl)) (fun _ _ _ h => h) (Or.inl ⟨by rfl, ?_⟩) ?_ ?_
                  rotate_left
                  · (intro w'; go_simp; with_reducible rfl)
                  rotate_left
                  · (simp only [Act.put, List.setIfInBounds_toArray, List.set_cons_zero, List.set_cons_succ, i64_w, i32_w]; rfl)
                  refine last_ (i := 11) (N := none) #[true, true, true, true, true, true, true, true, true, true, true, true] rfl rfl (one_of HT.out (by as_aux_lemma => kernel_rfl)) (by decide) (fun K hK => ?_)
                  refine skip_ (w1 := ?_) (by rfl) rfl ?_ ?_
                  rotate_left
                  · (go_simp; rfl)
                  refine hK.out _ _ ?_
                  clear hK K
                  refine done_ (done_of HT.out (by as_aux_lemma => kernel_rfl)) ?_
                  go_wp2_with fail
                  all_goals go_meet
                  all_goals (refine ⟨rfl, .slice Av (i + 1) cv, ?_⟩; rw [HS2.out]; exact HNEW.out.rot)
                case rest =>
                  obtain ⟨rfl, v2, HL2⟩ := hcut
                  clear kp0 kg hcx hcy HF HFB HL1
                  rename World => W2
                  go_upto_region 14 with (fail)
                  have HF := Lib.hid (HL2.out.four)
                  have HFB := Lib.hid (HL2.out.bel)
                  have kp0 := (cellB HL2.out.hp).1
                  have kg := (cellB HL2.out.hg).1
                  have hcx := cell_below HL2.out.bel HCX.out
                  have hcy := cell_below HL2.out.bel HCY.out
                  have kp0f := (cellB HL2.out.hp).2.2
                  go_cut [12] (fun s12 wc' => s12 = .int .i64 m ∧ ∃ v, Hid (Lin w w.heap.size s p q r (.slice (some ⟨b0, o0, none⟩) n0 c0) (.slice A1 n1 c1) wc' d v1 v2 v (bothL xs os i) (plainL xs (i + 1)) (minusL xs (i + 1)) (moreL xs os (i + 1))))
                  case first => as_aux_lemma =>
                    go_wp2_with (first | (at_builtin; refine Kd.R_append (Kd.int .i64) (w0 := w) (W := W2) w.heap.size rfl (.tmp 115) (.tmp 117) 22 3 (.int .i64 0) 8 rfl Try.underlying22 info3 rfl (by decide) (by decide) c (moreL xs os i) (m) [.int .i64 (m)] (fun k => some k ≠ (d : Value).ownBlock ∧ some k ≠ (v1 : Value).ownBlock ∧ some k ≠ (v2 : Value).ownBlock) (fun _ => False) rfl rfl rfl (fun _ hk => hk.elim) (fun k hk => HF.out.fresh hk) HF.out.ra HFB.out HFB.out.size HE3.out ?_; intro v1 w1 ho hb hg hat; obtain ⟨Av, cv, hv⟩ := Kd.R_slice ho; rw [HK3.out] at hv; subst hv; have HNEW := Lib.hid (HL2.out.app (W := W2) HBK.out.2.2.1 rfl ho hb hg hat); have kp := (cellB (HL2.out.old (W := W2) rfl hg)).1; have kf := (cellB (HL2.out.old (W := W2) rfl hg)).2.2; clear ho hb hg hat))
                    all_goals go_meet
                    all_goals (refine ⟨rfl, .slice Av (i + 1) cv, ?_⟩; rw [HS3.out]; exact HNEW.out.rot)
                  case rest =>
                    obtain ⟨rfl, v3, HL3⟩ := hcut
                    clear kp0 kp0f kg hcx hcy HF HFB HL2
                    rename World => W3
                    go_upto_region 15 with (fail)
                    have HF := Lib.hid (HL3.out.drew.four)
                    have HFB := Lib.hid (HL3.out.drew.bel)
                    have kp0 := (cellB HL3.out.hp).1
                    have kg := (cellB HL3.out.hg).1
                    have hcx := cell_below HL3.out.bel HCX.out
                    have hcy := cell_below HL3.out.bel HCY.out
                    have HD := Lib.hid (HL3.out.drew)
                    refine start_ (n := 13) (S := fun W => W.cell? ⟨s, 0, none⟩ = some d ∧ W.cell? ⟨w.heap.size, 0, none⟩ = some (.slice (some ⟨b0, o0, none⟩) n0 c0) ∧ W.cell? ⟨b0, o0 + i, none⟩ = some (.int .i64 x)) (ds := [12]) #[false, false, false, false, false, false, false, false, false, false, false, false, false] (by as_aux_lemma => kernel_rfl) rfl rfl ⟨(cellB HD.out.hp).1, (cellB HD.out.hg).1, cell_below HD.out.bel (by have := HCX.out; simpa using this)⟩ (fun hH => ?_)
                    refine with_tabW lin_tab15 lin_bits15 (fun HT HW => ?_)
                    clear kp0 kg hcx hcy HF HFB
                    generalize W3.drew = Wd at HD hH ⊢
                    refine pure_ (i := 0) (N := some 120) (v := ?_) (a' := ?_) #[true, false, false, false, false, false, false, false, false, false, false, false, false] rfl rfl (any_of HT.out (by as_aux_lemma => kernel_rfl)) (fun _ _ _ h => h) (Or.inl ⟨by rfl, ?_⟩) ?_ ?_
                    rotate_left
                    · (intro w'; go_simp; with_reducible rfl)
                    rotate_left
                    · (simp only [Act.put, List.setIfInBounds_toArray, List.set_cons_zero, List.set_cons_succ, i64_w, i32_w]; rfl)
                    refine take_ (i := 1) (N := some 121) (v := ?_) (a' := ?_) #[true, true, false, false, false, false, false, false, false, false, false, false, false] rfl rfl (take_ofW HT.out HW.out (by as_aux_lemma => kernel_rfl)) (fun _ _ _ h => h) (Or.inl ⟨by rfl, ?_⟩) hH ?_ ?_
                    rotate_left
                    · (rintro w' ⟨s0, s1, s2⟩; go_simp; with_reducible rfl)
                    rotate_left
                    · (simp only [Act.put, List.setIfInBounds_toArray, List.set_cons_zero, List.set_cons_succ, i64_w, i32_w]; rfl)
                    refine pure_ (i := 2) (N := some 122) (v := ?_) (a' := ?_) #[true, true, true, false, false, false, false, false, false, false, false, false, false] rfl rfl (any_of HT.out (by as_aux_lemma => kernel_rfl)) (fun _ _ _ h => h) (Or.inl ⟨by rfl, ?_⟩) ?_ ?_
                    rotate_left
                    · (intro w'; go_simp; with_reducible rfl)
                    rotate_left
                    · (simp only [Act.put, List.setIfInBounds_toArray, List.set_cons_zero, List.set_cons_succ, i64_w, i32_w]; rfl)
                    refine take_ (i := 3) (N := some 123) (v := ?_) (a' := ?_) #[true, true, true, true, false, false, false, false, false, false, false, false, false] rfl rfl (take_ofW HT.out HW.out (by as_aux_lemma => kernel_rfl)) (fun _ _ _ h => h) (Or.inl ⟨by rfl, ?_⟩) hH ?_ ?_
                    rotate_left
                    · (rintro w' ⟨s0, s1, s2⟩; go_simp; with_reducible rfl)
                    rotate_left
                    · (simp only [Act.put, List.setIfInBounds_toArray, List.set_cons_zero, List.set_cons_succ, i64_w, i32_w]; rfl)
                    refine pure_ (i := 4) (N := some 124) (v := ?_) (a' := ?_) #[true, true, true, true, true, false, false, false, false, false, false, false, false] rfl rfl (any_of HT.out (by as_aux_lemma => kernel_rfl)) (fun _ _ _ h => h) (Or.inl ⟨by rfl, ?_⟩) ?_ ?_
                    rotate_left
                    · (intro w'; go_simp; with_reducible rfl)
                    rotate_left
                    · (simp only [Act.put, List.setIfInBounds_toArray, List.set_cons_zero, List.set_cons_succ, i64_w, i32_w]; rfl)
                    refine pure_ (i := 5) (N := some 125) (v := ?_) (a' := ?_) #[true, true, true, true, true, true, false, false, false, false, false, false, false] rfl rfl (any_of HT.out (by as_aux_lemma => kernel_rfl)) (fun _ _ _ h => h) (Or.inl ⟨by rfl, ?_⟩) ?_ ?_
                    rotate_left
                    · (intro w'; go_simp; with_reducible rfl)
                    rotate_left
                    · (simp only [Act.put, List.setIfInBounds_toArray, List.set_cons_zero, List.set_cons_succ, i64_w, i32_w]; rfl)
                    refine take_ (i := 6) (N := some 126) (v := ?_) (a' := ?_) #[true, true, true, true, true, true, true, false, false, false, false, false, false] rfl rfl (take_ofW HT.out HW.out (by as_aux_lemma => kernel_rfl)) (fun _ _ _ h => h) (Or.inl ⟨by rfl, ?_⟩) hH ?_ ?_
                    rotate_left
                    · (rintro w' ⟨s0, s1, s2⟩; go_simp; with_reducible rfl)
                    rotate_left
                    · (simp only [Act.put, List.setIfInBounds_toArray, List.set_cons_zero, List.set_cons_succ, i64_w, i32_w]; rfl)
                    refine pure_ (i := 7) (N := some 127) (v := ?_) (a' := ?_) #[true, true, true, true, true, true, true, true, false, false, false, false, false] rfl rfl (any_of HT.out (by as_aux_lemma => kernel_rfl)) (fun _ _ _ h => h) (Or.inl ⟨by rfl, ?_⟩) ?_ ?_
                    rotate_left
                    · (intro w'; go_simp; with_reducible rfl)
                    rotate_left
                    · (simp only [Act.put, List.setIfInBounds_toArray, List.set_cons_zero, List.set_cons_succ, i64_w, i32_w]; rfl)
                    refine pure_ (i := 8) (N := some 128) (v := ?_) (a' := ?_) #[true, true, true, true, true, true, true, true, true, false, false, false, false] rfl rfl (any_of HT.out (by as_aux_lemma => kernel_rfl)) (fun _ _ _ h => h) (Or.inl ⟨by rfl, ?_⟩) ?_ ?_
                    rotate_left
                    · (intro w'; go_simp; with_reducible rfl)
                    rotate_left
                    · (simp only [Act.put, List.setIfInBounds_toArray, List.set_cons_zero, List.set_cons_succ, i64_w, i32_w]; rfl)
                    refine one_ (i := 9) (N := some 129) #[true, true, true, true, true, true, true, true, true, true, false, false, false] rfl rfl (one_of HT.out (by as_aux_lemma => kernel_rfl)) (by decide) (fun K hK => ?_)
                    refine value_ (w1 := ?_) (v := ?_) (by rfl) rfl ?_ ?_
                    rotate_left 2
                    · go_simp
                      constructor
                      · rfl
                      · rfl
                    refine hK.out _ _ ⟨cell_below (below_a1 Wd _) hH.1, cell_below (below_a1 Wd _) hH.2.1, cell_below (below_a1 Wd _) hH.2.2⟩ (fun hH2 => ?_)
                    clear hK K
                    refine norm_ (a' := ?_) ?_ ?_
                    rotate_left
                    · (show Act.put _ (some 129) _ = _; simp only [Act.put, List.setIfInBounds_toArray, List.set_cons_zero, List.set_cons_succ, i64_w, i32_w]; rfl)
                    refine one_ (i := 10) (N := some 130) #[true, true, true, true, true, true, true, true, true, true, true, false, false] rfl rfl (one_of HT.out (by as_aux_lemma => kernel_rfl)) (by decide) (fun K hK => ?_)
                    refine Kd.R_append_step (Kd.int .i64) (w0 := w) (W := Wd) w.heap.size rfl (.tmp 121) (.tmp 129) 22 3 (.int .i64 0) 8 rfl Try.underlying22 info3 rfl (by decide) (by decide) d (bothL xs os i) (x + m) [.int .i64 (x + m)] (fun k => some k ≠ (v1 : Value).ownBlock ∧ some k ≠ (v2 : Value).ownBlock ∧ some k ≠ (v3 : Value).ownBlock) (fun _ => False) rfl rfl rfl (fun _ hk => hk.elim) (fun k hk => HD.out.four.fresh hk) HD.out.four.ra HD.out.bel HD.out.bel.size HE4.out ?_
                    intro v1 w1 ho hb hg hat
                    obtain ⟨Av, cv, hv⟩ := Kd.R_slice ho
                    rw [HK4.out] at hv
                    subst hv
                    have HNEW := Lib.hid (HD.out.app (W := Wd) HBK.out.2.2.2 rfl ho hb hg hat)
                    have kp := (cellB (HD.out.old (W := Wd) rfl hg)).1
                    have kf := (cellB (HD.out.old (W := Wd) rfl hg)).2.2
                    refine hK.out _ _ ⟨kp, (cellB (HD.out.oldg (W := Wd) rfl hg)).1, cell_below hb (by have := HCX.out; simpa using this)⟩ (fun hH3 => ?_)
                    clear ho hb hg hat hK K
                    refine norm_ (a' := ?_) ?_ ?_
                    rotate_left
                    · (show Act.put _ (some 130) _ = _; simp only [Act.put, List.setIfInBounds_toArray, List.set_cons_zero, List.set_cons_succ, i64_w, i32_w]; rfl)
                    refine pure_ (i := 11) (N := some 131) (v := ?_) (a' := ?_) #[true, true, true, true, true, true, true, true, true, true, true, true, false] rfl rfl (any_of HT.out (by as_aux_lemma => kernel_rfl)) (fun _ _ _ h => h) (Or.inl ⟨by rfl, ?_⟩) ?_ ?_
                    rotate_left
                    · (intro w'; go_simp; with_reducible rfl)
                    rotate_left
                    · (simp only [Act.put, List.setIfInBounds_toArray, List.set_cons_zero, List.set_cons_succ, i64_w, i32_w]; rfl)
                    refine last_ (i := 12) (N := none) #[true, true, true, true, true, true, true, true, true, true, true, true, true] rfl rfl (one_of HT.out (by as_aux_lemma => kernel_rfl)) (by decide) (fun K hK => ?_)
                    refine skip_ (w1 := ?_) (by rfl) rfl ?_ ?_
                    rotate_left
                    · (go_simp; rfl)
                    refine hK.out _ _ ?_
                    clear hK K
                    refine done_ (done_of HT.out (by as_aux_lemma => kernel_rfl)) ?_
                    go_wp2_with fail
                    go_roundg k1
                    case measure => omega
                    case rel => (refine ⟨i + 1, v1, v2, v3, .slice Av (i + 1) cv, by have := HI.out; omega, by first | rfl | go_num, ?_⟩; rw [HS1.out, HS2.out, HS3.out, HS4.out]; have := HNEW.out.rot; rw [HS1.out, HS2.out, HS3.out] at this; exact this)
end Go.Proofs.Ytcmjpcmdgnbbpaa.PH
