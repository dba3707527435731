/- slices.Repeat of one number: a new slice with the number so many times. -/
import Derived.Test.YtcmjpcmdgnbbpaaNewBox
import Derived.Shelf.Lay
import Derived.Shelf.LaySoft
import Derived.Shelf.Bits.Mul64
import Derived.Laws.CopyOwn
import Derived.Deep.RegionLaw
namespace Go.Proofs.Ytcmjpcmdgnbbpaa
open Go.Shelf
set_option linter.unusedSimpArgs false
shelf_lay Lays.n212 Nm 212 at Try as lays212
open Go.RowKit
theorem Mul_any (y : Nat) (hy : y < 18446744073709551616) (w : World) :
    Calls Try.prog 107 #[.int .u64 1, .int .u64 y] w fun e w' => e = .returned (.tuple #[.int .u64 0, .int .u64 y]) ∧ w' = w :=
  (Any.bits_Mul lays212 1 y (by omega) hy w).mono fun e w' ⟨h1, h2⟩ => by
    rw [Nat.one_mul, Nat.div_eq_of_lt hy, Nat.mod_eq_of_lt hy] at h1
    exact ⟨h1, h2⟩
/-- the number k times, and 0 -/
def repX (v : Int) (n k : Nat) : List Int := List.replicate k v ++ List.replicate (n - k) 0
theorem repX_len {v : Int} {n k : Nat} (h : k ≤ n) : (ints (repX v n k)).length = n := by simp [repX, ints]; omega
theorem made_rep (v : Int) (n : Nat) : madeCells #[.int .i64 0] n = (ints (repX v n 0)).toArray := by
  rw [made_zero]
  simp [repX, nats, ints]
theorem repX_splice {v : Int} {n k d : Nat} (h : k + d ≤ n) : splice (ints (repX v n k)) k (ints (List.replicate d v)) = ints (repX v n (k + d)) := by
  unfold splice repX ints
  simp only [List.map_append, List.map_replicate, List.length_replicate]
  rw [List.take_append_of_le_length (by simp), List.take_of_length_le (by simp), List.drop_append, List.drop_eq_nil_of_le (by simp)]
  simp only [List.length_replicate, List.nil_append, List.drop_replicate]
  rw [show n - k - (k + d - k) = n - (k + d) by omega, ← List.append_assoc, List.replicate_append_replicate]
set_option maxRecDepth 100000 in
set_option maxHeartbeats 4000000 in
theorem Repeat_any (v : Int) (n : Nat) (A : Option Addr) (c : Nat) (w : World) (h : RdI w A 1 c [v]) (h1 : 1 ≤ n) (hn : n ≤ 100) :
    Calls Try.prog 85 #[.slice A 1 c, .int .i64 n] w fun e w' => ∃ g, e = .returned (.slice (some ⟨g, 0, none⟩) n n) ∧ w.heap.size ≤ g ∧ w'.heap[g]? = some (.cells (ints (List.replicate n v)).toArray 3 (0, 0)) ∧ Below w.heap.size w w' := by
  obtain ⟨ab, ao, x, rfl, hx, hcx⟩ := h.at (show 0 < 1 by omega)
  obtain rfl : v = x := by simpa using hx
  have HM := Lib.hid (Mul_any n (by omega) w)
  have HMK : Hid (∀ w, (Instr.makeSlice 22 (.int .i64 n) (.int .i64 n)).run Try.prog w = .ok (.slice (some ⟨w.heap.size, 0, none⟩) n n) (w.alloc (.cells (madeCells #[.int .i64 0] n) 3))) := (show ∀ w, _ from fun w => run_make22n n (by omega) w)
  have HX := Lib.hid hcx
  clear h hx hcx
  have e1 : wrap64 (n : Int) = n := w64 _ (by omega) (by omega)
  have e2 : IntKind.u64.wrap (n : Int) = n := by rw [IntKind.wrap_u64]; omega
  have e3 : IntKind.i64.wrap (n : Int) = n := by rw [IntKind.wrap_i64]; omega
  have hmk := HMK.out
  go_enter Try.func85, Try.ntmps85
  go_wp2_with (first
    | (go_at_call 107; (with_reducible refine HM.out.mono ?_); rintro e w' ⟨rfl, rfl⟩)
    | (with_reducible refine wpList_copy_splice (o := ⟨some 33, _, _, _, _, _⟩) rfl (.tmp 31) (.tmp 32) 22 22 rfl 3 Try.underlying22 (by kernel_rfl) (some ⟨w'.heap.size, 0, none⟩) (some ⟨ab, ao, none⟩) n n 1 c ?_ ?_ w'.heap.size 0 (ints (repX v n 0)) 3 ?_ (ints (List.replicate 1 v)) ?_ ?_ ?_ ?_ w'.heap.size w' ?_ (Nat.le_refl _) ?_
       · simp [Act.eval, Act.put]
       · simp [Act.eval, Act.put]
       · rw [heap_alloc_new, made_rep]
       · simp [ints]; exact (Nat.min_eq_left (by omega)).symm
       · intro _; refine ⟨rfl, _, rfl, fun j u hj => ?_⟩
         obtain rfl : j = 0 := by have := (List.getElem?_eq_some_iff.1 hj).1; simpa [ints] using this
         obtain rfl : Value.int .i64 v = u := by simpa [ints] using hj
         rw [Addr.add_lit]
         exact cell_below (below_a1 _ _) HX.out
       · rw [repX_len (by omega)]; simp [ints]; omega
       · intro u hu; simp [ints] at hu; subst hu; rfl
       · exact below_a1 _ _
       intro w2 HG2 hB2
       have HB2 := Lib.hid hB2; clear hB2))
  rw [repX_splice (by omega)] at HG2
  generalize hgq : w'.heap.size = g at *
  have HGQ := Lib.hid hgq
  clear hgq
  try simp only [ints, List.length_map, List.length_replicate]
  go_loopw [8] (fun i wr => ∃ k : Nat, 1 ≤ k ∧ k ≤ n ∧ i = .int .i64 k ∧ Hid (wr.heap[g]? = some (.cells (ints (repX v n k)).toArray 3 (0, 0))) ∧ Hid (Below g w' wr)) (fun i _ => n - (intOf i).toNat)
  case atStart => exact ⟨1, by omega, by omega, by first | rfl | go_num, HG2, HB2.out⟩
  case round =>
    obtain ⟨k, hk1, hk, rfl, HG, HB⟩ := hrel
    by_cases hlt : k < n
    · have a1 : (k : Int) ≤ n := by omega
      have a2 : IntKind.i64.wrap ((n : Int) - (k : Int)) = (n : Int) - k := by rw [IntKind.wrap_i64]; omega
      obtain ⟨d, hd⟩ : ∃ d, Nat.min k (n - k) = d := ⟨_, rfl⟩
      have hd2 : d ≤ k ∧ d ≤ n - k ∧ 1 ≤ d := by
        have : d = min k (n - k) := hd.symm
        omega
      have HD := Lib.hid hd
      clear hd
      have hnk : ¬ n = k := by omega
      have hdl : (ints (List.replicate d v)).length = d := by simp [ints]
      have a3 : IntKind.i64.wrap ((k : Int) + (d : Int)) = (k : Int) + d := by rw [IntKind.wrap_i64]; omega
      go_wp2_with fail
      go_region_law (first
        | (refine step_copy_splice rfl (.tmp 41) (.tmp 44) 22 22 rfl 3 Try.underlying22 (by kernel_rfl) (some ⟨g, k, none⟩) (some ⟨g, 0, none⟩) (n - k) (n - k) k n ?_ ?_ g k (ints (repX v n k)) 3 ?_ (ints (List.replicate d v)) ?_ ?_ ?_ ?_ g w' ?_ (Nat.le_refl _) ?_
           · simp [Act.eval, Act.put, hnk]
           · simp [Act.eval, Act.put]
           · exact HG.out
           · rw [HD.out]; simp [ints]
           · intro _; refine ⟨rfl, _, rfl, fun j u hj => ?_⟩
             have hjd : j < d := by have := (List.getElem?_eq_some_iff.1 hj).1; simpa [ints] using this
             obtain rfl : Value.int .i64 v = u := by simpa [ints, hjd] using hj
             rw [Addr.add_lit, Nat.zero_add]
             have hjk : j < k := by omega
             have : (wr.drew).heap[g]? = some (.cells (ints (repX v n k)).toArray 3 (0, 0)) := HG.out
             exact cell_of_heap2 this (by simp [ints, repX, List.getElem?_append, hjk])
           · rw [repX_len hk]; simp [ints]; omega
           · intro u hu
             simp only [ints, List.map_replicate] at hu
             obtain rfl := (List.mem_replicate.1 hu).2
             rfl
           · exact HB.out.drew
           intro w2 HG2 hB2
           rw [repX_splice (by omega)] at HG2
           have HB2 := Lib.hid hB2; clear hB2))
      go_wp2_with fail
      try go_simp
      go_roundw
      case rel => exact ⟨k + d, by omega, by omega, by omega, HG2⟩
      case measure => simp [intOf]; omega
    · obtain rfl : k = n := by omega
      go_wp2_with fail
      go_ret
      refine ⟨g, rfl, by rw [HGQ.out]; exact Nat.le_refl _, ?_, by rw [HGQ.out]; exact HB.out⟩
      have := HG.out
      unfold repX at this
      rwa [Nat.sub_self, List.replicate_zero, List.append_nil] at this
end Go.Proofs.Ytcmjpcmdgnbbpaa
