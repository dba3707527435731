/- What the call of Certain answers: the sensors and the gears that are in every explanation with the fewest members. -/
import Derived.Test.YtcmjpcmdgnbbpaaMExplain
namespace Go.Proofs.Ytcmjpcmdgnbbpaa.PE
open Go.RowKit Go.Proofs.YtcmjpcmdgnbbpaaW.PrintWords Go.Proofs.YtcmjpcmdgnbbpaaW.PrintLast Go.Proofs.YtcmjpcmdgnbbpaaW.PrintMore
set_option linter.unusedVariables false
set_option maxHeartbeats 1000000 in
theorem index_i (A : Option Addr) (n c : Nat) (xs : List Int) (v : Int) (w : World) (h : RdI w A n c xs) :
    Calls Try.prog 116 #[.slice A n c, .int .i64 v] w fun e w' => e = .returned (.int .i64 (idxOf (fun y => v == y) xs 0)) ∧ w = w' := by
  have hbig := h.size
  have H := Lib.hid h
  have HS : Hid (idxOf (fun y => v == y) xs 0 = idxOf (fun y => v == y) (xs.drop 0) 0) := (show _ = _ by simp)
  clear h
  go_enter Try.func116, Try.ntmps116
  go_wp2_with fail
  go_loop [5, 8] (fun s i => ∃ k : Nat, k ≤ n ∧ i = .int .i64 k ∧ Hid (idxOf (fun y => v == y) xs 0 = idxOf (fun y => v == y) (xs.drop k) k)) (fun _ i => n - (intOf i).toNat)
  case atStart => exact ⟨0, Nat.zero_le _, rfl, HS⟩
  case round =>
    obtain ⟨k, hk, rfl, HI⟩ := hrel
    by_cases hlt : k < n
    · obtain ⟨b, off, x, rfl, hx, hc⟩ := H.out.at hlt
      have HX := Lib.hid hx; clear hx HS
      cases hq : (v == x) with
      | true =>
        have HQ := Lib.hid hq
        go_wp2_with fail
        go_ret
        refine ⟨ret_int ?_, rfl⟩
        rw [HI.out, drop_of HX.out, idxOf, if_pos HQ.out]
      | false =>
        have HQ := Lib.hid hq
        go_wp2_with fail
        go_round
        case rel => exact ⟨k + 1, by omega, by go_num, (show _ = _ by rw [HI.out, drop_of HX.out, idxOf, if_neg (by rw [HQ.out]; simp)])⟩
        case measure => simp [intOf]; omega
    · go_wp2_with fail
      go_ret
      refine ⟨ret_int ?_, rfl⟩
      rw [HI.out, List.drop_eq_nil_of_le (by have := H.out.len; omega)]; rfl
theorem contains_i (A : Option Addr) (n c : Nat) (xs : List Int) (v : Int) (w : World) (h : RdI w A n c xs) :
    Calls Try.prog 106 #[.slice A n c, .int .i64 v] w fun e w' => e = .returned (.bool (xs.any fun y => v == y)) ∧ w = w' := by
  have H := Lib.hid (index_i A n c xs v w h)
  have HS : Hid (decide (0 ≤ idxOf (fun y => v == y) xs 0) = xs.any fun y => v == y) := (show _ = _ from idxOf_any _ _ _)
  clear h
  generalize idxOf (fun y => v == y) xs 0 = r at *
  go_enter Try.func106, Try.ntmps106
  go_wp2_with (go_at_call 116; refine H.out.mono ?_; rintro e w' ⟨rfl, rfl⟩)
  go_ret
  exact ⟨ret_bool (by rw [← HS.out]), rfl⟩
theorem get77 (A1 A2 : Option Addr) (n1 c1 n2 c2 : Nat) (w : World) :
    Calls Try.prog 77 #[.agg #[.slice A1 n1 c1, .slice A2 n2 c2]] w fun e w' => e = .returned (.slice A1 n1 c1) ∧ Below w.heap.size w w' := by
  go_enter Try.func77, Try.ntmps77
  go_wp2_with fail
  go_ret
  exact ⟨rfl, below_a1 _ _⟩
theorem get78 (A1 A2 : Option Addr) (n1 c1 n2 c2 : Nat) (w : World) :
    Calls Try.prog 78 #[.agg #[.slice A1 n1 c1, .slice A2 n2 c2]] w fun e w' => e = .returned (.slice A2 n2 c2) ∧ Below w.heap.size w w' := by
  go_enter Try.func78, Try.ntmps78
  go_wp2_with fail
  go_ret
  exact ⟨rfl, below_a1 _ _⟩
/-- what an explanation's list is -/
def fieldX (sel : Bool) (bys : List Nat) (l : Nat) : List Int := if sel then mem l else mem (wornS bys l)
structure Getter (fn : Nat) (sel : Bool) : Prop where
  enters : ∀ args w, (callFunc fn args).run Try.prog w = .ok (.enter fn args) w
  get : ∀ (A1 : Option Addr) (n1 c1 : Nat) (A2 : Option Addr) (n2 c2 : Nat) (xs ys : List Int) (w : World), RdI w A1 n1 c1 xs → RdI w A2 n2 c2 ys →
    Calls Try.prog fn #[.agg #[.slice A1 n1 c1, .slice A2 n2 c2]] w fun e w' => (∃ A n c, e = .returned (.slice A n c) ∧ RdI w' A n c (if sel then xs else ys)) ∧ Below w.heap.size w w'
theorem getter77 : Getter 77 true := ⟨enters_of Try.func77 (by kernel_rfl) rfl, fun A1 n1 c1 A2 n2 c2 xs ys w h1 h2 => (get77 A1 A2 n1 c1 n2 c2 w).mono fun e w' ⟨he, hb⟩ => ⟨⟨A1, n1, c1, he, h1.below hb⟩, hb⟩⟩
theorem getter78 : Getter 78 false := ⟨enters_of Try.func78 (by kernel_rfl) rfl, fun A1 n1 c1 A2 n2 c2 xs ys w h1 h2 => (get78 A1 A2 n1 c1 n2 c2 w).mono fun e w' ⟨he, hb⟩ => ⟨⟨A2, n2, c2, he, h2.below hb⟩, hb⟩⟩
set_option maxHeartbeats 4000000 in
theorem common1_any (fn : Nat) (sel : Bool) (hg : Getter fn sel) (b1 b2 : Nat) (v : Int) (A1 A2 : Option Addr) (n1 c1 n2 c2 : Nat) (xs ys : List Int) (w : World)
    (h1 : w.cell? ⟨b1, 0, none⟩ = some (.func (.func fn) #[] #[])) (h2 : w.cell? ⟨b2, 0, none⟩ = some (.int .i64 v)) (hx : RdI w A1 n1 c1 xs) (hy : RdI w A2 n2 c2 ys) :
    Calls Try.prog 105 #[.agg #[.slice A1 n1 c1, .slice A2 n2 c2], .pointer (some ⟨b1, 0, none⟩), .pointer (some ⟨b2, 0, none⟩)] w fun e w' => e = .returned (.bool (!((if sel then xs else ys).any fun y => v == y))) ∧ Below w.heap.size w w' := by
  have eg := hg.enters
  have HG := Lib.hid (fun W hW1 hW2 => hg.get A1 n1 c1 A2 n2 c2 xs ys W hW1 hW2)
  have HX := Lib.hid hx
  have HY := Lib.hid hy
  have hb1 := World.block_lt_of_cell? w _ h1
  have hb2 := World.block_lt_of_cell? w _ h2
  clear hx hy hg
  simp only at hb1 hb2
  generalize hz : (if sel then xs else ys) = zs at *
  clear hz
  have HC : Hid (∀ (A : Option Addr) (n c : Nat) (W : World), RdI W A n c zs → Calls Try.prog 106 #[.slice A n c, .int .i64 v] W fun e w' => e = .returned (.bool (zs.any fun y => v == y)) ∧ W = w') := (show ∀ A, _ from fun A n c W h => contains_i A n c zs v W h)
  generalize (zs.any fun y => v == y) = r at *
  go_enter Try.func105, Try.ntmps105
  go_wp2_with fail
  go_region_held3 (fun W => W.cell? ⟨b1, 0, none⟩ = some (.func (.func fn) #[] #[]) ∧ W.cell? ⟨b2, 0, none⟩ = some (.int .i64 v) ∧ W.cell? ⟨w.heap.size, 0, none⟩ = some (.slice A1 n1 c1) ∧ W.cell? ⟨w.heap.size, 1, none⟩ = some (.slice A2 n2 c2))
    (first | go_keep | (have hw5 : Below w.heap.size w w5 := below_trans ((below_a1 w _).drew) hb5; exact ⟨cell_below hw5 h1, cell_below hw5 h2, cell_below hb5 (by simp), cell_below hb5 (by simp)⟩))
    (first
      | (go_at_fn fn; refine (HG.out _ ?_ ?_).mono ?_; · exact (HX.out.below (below_a1 _ _)).drew
         · exact (HY.out.below (below_a1 _ _)).drew
         rintro e w5 ⟨⟨A, n, c, rfl, hr5⟩, hb5⟩)
      | (go_at_call 106; refine (HC.out _ _ _ _ ?_).mono ?_; · exact hr5
         rintro e w6 ⟨rfl, rfl⟩))
  have hw5 := Lib.hid (below_trans ((below_a1 w _).drew) hb5)
  go_wp2_with fail
  go_ret
  exact ⟨rfl, hw5.out⟩
/-- ContainsFunc over explanations -/
def idxN (p : Nat → Bool) : List Nat → Nat → Int
  | [], _ => -1
  | x :: xs, k => if p x then k else idxN p xs (k + 1)
theorem idxN_any (p : Nat → Bool) (xs : List Nat) (k : Nat) : decide (0 ≤ idxN p xs k) = xs.any p := by
  induction xs generalizing k with
  | nil => simp [idxN]
  | cons x xs ih =>
    unfold idxN
    cases hp : p x
    · simp [ih, hp]
    · simp [hp]
def AnswersX (g : Nat) (lb : Array Value) (p : Nat → Bool) (bys : List Nat) (w : World) : Prop :=
  ∀ (W : World) (l : Nat) (A1 : Option Addr) (n1 c1 : Nat) (A2 : Option Addr) (n2 c2 : Nat), Below w.heap.size w W → RdI W A1 n1 c1 (mem l) → RdI W A2 n2 c2 (mem (wornS bys l)) →
    Calls Try.prog g (#[.agg #[.slice A1 n1 c1, .slice A2 n2 c2]] ++ lb) W fun e w' => e = .returned (.bool (p l)) ∧ Below W.heap.size W w'
set_option maxHeartbeats 1000000 in
theorem indexFuncX (p : Nat → Bool) (g : Nat) (lb : Array Value) (B : Nat) (A : Option Addr) (n c : Nat) (bys ls : List Nat) (w : World) (h : RdX B w A bys ls) (hl : ls.length = n) (hn : n ≤ 1000000)
    (eg : ∀ args w, (callFunc g args).run Try.prog w = .ok (.enter g args) w) (hp : AnswersX g lb p bys w) :
    Calls Try.prog 115 #[.slice A n c, .func (.func g) #[] lb] w fun e w' => e = .returned (.int .i64 (idxN p ls 0)) ∧ Below w.heap.size w w' := by
  have H := Lib.hid h
  have HL := Lib.hid hl
  have HP := Lib.hid hp
  have HS : Hid (idxN p ls 0 = idxN p (ls.drop 0) 0) := (show _ = _ by simp)
  clear h hp hl
  go_enter Try.func115, Try.ntmps115
  go_wp2_with fail
  go_loopw [5, 8] (fun s i wr => ∃ k : Nat, k ≤ n ∧ i = .int .i64 k ∧ Below w.heap.size w wr ∧ Hid (idxN p ls 0 = idxN p (ls.drop k) k)) (fun _ i _ => n - (intOf i).toNat)
  case atStart => exact ⟨0, Nat.zero_le _, rfl, Below.refl _ _, HS⟩
  case round =>
    obtain ⟨k, hk, rfl, hb, HI⟩ := hrel
    by_cases hlt : k < n
    · obtain ⟨x, hx⟩ : ∃ x, ls[k]? = some x := ⟨_, List.getElem?_eq_getElem (by have := HL.out; omega)⟩
      obtain ⟨gb, A1, n1, c1, A2, n2, c2, rfl, f1, f2, r1, r2, _⟩ := H.out.cells k x hx
      have hc1 := cell_below hb f1
      have hc2 := cell_below hb f2
      have hcall := HP.out wr x A1 n1 c1 A2 n2 c2 hb (r1.below hb) (r2.below hb)
      clear HS f1 f2 r1 r2
      have HX := Lib.hid hx; clear hx
      cases hq : p x with
      | true =>
        rw [hq] at hcall
        have HQ := Lib.hid hq; clear hq
        go_wp2_with (go_at_fn g; refine hcall.mono ?_; rintro e w' ⟨rfl, hb'⟩)
        go_ret
        refine ⟨ret_int ?_, below_trans hb hb'⟩
        rw [HI.out, drop_of HX.out, idxN, if_pos HQ.out]
      | false =>
        rw [hq] at hcall
        have HQ := Lib.hid hq; clear hq
        go_wp2_with (go_at_fn g; refine hcall.mono ?_; rintro e w' ⟨rfl, hb'⟩)
        go_roundw
        case rel => exact ⟨k + 1, by omega, by go_num, below_trans hb hb', (show _ = _ by rw [HI.out, drop_of HX.out, idxN, if_neg (by simp [HQ.out])])⟩
        case measure => simp [intOf]; omega
    · go_wp2_with fail
      go_ret
      refine ⟨ret_int ?_, hb⟩
      rw [HI.out, List.drop_eq_nil_of_le (by have := HL.out; omega)]; rfl
theorem containsFuncX (p : Nat → Bool) (g : Nat) (lb : Array Value) (B : Nat) (A : Option Addr) (n c : Nat) (bys ls : List Nat) (w : World) (h : RdX B w A bys ls) (hl : ls.length = n) (hn : n ≤ 1000000)
    (eg : ∀ args w, (callFunc g args).run Try.prog w = .ok (.enter g args) w) (hp : AnswersX g lb p bys w) :
    Calls Try.prog 104 #[.slice A n c, .func (.func g) #[] lb] w fun e w' => e = .returned (.bool (ls.any p)) ∧ Below w.heap.size w w' := by
  have H := Lib.hid (indexFuncX p g lb B A n c bys ls w h hl hn eg hp)
  have HS : Hid (decide (0 ≤ idxN p ls 0) = ls.any p) := (show _ = _ from idxN_any _ _ _)
  clear h hp hl
  generalize idxN p ls 0 = r at *
  go_enter Try.func104, Try.ntmps104
  go_wp2_with (go_at_call 115; refine H.out.mono ?_; rintro e w' ⟨rfl, hb'⟩)
  go_ret
  exact ⟨ret_bool (by rw [← HS.out]), hb'⟩
/-- the numbers that are in all of some lists, of the first j that are asked -/
def comTo (sel : Bool) (bys ls : List Nat) (xs : List Int) (j : Nat) : List Int := (xs.take j).filter fun v => !ls.any fun l => !((fieldX sel bys l).any fun y => v == y)
theorem comTo_succ {sel : Bool} {bys ls : List Nat} {xs : List Int} {j : Nat} {x : Int} (h : xs[j]? = some x) : comTo sel bys ls xs (j + 1) = comTo sel bys ls xs j ++ if (ls.any fun l => !((fieldX sel bys l).any fun y => x == y)) = true then [] else [x] := by
  unfold comTo
  rw [take_succ_of h, List.filter_append]
  cases hx : ls.any fun l => !((fieldX sel bys l).any fun y => x == y) <;> simp [hx]
theorem comTo_len (sel : Bool) (bys ls : List Nat) (xs : List Int) (j : Nat) : (comTo sel bys ls xs j).length ≤ xs.length := by
  unfold comTo
  have h1 := List.length_filter_le (fun v => !ls.any fun l => !((fieldX sel bys l).any fun y => v == y)) (xs.take j)
  have h2 := List.length_take_le j xs
  rw [List.length_take] at h1
  omega
theorem fieldX_len (sel : Bool) (bys : List Nat) (l : Nat) : (fieldX sel bys l).length ≤ 16 := by
  unfold fieldX; split <;> exact mem_len _
def comL (sel : Bool) (bys ls : List Nat) : List Int := comTo sel bys ls (fieldX sel bys (ls.headD 0)) (fieldX sel bys (ls.headD 0)).length
theorem enters105 : ∀ args w, (callFunc 105 args).run Try.prog w = .ok (.enter 105 args) w := enters_of Try.func105 (by kernel_rfl) rfl
set_option maxHeartbeats 4000000 in
theorem common_any (fn : Nat) (sel : Bool) (hg : Getter fn sel) (B : Nat) (A : Option Addr) (n c : Nat) (bys ls : List Nat) (w : World) (h : RdX B w A bys ls) (hl : ls.length = n) (hn1 : 1 ≤ n) (hn : n ≤ 1000000) :
    Calls Try.prog 76 #[.slice A n c, .func (.func fn) #[] #[]] w fun e w' => ∃ v, e = .returned v ∧ w'.ownsRow w.heap.size 3 1 v (comL sel bys ls).length (ints (comL sel bys ls)) ∧ Below w.heap.size w w' := by
  have eg := hg.enters
  have e105 := enters105
  obtain ⟨l0, hl0⟩ : ∃ l0, ls[0]? = some l0 := ⟨_, List.getElem?_eq_getElem (by omega)⟩
  have hhd : ls.headD 0 = l0 := by cases ls with | nil => simp at hl0 | cons a t => simpa using hl0
  obtain ⟨gb, A1, n1, c1, A2, n2, c2, rfl, f1, f2, r1, r2, _⟩ := h.cells 0 l0 hl0
  simp only [Nat.zero_mul, Nat.zero_add] at f1 f2
  have HG := Lib.hid (fun W hW1 hW2 => hg.get A1 n1 c1 A2 n2 c2 (mem l0) (mem (wornS bys l0)) W hW1 hW2)
  have HCL : Hid (comL sel bys ls = comTo sel bys ls (fieldX sel bys l0) (fieldX sel bys l0).length) := (show _ = _ by unfold comL; rw [hhd])
  have HF : Hid (fieldX sel bys l0 = if sel then mem l0 else mem (wornS bys l0)) := (show _ = _ from rfl)
  have hF16 := fieldX_len sel bys l0
  have R1 := Lib.hid r1
  have R2 := Lib.hid r2
  have HCF : Hid (∀ (x : Int) (W : World) (b1 b2 : Nat), Below w.heap.size w W → W.cell? ⟨b1, 0, none⟩ = some (.func (.func fn) #[] #[]) → W.cell? ⟨b2, 0, none⟩ = some (.int .i64 x) →
      Calls Try.prog 104 #[.slice (some ⟨gb, 0, none⟩) n c, .func (.func 105) #[] #[.pointer (some ⟨b1, 0, none⟩), .pointer (some ⟨b2, 0, none⟩)]] W fun e w' => e = .returned (.bool (ls.any fun l => !((fieldX sel bys l).any fun y => x == y))) ∧ Below W.heap.size W w') :=
    (show ∀ (x : Int), _ from fun x W b1 b2 hb h1 h2 => containsFuncX (fun l => !((fieldX sel bys l).any fun y => x == y)) 105 _ B _ n c bys ls W (h.below hb) hl hn e105
      (fun W' l A1 n1 c1 A2 n2 c2 hb' s1 s2 => common1_any fn sel hg b1 b2 x A1 A2 n1 c1 n2 c2 (mem l) (mem (wornS bys l)) W' (cell_below hb' h1) (cell_below hb' h2) s1 s2))
  have hgb : gb < w.heap.size := World.block_lt_of_cell? w _ f1
  clear h hl hl0 hhd r1 r2 hg
  generalize fieldX sel bys l0 = xs at *
  have hn0 : 0 < n := by omega
  have hn0i : (0 : Int) < (n : Int) := by omega
  go_enter Try.func76, Try.ntmps76
  go_wp2_with fail
  go_region_held3 (fun W => W.cell? ⟨w.heap.size, 0, none⟩ = some (.func (.func fn) #[] #[]) ∧ W.cell? ⟨gb, 0, none⟩ = some (.slice A1 n1 c1) ∧ W.cell? ⟨gb, 1, none⟩ = some (.slice A2 n2 c2))
    (first | go_keep | (have hw5 : Below w.heap.size w w5 := below_trans ((below_a1 w _).drew) hb5; exact ⟨cell_below hb5 (by simp), cell_below hw5 f1, cell_below hw5 f2⟩))
    ((go_at_fn fn; refine (HG.out _ ?_ ?_).mono ?_; · exact (R1.out.below (below_a1 _ _)).drew
      · exact (R2.out.below (below_a1 _ _)).drew
      rintro e w5 ⟨⟨A', m, c', rfl, hr5⟩, hb5⟩))
  rw [← HF.out] at hr5
  have hw5 : Below w.heap.size w w5 := below_trans ((below_a1 w _).drew) hb5
  have hm16 : m ≤ 16 := by have := hr5.len; omega
  have hcf : w5.cell? ⟨w.heap.size, 0, none⟩ = some (.func (.func fn) #[] #[]) := cell_below hb5 (by simp)
  have HR := Lib.hid hr5
  have HW5 := Lib.hid hw5
  have HCFN := Lib.hid hcf
  clear hr5 hb5 hcf f1 f2 R1 R2 HG hw5
  go_wp2_with fail
  go_loopw [4, 13] (fun v i wr => ∃ (k : Nat) (u : Value), k ≤ m ∧ i = .int .i64 k ∧ v = u ∧ Hid (wr.ownsRow w5.heap.size 3 1 u (comTo sel bys ls xs k).length (ints (comTo sel bys ls xs k))) ∧ Hid (Below w5.heap.size w5 wr)) (fun _ i _ => m - (intOf i).toNat)
  case atStart => exact ⟨0, _, Nat.zero_le _, rfl, rfl, (show World.ownsRow _ _ _ _ _ _ _ from by simpa [comTo, ints] using World.ownsRow_nil w5 w5.heap.size 3 1), Below.refl _ _⟩
  case round =>
    obtain ⟨k, u, hk, rfl, rfl, HO, HB⟩ := hrel
    by_cases hlt : k < m
    · obtain ⟨b, off, x, rfl, hx, hc⟩ := HR.out.at hlt
      have hcx := cell_below HB.out hc
      have HS := Lib.hid (comTo_succ (sel := sel) (bys := bys) (ls := ls) hx)
      have hml := comTo_len sel bys ls xs k
      have hxl : xs.length = m := HR.out.len
      obtain ⟨q, hq⟩ : ∃ q, (comTo sel bys ls xs k).length = q := ⟨_, rfl⟩
      rw [hq] at HO hml
      have HQ := Lib.hid hq
      rw [hxl] at hml
      have HCALL := Lib.hid (HCF.out x (wr.alloc (.cells #[.int .i64 x] 3)) w.heap.size wr.heap.size (below_trans HW5.out (below_trans HB.out (below_a1 _ _))) (cell_below HB.out HCFN.out |> cell_below (below_a1 _ _)) (by simp))
      clear hc hx hq hxl
      cases hr : (ls.any fun l => !((fieldX sel bys l).any fun y => x == y)) with
      | true =>
        rw [hr] at HS HCALL
        clear hr
        go_wp2_with (go_at_call 104; refine HCALL.out.mono ?_; rintro e w6 ⟨rfl, hb6⟩; have HB6 := Lib.hid (below_trans (below_a1 _ _) hb6); clear hb6)
        go_roundw
        case rel => exact ⟨k + 1, _, by omega, by go_num, rfl, (show World.ownsRow _ _ _ _ _ _ _ by rw [HS.out, if_pos trivial, List.append_nil, HQ.out]; exact own_below HO.out HB6.out), below_trans HB.out HB6.out⟩
        case measure => simp [intOf]; omega
      | false =>
        rw [hr] at HS HCALL
        clear hr
        go_wp2_with (first
          | (go_at_call 104; refine HCALL.out.mono ?_; rintro e w6 ⟨rfl, hb6⟩; have hx6 : w6.cell? ⟨wr.heap.size, 0, none⟩ = some (.int .i64 x) := cell_below hb6 (by simp); have HB6 := Lib.hid (below_trans (below_a1 _ _) hb6); clear hb6)
          | (at_builtin; go_must (refine wpList_append_ints rfl _ _ rfl w5.heap.size _ q _ rfl (own_below HO.out (below_trans HB6.out (below_a1 _ _))) _ _ _ [x] rfl (RdI.one _ _) ?_ ?_ ?_); omega; exact Nat.le_trans HB.out.size (Nat.le_trans HB6.out.size (by simp)); intro v' w' h1 h2; have H1 := Lib.hid h1; have H2 := Lib.hid h2; clear h1 h2))
        go_roundw
        case rel => exact ⟨k + 1, v', by omega, by go_num, rfl, (show World.ownsRow _ _ _ _ _ _ _ by rw [HS.out, if_neg (by simp), List.length_append, HQ.out]; exact H1.out), (below_trans HB.out (below_trans HB6.out (below_a1 _ _))).grown H2.out (Nat.le_trans HB.out.size (Nat.le_trans HB6.out.size (by simp))) (fun q hq => (HO.out.lt q hq).1)⟩
        case measure => simp [intOf]; omega
    · obtain rfl : k = m := by omega
      have HEND : Hid (comL sel bys ls = comTo sel bys ls xs k) := (show _ = _ by rw [HCL.out, show xs.length = k from HR.out.len])
      go_wp2_with fail
      go_ret
      refine ⟨_, rfl, ?_, below_trans HW5.out HB.out⟩
      rw [HEND.out]
      exact own_weaken HO.out HW5.out.size
/-- what Certain answers -/
def setsX (s : Int) (cells : List (Int × Int)) : List Nat := explTo (szX (bysX s cells)) (2 ^ s.toNat)
def ceX (s g : Int) (cells : List (Int × Int)) : List Int × List Int × Int := if okCells s g cells = true then (comL true (bysX s cells) (setsX s cells), comL false (bysX s cells) (setsX s cells), 0) else ([], [], 1)
def CertainPost (s g : Int) (cells : List (Int × Int)) (w : World) (e : Ending) (w' : World) : Prop :=
  Below w.heap.size w w' ∧
  ((okCells s g cells = false ∧ e = .returned (.tuple #[.slice none 0 0, .slice none 0 0, .int .i64 1])) ∨
   (okCells s g cells = true ∧ ∃ v0 v1, e = .returned (.tuple #[v0, v1, .int .i64 0]) ∧
      w'.ownsRow w.heap.size 3 1 v0 (comL true (bysX s cells) (setsX s cells)).length (ints (comL true (bysX s cells) (setsX s cells))) ∧
      w'.ownsRow w.heap.size 3 1 v1 (comL false (bysX s cells) (setsX s cells)).length (ints (comL false (bysX s cells) (setsX s cells))) ∧
      ∀ k, v0.ownBlock = some k → v1.ownBlock ≠ some k))
set_option maxRecDepth 100000 in
set_option maxHeartbeats 8000000 in
theorem Certain_any (s g : Int) (A : Option Addr) (n c : Nat) (cells : List (Int × Int)) (w : World) (h : RdP w A n c cells) :
    Calls Try.prog 33 #[.int .i64 s, .int .i64 g, .slice A n c] w (CertainPost s g cells w) := by
  have HN0 := newBox_any s g A n c cells w h
  cases hok : okCells s g cells with
  | false =>
    have HN : Hid (Calls Try.prog 68 #[.int .i64 s, .int .i64 g, .slice A n c] w fun e w' => e = .returned (.tuple #[.pointer none, .bool false]) ∧ Below w.heap.size w w') :=
      (show Calls _ _ _ _ _ from HN0.mono fun e w' ⟨hb, hh⟩ => by
        rcases hh with ⟨_, h2⟩ | ⟨h1, _⟩
        · exact ⟨h2, hb⟩
        · rw [hok] at h1; cases h1)
    have HOK := Lib.hid hok
    clear h HN0 hok
    go_enter Try.func33, Try.ntmps33
    go_wp2_with (go_at_call 68; refine HN.out.mono ?_; rintro e w1 ⟨rfl, hb1⟩; have HB := Lib.hid hb1; clear hb1)
    go_ret3
    exact ⟨HB.out, .inl ⟨HOK.out, rfl⟩⟩
  | true =>
    have h18 : 1 ≤ s ∧ s ≤ 8 := by
      simp only [okCells, Bool.and_eq_true] at hok
      exact (withinB_iff _ _ _).1 hok.1.1
    obtain ⟨sn, rfl⟩ := Int.eq_ofNat_of_zero_le (show 0 ≤ s by omega)
    have hsn : sn ≤ 8 := by omega
    have HN : Hid (Calls Try.prog 68 #[.int .i64 sn, .int .i64 g, .slice A n c] w fun e w' => ∃ bb : Nat, e = .returned (.tuple #[.pointer (some ⟨bb, 0, none⟩), .bool true]) ∧ Below w.heap.size w w' ∧
        ∃ Ab : Option Addr, w'.heap[bb]? = some (.cells #[.int .i64 sn, .int .i64 g, .slice A n c, .slice Ab sn sn] 115 (0, 0)) ∧ RdI w' Ab sn sn (nats (bysX sn cells)) ∧ Small (bysX sn cells)) :=
      (show Calls _ _ _ _ _ from HN0.mono fun e w' ⟨hb, hh⟩ => by
        rcases hh with ⟨h1, _⟩ | ⟨_, bb, h2, Ab, h3, h4, h5⟩
        · rw [hok] at h1; cases h1
        · exact ⟨bb, h2, hb, Ab, h3, h4, h5⟩)
    have HOK := Lib.hid hok
    have hpos : 1 ≤ (explTo (szX (bysX sn cells)) (2 ^ sn)).length := by
      obtain ⟨j, hj⟩ : ∃ j, 2 ^ sn = j + 1 := ⟨2 ^ sn - 1, by have := Nat.two_pow_pos sn; omega⟩
      rw [hj]; exact explTo_pos _ _
    have hle : (explTo (szX (bysX sn cells)) (2 ^ sn)).length ≤ 256 := Nat.le_trans (explTo_len _ _) (Nat.pow_le_pow_right (n := 2) (by omega) hsn)
    have HL : Hid (setsX sn cells = explTo (szX (bysX sn cells)) (2 ^ sn)) := (show _ = _ from rfl)
    have HXX : Hid (∀ (bb : Nat) (A : Option Addr) (c : Nat) (w : World), w.cell? ⟨bb, 0, none⟩ = some (.int .i64 sn) → w.cell? ⟨bb, 3, none⟩ = some (.slice A sn c) → RdI w A sn c (nats (bysX sn cells)) → Small (bysX sn cells) →
        Calls Try.prog 70 #[.pointer (some ⟨bb, 0, none⟩)] w fun e w' => ∃ v cs, e = .returned v ∧ w'.ownsRow w.heap.size 92 2 v (explTo (szX (bysX sn cells)) (2 ^ sn)).length cs ∧ AreX w.heap.size w' cs (bysX sn cells) (explTo (szX (bysX sn cells)) (2 ^ sn)) ∧ Below w.heap.size w w') :=
      (show ∀ (bb : Nat), _ from fun bb A c w h0 h3 hr hsm => explanations_any bb sn A c _ w h0 h3 hr hsn hsm)
    clear HN0 hok
    generalize explTo (szX (bysX sn cells)) (2 ^ sn) = ls at *
    generalize hby : bysX sn cells = bys at *
    have HBY := Lib.hid hby
    clear hby
    go_enter Try.func33, Try.ntmps33
    go_wp2_with (go_at_call 68; refine HN.out.mono ?_; rintro e w1 ⟨bb, rfl, hb1, Ab, hh, hrd, hsm⟩; have HB1 := Lib.hid hb1; have HH := Lib.hid hh; have HRD := Lib.hid hrd; have HSM := Lib.hid hsm; clear hb1 hh hrd hsm)
    refine (HXX.out bb Ab sn w1 (cell_of_heap2 (o := 0) HH.out rfl) (cell_of_heap2 (o := 3) HH.out rfl) HRD.out HSM.out).mono ?_
    rintro e w2 ⟨v, cs, rfl, hown, hAX, hb2⟩
    obtain ⟨Av, cv, rfl⟩ := own_shape hown
    have HB2 := Lib.hid (below_trans HB1.out hb2)
    have HRX : Hid (RdX w.heap.size w2 Av bys ls) := (show RdX _ _ _ _ _ from ⟨fun k l hl => by
      obtain ⟨A1, n1, c1, A2, n2, c2, h1, h2, h3, h4⟩ := hAX.2 k l hl
      obtain ⟨g', e1, _, e2⟩ := own_cell hown h1
      obtain ⟨g'', e3, _, e4⟩ := own_cell hown h2
      rw [e1] at e3
      cases e3
      exact ⟨g', A1, n1, c1, A2, n2, c2, e1, e2, e4, h3.rd, h4.rd, (h3.lower HB1.out.size).fr, (h4.lower HB1.out.size).fr⟩⟩)
    have HC1 := Lib.hid (common_any 77 true getter77 _ Av ls.length cv bys ls w2 HRX.out rfl hpos (by omega))
    have HC2 : Hid (∀ w3, Below w2.heap.size w2 w3 → Calls Try.prog 76 #[.slice Av ls.length cv, .func (.func 78) #[] #[]] w3 fun e w' => ∃ v, e = .returned v ∧ w'.ownsRow w3.heap.size 3 1 v (comL false bys ls).length (ints (comL false bys ls)) ∧ Below w3.heap.size w3 w') :=
      (show ∀ w3, _ → _ from fun w3 hb => common_any 78 false getter78 _ Av ls.length cv bys ls w3 (HRX.out.below hb) rfl hpos (by omega))
    clear hown hAX hb2 HXX
    go_wp2_with (first
      | (go_at_call 76; (with_reducible refine HC1.out.mono ?_); rintro e w3 ⟨v0, rfl, ho0, hb3⟩; have HB3 := Lib.hid hb3; have HO0 := Lib.hid ho0; clear hb3 ho0)
      | (go_at_call 76; (with_reducible refine (HC2.out _ HB3.out).mono ?_); rintro e w4 ⟨v1, rfl, ho1, hb4⟩; have HB4 := Lib.hid hb4; have HO1 := Lib.hid ho1; clear hb4 ho1))
    go_ret3
    refine ⟨below_trans HB2.out (below_trans HB3.out HB4.out), .inr ⟨HOK.out, v0, v1, rfl, ?_, ?_, ?_⟩⟩
    · rw [HL.out, HBY.out]
      exact own_weaken (own_below HO0.out HB4.out) HB2.out.size
    · rw [HL.out, HBY.out]
      exact own_weaken HO1.out (Nat.le_trans HB2.out.size HB3.out.size)
    · intro k hk0 hk1
      have a1 := (HO0.out.lt k hk0).2
      have a2 := (HO1.out.lt k hk1).1
      omega
def health_Certain.f (a0 : Int) (a1 : Int) (l2 : List (S69)) : Option (List Int × List Int × Int) := some (ceX a0 a1 (pr l2))
theorem R_ints {w : World} {base : Nat} {v : Value} {xs : List Int} {ok : Nat → Prop} (h : w.ownsRow base 3 1 v xs.length (ints xs)) (hok : ∀ k, v.ownBlock = some k → ok k) : Kd.R (Kd.int .i64) 3 w base ok v xs := Kd.R_of_own h hok
theorem health_Certain.calls (a0 : Int) (a1 : Int) (A2 : Option Addr) (c2 : Nat) (l2 : List (S69)) (r1 : List Int) (r2 : List Int) (r3 : Int) (w : World) (hr2 : Kd.C k69 w A2 l2.length l2) (hc2 : l2.length ≤ c2) (h : health_Certain.f a0 a1 l2 = some (r1, r2, r3)) :
    Calls Try.prog 33 #[.int .i64 a0, .int .i64 a1, .slice A2 l2.length c2] w fun e w' => ∃ v0_ v1_ : Value, e = .returned (.tuple #[v0_, v1_, .int .i64 r3]) ∧ Kd.R (Kd.int .i64) 3 w' w.heap.size (fun k_ => some k_ ≠ (v1_ : Value).ownBlock) v0_ r1 ∧ Kd.R (Kd.int .i64) 3 w' w.heap.size (fun k_ => some k_ ≠ (v0_ : Value).ownBlock) v1_ r2 ∧ Below w.heap.size w w' := by
  have h' : ceX a0 a1 (pr l2) = (r1, r2, r3) := Option.some.inj h
  refine (Certain_any a0 a1 A2 l2.length c2 (pr l2) w (RdP_of hr2)).mono ?_
  rintro e w' ⟨hb, hh⟩
  unfold ceX at h'
  rcases hh with ⟨h1, rfl⟩ | ⟨h1, v0, v1, rfl, g1, g2, g3⟩
  · rw [h1, if_neg (by simp)] at h'
    cases h'
    exact ⟨_, _, rfl, Kd.R_nil _ _ _ _ _, Kd.R_nil _ _ _ _ _, hb⟩
  · rw [h1, if_pos rfl] at h'
    cases h'
    exact ⟨_, _, rfl, R_ints g1 (fun k hk e => g3 k hk e.symm), R_ints g2 (fun k hk e => g3 k e.symm hk), hb⟩
end Go.Proofs.Ytcmjpcmdgnbbpaa.PE
