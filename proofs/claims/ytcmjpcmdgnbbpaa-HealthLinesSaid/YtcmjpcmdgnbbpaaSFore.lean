/- What the call of Forecast answers: the number in the middle of what all values lead to (the library's sort by its contract on the shelf). -/
import Derived.Shelf.Sort.Plain
import Derived.Sort.OwnSortedInts
import Derived.Test.YtcmjpcmdgnbbpaaSRef
namespace Go.Proofs
open Go.Shelf
/-! the sort of whole numbers: the shelf's contract laid at this program's numbers -/
def Try.sortInts_ren : Go.Shelf.Ren := ⟨fun | 189 => 93 | 125 => 110 | 257 => 109 | 128 => 129 | 129 => 130 | 294 => 120 | 295 => 121 | 296 => 122 | 297 => 123 | 298 => 124 | 299 => 125 | 216 => 126 | 300 => 127 | 301 => 128 | 328 => 132 | 329 => 133 | 330 => 134 | 331 => 135 | 332 => 136 | 215 => 113 | 343 => 145 | n => n, fun | 28 => 22 | 3 => 3 | 46 => 101 | 0 => 0 | 51 => 140 | 53 => 143 | 4 => 4 | 183 => 150 | 182 => 149 | 131 => 154 | 5 => 5 | 9 => 9 | 218 => 159 | 222 => 112 | 228 => 169 | 229 => 78 | n => n, fun | n => n⟩
theorem Try.sortInts : Lays.n189 Try.prog Try.sortInts_ren := {
  mixed := by kernel_rfl
  f125 := Try.func110.trans (congrArg some (by kernel_rfl))
  f128 := Try.func129.trans (congrArg some (by kernel_rfl))
  f129 := Try.func130.trans (congrArg some (by kernel_rfl))
  f189 := Try.func93.trans (congrArg some (by kernel_rfl))
  f215 := Try.func113.trans (congrArg some (by kernel_rfl))
  f216 := Try.func126.trans (congrArg some (by kernel_rfl))
  f257 := Try.func109.trans (congrArg some (by kernel_rfl))
  f294 := Try.func120.trans (congrArg some (by kernel_rfl))
  f295 := Try.func121.trans (congrArg some (by kernel_rfl))
  f296 := Try.func122.trans (congrArg some (by kernel_rfl))
  f297 := Try.func123.trans (congrArg some (by kernel_rfl))
  f298 := Try.func124.trans (congrArg some (by kernel_rfl))
  f299 := Try.func125.trans (congrArg some (by kernel_rfl))
  f300 := Try.func127.trans (congrArg some (by kernel_rfl))
  f301 := Try.func128.trans (congrArg some (by kernel_rfl))
  f328 := Try.func132.trans (congrArg some (by kernel_rfl))
  f329 := Try.func133.trans (congrArg some (by kernel_rfl))
  f330 := Try.func134.trans (congrArg some (by kernel_rfl))
  f331 := Try.func135.trans (congrArg some (by kernel_rfl))
  f332 := Try.func136.trans (congrArg some (by kernel_rfl))
  f343 := Try.func145.trans (congrArg some (by kernel_rfl))
  t0 := Try.underlying0
  a0 := Try.isAgg0
  z0 := Try.sizeOf0
  v0 := Try.zeroValue0
  t3 := Try.underlying3
  a3 := Try.isAgg3
  z3 := Try.sizeOf3
  v3 := Try.zeroValue3
  t4 := Try.underlying4
  a4 := Try.isAgg4
  z4 := Try.sizeOf4
  v4 := Try.zeroValue4
  t5 := Try.underlying5
  a5 := Try.isAgg5
  z5 := Try.sizeOf5
  v5 := Try.zeroValue5
  t9 := Try.underlying9
  a9 := Try.isAgg9
  z9 := Try.sizeOf9
  v9 := Try.zeroValue9
  t28 := Try.underlying22
  a28 := Try.isAgg22
  z28 := Try.sizeOf22
  v28 := Try.zeroValue22
  t46 := Try.underlying101
  a46 := Try.isAgg101
  z46 := Try.sizeOf101
  v46 := Try.zeroValue101
  t51 := Try.underlying140
  a51 := Try.isAgg140
  z51 := Try.sizeOf140
  v51 := Try.zeroValue140
  t53 := Try.underlying143
  a53 := Try.isAgg143
  z53 := Try.sizeOf143
  v53 := Try.zeroValue143
  t131 := Try.underlying154
  a131 := Try.isAgg154
  z131 := Try.sizeOf154
  v131 := Try.zeroValue154
  t182 := Try.underlying149
  a182 := Try.isAgg149
  z182 := Try.sizeOf149
  v182 := Try.zeroValue149
  t183 := Try.underlying150
  a183 := Try.isAgg150
  z183 := Try.sizeOf150
  v183 := Try.zeroValue150
  t218 := Try.underlying159
  a218 := Try.isAgg159
  z218 := Try.sizeOf159
  v218 := Try.zeroValue159
  t222 := Try.underlying112
  a222 := Try.isAgg112
  z222 := Try.sizeOf112
  v222 := Try.zeroValue112
  t228 := Try.underlying169
  a228 := Try.isAgg169
  z228 := Try.sizeOf169
  v228 := Try.zeroValue169
  t229 := Try.underlying78
  a229 := Try.isAgg78
  z229 := Try.sizeOf78
  v229 := Try.zeroValue78 }
end Go.Proofs
namespace Go.Proofs.Ytcmjpcmdgnbbpaa
open Go.RowKit Go.Shelf Go.Sort
set_option linter.unusedVariables false
theorem sort93 (g cap n : Nat) (zs : List Int) (cur : Array Value) (w : World) (hn : zs.length = n) (hb : w.heap[g]? = some (.cells cur 3 (0, 0))) (ht : cur.toList.take n = ints zs) (h0 : 0 < n) (hs : n ≤ 1000) :
    Calls Try.prog 93 #[.slice (some ⟨g, 0, none⟩) n cap] w fun e w' => e = .returned (.tuple #[]) ∧ w'.cell? ⟨g, (n - 1) / 2, none⟩ = some (.int .i64 (medI zs)) ∧ w.grownBy w' (some g) := by
  subst hn
  have hg : g < w.heap.size := (Array.getElem?_eq_some_iff.1 hb).1
  have hH := holds_of_blockI hb ht
  have hcon := Any.slices_Sort_int Try.sortInts g 0 cap zs w hH hg (by omega)
  change Calls Try.prog 93 _ _ _ at hcon
  refine hcon.mono ?_
  rintro e w' ⟨rfl, n, os, rfl⟩
  refine ⟨rfl, ?_, grownBy_sortedI _⟩
  have hlt : (zs.length - 1) / 2 < (zs.mergeSort fun x y => decide (x ≤ y)).length := by rw [List.length_mergeSort]; omega
  have hh : Holds (Value.int .i64) (grow (putRow (Value.int .i64) (Sort.ahead w n) g 0 (zs.mergeSort fun x y => decide (x ≤ y)).toArray) os) g 0 (zs.mergeSort fun x y => decide (x ≤ y)).toArray :=
    holds_grow _ _ _ _ _ _ (by simpa [putRow, mapBlock, Sort.ahead] using hg) (holds_putRow _ _ _ _ zs.toArray _ hH (by simp))
  have := (hh ((zs.length - 1) / 2) (by simpa using hlt)).1
  rw [Nat.zero_add] at this
  rw [this]
  unfold medI
  rw [List.getD_eq_getElem?_getD, List.getElem?_eq_getElem hlt, getElem!_pos _ _ (by simpa using hlt)]
  simp
theorem mul_bdS {a b : Int} (A B : Int) (ha : -A ≤ a ∧ a ≤ A) (hb : -B ≤ b ∧ b ≤ B) : -(A * B) ≤ a * b ∧ a * b ≤ A * B := by
  have h : (a * b).natAbs ≤ A.natAbs * B.natAbs := by
    rw [Int.natAbs_mul]; exact Nat.mul_le_mul (by omega) (by omega)
  have e : ((A.natAbs * B.natAbs : Nat) : Int) = A * B := by
    push_cast; rw [Int.natAbs_of_nonneg (by omega), Int.natAbs_of_nonneg (by omega)]
  omega
def fcN (hs vs : List Int) (t : Int) : Int := if chkS hs vs t = 0 then lowN (medI (endsTo hs vs t vs.length)) (sD hs vs) else 0
def fcD (hs vs : List Int) (t : Int) : Int := if chkS hs vs t = 0 then lowD (medI (endsTo hs vs t vs.length)) (sD hs vs) else 0
/-- the parts of what a value leads to -/
structure EndB (v d m t h : Int) : Prop where
  b1 : -1000000000000 ≤ v * d ∧ v * d ≤ 1000000000000
  b2 : -1000000 ≤ t - h ∧ t - h ≤ 1000000
  b3 : -2000000000000 ≤ m * (t - h) ∧ m * (t - h) ≤ 2000000000000
theorem end_bd {hs vs : List Int} {t : Int} (h : chkS hs vs t = 0) {i : Nat} (hi : i < vs.length) : EndB (vs.getD i 0) (sD hs vs) (sN hs vs) t (hs.getD i 0) := by
  obtain ⟨ok, hw, h2⟩ := chk0 h
  have OK := OkS.of ok
  have hb := low_bd (midF (slL hs vs))
  have hv := OK.vb i hi
  have hh := OK.hb i hi
  have ht : 0 ≤ t ∧ t ≤ 1000000 := by simpa [withinB] using hw
  have b2 : -1000000 ≤ t - hs.getD i 0 ∧ t - hs.getD i 0 ≤ 1000000 := by omega
  have b1 := mul_bdS (a := vs.getD i 0) (b := sD hs vs) 1000000 1000000 hv (by have := hb.2; unfold sD; omega)
  have b3 := mul_bdS (a := sN hs vs) (b := t - hs.getD i 0) 2000000 1000000 (by have := hb.1; unfold sN; omega) b2
  exact ⟨by omega, b2, by omega⟩
theorem med_bd {l : List Int} (hl : 0 < l.length) {A B : Int} (h : ∀ x ∈ l, A ≤ x ∧ x ≤ B) : A ≤ medI l ∧ medI l ≤ B := by
  have hi : (l.length - 1) / 2 < (l.mergeSort fun a b => decide (a ≤ b)).length := by rw [List.length_mergeSort]; omega
  refine h _ ?_
  have hp := List.mergeSort_perm l fun a b => decide (a ≤ b)
  unfold medI
  rw [List.getD_eq_getElem?_getD, List.getElem?_eq_getElem hi]
  exact hp.mem_iff.1 (List.getElem_mem hi)
theorem ends_bd {hs vs : List Int} {t : Int} (h : chkS hs vs t = 0) : -3000000000000 ≤ medI (endsTo hs vs t vs.length) ∧ medI (endsTo hs vs t vs.length) ≤ 3000000000000 := by
  have h2 := (chk0 h).2.2
  refine med_bd (by rw [endsTo_len]; omega) fun x hx => ?_
  unfold endsTo at hx
  obtain ⟨i, hi, rfl⟩ := List.mem_map.1 hx
  have e := end_bd h (List.mem_range.1 hi)
  have := e.b1
  have := e.b3
  unfold endF
  omega
set_option maxRecDepth 100000 in
set_option maxHeartbeats 8000000 in
theorem Forecast_any (A0 A1 : Option Addr) (n0 c0 n1 c1 : Nat) (hs vs : List Int) (t : Int) (w : World) (h0 : RdI w A0 n0 c0 hs) (h1 : RdI w A1 n1 c1 vs) :
    Calls Try.prog 52 #[.slice A0 n0 c0, .slice A1 n1 c1, .int .i64 t] w fun e w' => e = .returned (.tuple #[.int .i64 (fcN hs vs t), .int .i64 (fcD hs vs t), .int .i64 (chkS hs vs t)]) ∧ Below w.heap.size w w' := by
  have HK := Lib.hid (checkSlope_any A0 A1 n0 c0 n1 c1 hs vs t w h0 h1)
  by_cases hc : chkS hs vs t = 0
  · obtain ⟨ok, hw, h2⟩ := chk0 hc
    have hn := (OkS.of ok).hl
    have hn8 : n1 ≤ 8 := by have := (OkS.of ok).n8; have := h1.len; omega
    have hn2 : 2 ≤ n1 := by have := h1.len; omega
    obtain rfl : n0 = n1 := by rw [← h0.len, ← h1.len]; exact hn
    have HS : Hid (∀ W, Below w.heap.size w W → Calls Try.prog 90 #[.slice A0 n0 c0, .slice A1 n0 c1] W fun e w' => ∃ x, Mid (slL hs vs) x ∧ e = .returned (.agg #[.int .i64 x.num, .int .i64 x.den]) ∧ Below W.heap.size W w') :=
      (show ∀ W, _ from fun W hb => slope_any A0 A1 n0 c0 c1 hs vs W (h0.below hb) (h1.below hb) ok hn2)
    have HN : Hid (fcN hs vs t = lowN (medI (endsTo hs vs t n0)) (sD hs vs) ∧ fcD hs vs t = lowD (medI (endsTo hs vs t n0)) (sD hs vs) ∧ chkS hs vs t = 0) := (show _ ∧ _ from ⟨by unfold fcN; rw [if_pos hc, h1.len], by unfold fcD; rw [if_pos hc, h1.len], hc⟩)
    have HP : Hid (Mid (slL hs vs) (midF (slL hs vs))) := (show Mid _ _ from midF_mid (slL_pos h2))
    have HSD : Hid (sD hs vs = lowD (midF (slL hs vs)).num (midF (slL hs vs)).den ∧ sN hs vs = lowN (midF (slL hs vs)).num (midF (slL hs vs)).den) := (show _ ∧ _ from ⟨rfl, rfl⟩)
    have HEB : Hid (∀ i, i < n0 → EndB (vs.getD i 0) (sD hs vs) (sN hs vs) t (hs.getD i 0)) := (show ∀ i, _ from fun i hi => end_bd hc (by rw [h1.len]; exact hi))
    have HMB : Hid (-3000000000000 ≤ medI (endsTo hs vs t n0) ∧ medI (endsTo hs vs t n0) ≤ 3000000000000) := (show _ ∧ _ by have := ends_bd hc; rwa [h1.len] at this)
    have HSB : Hid (1 ≤ sD hs vs ∧ sD hs vs ≤ 1000000) := (show _ ∧ _ from (low_bd _).2)
    have H0 := Lib.hid h0
    have H1 := Lib.hid h1
    obtain ⟨i3, hi3, hz0, hz1, hz2⟩ := info_parts info3
    have HI0 := Lib.hid hi3
    have HZ0 := Lib.hid hz0
    have HZ1 := Lib.hid hz1
    have HZ2 := Lib.hid hz2
    rw [hc] at HK
    clear hc ok hw h2 hn h0 h1 hi3 hz0 hz1 hz2
    go_enter Try.func52, Try.ntmps52
    go_wp2_with (first
      | (go_at_call 89; refine HK.out.mono ?_; rintro e w1 ⟨rfl, hb1⟩; have HB1 := Lib.hid hb1; clear hb1)
      | (go_at_call 90; refine (HS.out _ HB1.out).mono ?_; rintro e w2 ⟨x, hx, rfl, hb2⟩; have HX := Lib.hid hx; have HB2 := Lib.hid (below_trans HB1.out hb2); have HLW := Lib.hid (fun W => lowest_any x.num x.den W (by have := x.nb; omega) (by have := x.nb; omega) (by have := x.db; omega) (by have := x.db; omega)); clear hx hb2)
      | (go_at_call 59; refine (HLW.out _).mono ?_; rintro e w3 ⟨rfl, hb3⟩; have HB3 := Lib.hid hb3; clear hb3; have hfz : w3.heap[w2.heap.size]? = some (.cells #[.int .i64 x.num, .int .i64 x.den] 80 (0, 0)) := (HB3.out.block w2.heap.size (by simp)).trans (heap_alloc_new _ _); obtain ⟨⟨k0, k1⟩, k2, k3⟩ := cells2 hfz))
    obtain ⟨g1, hg1⟩ : ∃ g1, w2.heap.size = g1 := ⟨_, rfl⟩
    have hz := set2_at (u := .int .i64 (lowN x.num x.den)) (v := .int .i64 (lowD x.num x.den)) hfz
    have hm := mid_low HX.out HP.out
    rw [hm.1, hm.2, ← HSD.out.1, ← HSD.out.2] at hz ⊢
    have hb4 : RowKit.Below w.heap.size w ((w3.setCell ⟨w2.heap.size, 0, none⟩ (.int .i64 (sN hs vs))).setCell ⟨w2.heap.size, 1, none⟩ (.int .i64 (sD hs vs))) := by
      have h3 : RowKit.Below w.heap.size w w3 := below_then (below_alloc HB2.out _) (by have := HB2.out.size; simp; omega) HB3.out
      exact (h3.setCell HB2.out.size _).setCell HB2.out.size _
    have hgw : w.heap.size ≤ g1 := by rw [← hg1]; exact HB2.out.size
    obtain ⟨W4, hW4⟩ : ∃ W4, W4 = (w3.setCell ⟨w2.heap.size, 0, none⟩ (.int .i64 (sN hs vs))).setCell ⟨w2.heap.size, 1, none⟩ (.int .i64 (sD hs vs)) := ⟨_, rfl⟩
    rw [← hW4] at hz hb4 ⊢
    rw [hg1] at hz ⊢
    have HZ := Lib.hid hz
    have HB4 := Lib.hid hb4
    clear hz hb4 hW4 k0 k1 k2 k3 hfz hm hg1 HB3 HB2 HB1 HX
    obtain ⟨d, hd⟩ : ∃ d, sD hs vs = d := ⟨_, rfl⟩
    obtain ⟨m, hm⟩ : ∃ m, sN hs vs = m := ⟨_, rfl⟩
    have HEF : Hid (∀ i, endF hs vs t i = vs.getD i 0 * d + m * (t - hs.getD i 0)) := (show ∀ i, _ from fun i => by unfold endF; rw [hd, hm])
    rw [hd, hm] at HEB HZ
    rw [hd] at HN HSB
    rw [hd, hm]
    clear hd hm HSD
    have hsb := HSB.out
    have HG1 : Hid (g1 < W4.heap.size) := (show _ < _ from (Array.getElem?_eq_some_iff.1 HZ.out).1)
    go_loopw [11, 12, 13, 33] (fun s11 s12 s13 s33 wr => ∃ (k : Nat) (v u12 u13 : Value), k ≤ n0 ∧ s33 = .int .i64 k ∧ s11 = v ∧ s12 = u12 ∧ s13 = u13 ∧ Hid (wr.ownsRow W4.heap.size 3 1 v k (ints (endsTo hs vs t k))) ∧ Hid (RowKit.Below W4.heap.size W4 wr)) (fun _ _ _ s33 _ => n0 - (intOf s33).toNat)
    case atStart => exact ⟨0, _, _, _, Nat.zero_le _, rfl, rfl, rfl, rfl, World.ownsRow_nil _ _ _ _, Below.refl _ _⟩
    case round =>
      obtain ⟨k, v, u12, u13, hk, rfl, rfl, rfl, rfl, HO, HB⟩ := hrel
      have z01 := cells2 ((HB.out.block g1 HG1.out).trans HZ.out)
      obtain ⟨⟨z0, z1⟩, z2, z3⟩ := z01
      by_cases hlt : k < n0
      · obtain ⟨b1, o1, y, rfl, hy, hcy⟩ := H1.out.at hlt
        obtain ⟨b0, o0, p, rfl, hp, hcp⟩ := H0.out.at hlt
        have HCP : Hid (W4.cell? ⟨b0, o0 + k, none⟩ = some (.int .i64 p)) := (show _ = _ from cell_below HB4.out hcp)
        have hcp' := cell_below HB.out HCP.out
        have hcy' := cell_below HB.out (cell_below HB4.out hcy)
        have HE := HEB.out k hlt
        rw [getD_of hy, getD_of hp] at HE
        obtain ⟨q1, q2, q3⟩ := HE
        have HEK : Hid (ints (endsTo hs vs t (k + 1)) = ints (endsTo hs vs t k) ++ [.int .i64 (y * d + m * (t - p))]) := (show _ = _ by rw [endsTo_succ, ints_append, HEF.out, getD_of hy, getD_of hp]; rfl)
        have e1 : IntKind.i64.wrap (y * d) = y * d := by rw [IntKind.wrap_i64]; omega
        have e2 : IntKind.i64.wrap (t - p) = t - p := by rw [IntKind.wrap_i64]; omega
        have e3 : IntKind.i64.wrap (m * (t - p)) = m * (t - p) := by rw [IntKind.wrap_i64]; omega
        have e4 : IntKind.i64.wrap (y * d + m * (t - p)) = y * d + m * (t - p) := by rw [IntKind.wrap_i64]; omega
        have HM : Hid (k + 1 ≤ maxLen) := (show _ ≤ _ by unfold maxLen; omega)
        have HM2 : Hid ((k + 1) * 8 ≤ 140737488355328) := (show _ ≤ _ by omega)
        have HSZ : Hid (W4.heap.size ≤ wr.heap.size) := (show _ ≤ _ from HB.out.size)
        have k0 : (0 : Int) ≤ (k : Int) := Int.natCast_nonneg _
        have k1 : (k : Int) < (n0 : Int) := by omega
        have n00 : 0 < n0 := by omega
        have HZW : Hid (W4.cell? ⟨g1, 0, none⟩ = some (.int .i64 m) ∧ W4.cell? ⟨g1, 1, none⟩ = some (.int .i64 d)) := (show _ ∧ _ from (cells2 HZ.out).1)
        clear hy hcy hp hcp q1 q2 q3
        go_wp2_with fail
        go_region_held3 (fun W => W.cell? ⟨g1, 0, none⟩ = some (.int .i64 m) ∧ W.cell? ⟨g1, 1, none⟩ = some (.int .i64 d) ∧ W.cell? ⟨b0, o0 + k, none⟩ = some (.int .i64 p))
          (refine ⟨cell_below ?_ HZW.out.1, cell_below ?_ HZW.out.2, cell_below ?_ HCP.out⟩ <;> (repeat (first | exact HBG.out | exact HB.out | refine Below.drew ?_ | refine below_drewN ?_ _ | refine below_alloc ?_ _)))
          ((refine step_append_lies _ (by rfl) _ _ _ (by rfl) W4.heap.size 3 i3 _ 1 8 Try.underlying22 HI0.out HZ0.out HZ1.out HZ2.out rfl (by omega) _ k (ints (endsTo hs vs t k)) (by rfl) ((HO.out.alloc _).drew)
              ⟨wr.heap.size, 0, none⟩ 1 1 [.int .i64 (y * d + m * (t - p))] (by rfl) (by rfl) (World.news_of_block (cs := #[.int .i64 (y * d + m * (t - p))]) (t := 3) (fr := (0, 0)) (heap_alloc_new wr _)) (by simp [Value.oneCell'])
              (by omega) HM.out HM2.out (by have := HSZ.out; simp; omega) (wr.heap.size + 1) (by simp) ?_; intro gg cap w1 hown1 hgrow hat hlt1;
            have HO2 := Lib.hid hown1;
            have HBG : Hid (RowKit.Below W4.heap.size W4 w1) := (show RowKit.Below _ _ _ from Below.grown (Below.drew (below_alloc HB.out _)) hgrow (by have := HB.out.size; simp; omega) (fun g hg => (HO.out.lt g hg).1));
            clear hown1 hgrow hat hlt1))
        go_wp2_with fail
        go_roundw
        case rel => exact ⟨k + 1, _, _, _, by omega, by first | rfl | go_num, rfl, rfl, rfl, (show World.ownsRow _ _ _ _ _ _ _ by rw [HEK.out]; exact HO2.out), HBG.out⟩
        case measure => simp [intOf]; omega
      · obtain rfl : k = n0 := by omega
        rcases HO.out.2 with ⟨_, hz⟩ | ⟨g, cap, cur, rfl, hg, hb, hn, hcap, hsz, htk⟩
        · omega
        · have HM := Lib.hid (sort93 g cap k (endsTo hs vs t k) cur wr (endsTo_len _ _ _ _) hb (by rw [Nat.mul_one] at htk; exact htk) (by omega) (by omega))
          have HGG : Hid (g1 < g ∧ W4.heap.size ≤ g ∧ g1 < wr.heap.size) := (show _ ∧ _ from ⟨by have := HG1.out; omega, hg, by have := HG1.out; have := HB.out.size; omega⟩)
          obtain ⟨r, hr⟩ : ∃ r, medI (endsTo hs vs t k) = r := ⟨_, rfl⟩
          rw [hr] at HM HN HMB
          clear hb hn hcap hsz htk HO hr z0 z1 z2 z3
          obtain ⟨mm, hmm⟩ : ∃ mm, (k - 1) / 2 = mm := ⟨_, rfl⟩
          rw [hmm] at HM
          have hmn : mm < k := by omega
          have e1 : IntKind.i64.wrap ((k : Int) - 1) = (k : Int) - 1 := by rw [IntKind.wrap_i64]; omega
          have e2 : ((k : Int) - 1) / 2 = (mm : Int) := by omega
          have e3 : ((k : Int) - 1).tdiv 2 = (mm : Int) := by rw [Int.tdiv_eq_ediv_of_nonneg (by omega)]; omega
          have e4 : IntKind.i64.wrap (mm : Int) = (mm : Int) := by rw [IntKind.wrap_i64]; omega
          have m0 : (0 : Int) ≤ (mm : Int) := Int.natCast_nonneg _
          have m1 : (mm : Int) < (k : Int) := by omega
          have HLW := Lib.hid (fun W => lowest_any r d W (by have := HMB.out; omega) (by have := HMB.out; omega) (by omega) (by omega))
          clear hmm
          go_wp2_with (go_at_call 93; refine HM.out.mono ?_; rintro e w5 ⟨rfl, hcm, hgr⟩; have HCM := Lib.hid hcm; have HB5 : Hid (RowKit.Below W4.heap.size W4 w5) := (show RowKit.Below _ _ _ from Below.grown HB.out hgr HB.out.size (fun q hq => by cases hq; exact HGG.out.2.1)); have z01 := cells2 ((HB5.out.block g1 HG1.out).trans HZ.out); clear hcm hgr)
          have hcm := HCM.out
          obtain ⟨⟨z0, z1⟩, z2, z3⟩ := z01
          have HZ1' := Lib.hid z1
          go_region_held3 (fun W => W.cell? ⟨g, mm, none⟩ = some (.int .i64 r) ∧ W.cell? ⟨g1, 1, none⟩ = some (.int .i64 d))
            (refine ⟨cell_below (w := w5) ?_ HCM.out, cell_below (w := w5) ?_ HZ1'.out⟩ <;> (repeat (first | exact HB6.out | exact Below.refl _ _ | refine Below.drew ?_ | refine below_drewN ?_ _ | refine below_alloc ?_ _)))
            ((go_at_call 59; refine (HLW.out _).mono ?_; rintro e w6 ⟨rfl, hb6⟩; have HB6 : Hid (RowKit.Below w5.heap.size w5 w6) := (show RowKit.Below _ _ _ from below_trans ((Below.refl _ _).drew) hb6); clear hb6))
          go_wp2_with fail
          go_ret3
          exact ⟨by rw [HN.out.1, HN.out.2.1, HN.out.2.2]; rfl, below_trans HB4.out (below_trans HB5.out HB6.out)⟩
  · have HN : Hid (fcN hs vs t = 0 ∧ fcD hs vs t = 0) := (show _ ∧ _ from ⟨if_neg hc, if_neg hc⟩)
    clear h0 h1
    generalize chkS hs vs t = r at *
    go_enter Try.func52, Try.ntmps52
    go_wp2_with (go_at_call 89; refine HK.out.mono ?_; rintro e w1 ⟨rfl, hb1⟩; have HB1 := Lib.hid hb1; clear hb1)
    go_ret3
    exact ⟨by rw [HN.out.1, HN.out.2]; rfl, HB1.out⟩
end Go.Proofs.Ytcmjpcmdgnbbpaa
