/- What the median of fractions answers: the one in the middle of an ascending order of them (the library's sort by its contract on the shelf). -/
import Derived.Shelf.SlSortCmp.WholeK
import Derived.Test.YtcmjpcmdgnbbpaaLow2
import Derived.Test.YtcmjpcmdgnbbpaaSMid
namespace Go.Proofs
open Go.Shelf
/-! the sort of fractions: the shelf's contract laid at this program's numbers -/
def Try.sortFr_ren : Go.Shelf.Ren := ⟨fun | 6 => 119 | 15 => 110 | 14 => 131 | 28 => 129 | 29 => 130 | 20 => 137 | 21 => 138 | 22 => 139 | 23 => 140 | 24 => 141 | 25 => 142 | 26 => 143 | 27 => 144 | 46 => 146 | 47 => 133 | 48 => 134 | 49 => 147 | 50 => 148 | 57 => 149 | n => n, fun | 22 => 133 | 24 => 80 | 25 => 147 | 3 => 3 | 39 => 101 | 0 => 0 | 53 => 140 | 55 => 143 | 4 => 4 | 46 => 150 | 45 => 149 | 50 => 154 | 5 => 5 | 9 => 9 | 66 => 159 | 70 => 112 | 76 => 169 | 77 => 78 | n => n, fun | n => n⟩
theorem Try.sortFr : SlLaysF0.n6 Try.prog Try.sortFr_ren := {
  mixed := by kernel_rfl
  f6 := ⟨Try.f119.name, by decide, Try.func119.trans (congrArg some (by kernel_rfl))⟩
  f14 := ⟨Try.f131.name, by decide, Try.func131.trans (congrArg some (by kernel_rfl))⟩
  f15 := Try.func110.trans (congrArg some (by kernel_rfl))
  f20 := ⟨Try.f137.name, by decide, Try.func137.trans (congrArg some (by kernel_rfl))⟩
  f21 := ⟨Try.f138.name, by decide, Try.func138.trans (congrArg some (by kernel_rfl))⟩
  f22 := ⟨Try.f139.name, by decide, Try.func139.trans (congrArg some (by kernel_rfl))⟩
  f23 := ⟨Try.f140.name, by decide, Try.func140.trans (congrArg some (by kernel_rfl))⟩
  f24 := ⟨Try.f141.name, by decide, Try.func141.trans (congrArg some (by kernel_rfl))⟩
  f25 := ⟨Try.f142.name, by decide, Try.func142.trans (congrArg some (by kernel_rfl))⟩
  f26 := ⟨Try.f143.name, by decide, Try.func143.trans (congrArg some (by kernel_rfl))⟩
  f27 := ⟨Try.f144.name, by decide, Try.func144.trans (congrArg some (by kernel_rfl))⟩
  f28 := Try.func129.trans (congrArg some (by kernel_rfl))
  f29 := Try.func130.trans (congrArg some (by kernel_rfl))
  f46 := ⟨Try.f146.name, by decide, Try.func146.trans (congrArg some (by kernel_rfl))⟩
  f47 := Try.func133.trans (congrArg some (by kernel_rfl))
  f48 := Try.func134.trans (congrArg some (by kernel_rfl))
  f49 := ⟨Try.f147.name, by decide, Try.func147.trans (congrArg some (by kernel_rfl))⟩
  f50 := ⟨Try.f148.name, by decide, Try.func148.trans (congrArg some (by kernel_rfl))⟩
  f57 := ⟨Try.f149.name, by decide, Try.func149.trans (congrArg some (by kernel_rfl))⟩
  t0 := Try.underlying0
  a0 := Try.isAgg0
  z0 := Try.sizeOf0
  v0 := Try.zeroValue0
  t3 := Try.underlying3
  a3 := Try.isAgg3
  z3 := Try.sizeOf3
  v3 := Try.zeroValue3
  t4 := Try.underlying4
  a4 := Try.isAgg4
  z4 := Try.sizeOf4
  v4 := Try.zeroValue4
  t5 := Try.underlying5
  a5 := Try.isAgg5
  z5 := Try.sizeOf5
  v5 := Try.zeroValue5
  t9 := Try.underlying9
  a9 := Try.isAgg9
  z9 := Try.sizeOf9
  v9 := Try.zeroValue9
  t22 := Try.underlying133
  a22 := Try.isAgg133
  z22 := Try.sizeOf133
  v22 := Try.zeroValue133
  t25 := Try.underlying147
  a25 := Try.isAgg147
  z25 := Try.sizeOf147
  v25 := Try.zeroValue147
  t39 := Try.underlying101
  a39 := Try.isAgg101
  z39 := Try.sizeOf101
  v39 := Try.zeroValue101
  t45 := Try.underlying149
  a45 := Try.isAgg149
  z45 := Try.sizeOf149
  v45 := Try.zeroValue149
  t46 := Try.underlying150
  a46 := Try.isAgg150
  z46 := Try.sizeOf150
  v46 := Try.zeroValue150
  t50 := Try.underlying154
  a50 := Try.isAgg154
  z50 := Try.sizeOf154
  v50 := Try.zeroValue154
  t53 := Try.underlying140
  a53 := Try.isAgg140
  z53 := Try.sizeOf140
  v53 := Try.zeroValue140
  t55 := Try.underlying143
  a55 := Try.isAgg143
  z55 := Try.sizeOf143
  v55 := Try.zeroValue143
  t66 := Try.underlying159
  a66 := Try.isAgg159
  z66 := Try.sizeOf159
  v66 := Try.zeroValue159
  t70 := Try.underlying112
  a70 := Try.isAgg112
  z70 := Try.sizeOf112
  v70 := Try.zeroValue112
  t76 := Try.underlying169
  a76 := Try.isAgg169
  z76 := Try.sizeOf169
  v76 := Try.zeroValue169
  t77 := Try.underlying78
  a77 := Try.isAgg78
  z77 := Try.sizeOf78
  v77 := Try.zeroValue78 }
end Go.Proofs
namespace Go.Proofs.Ytcmjpcmdgnbbpaa
open Go.RowKit Go.Shelf Go.Sort
set_option linter.unusedVariables false
instance : Inhabited Frac := ⟨⟨0, 1, by decide, by decide⟩⟩
def encF (x : Frac) : List Value := [.int .i64 x.num, .int .i64 x.den]
def cfF (x y : Frac) : Int := cmpI (x.num * y.den) (y.num * x.den)
theorem ltOf_F (x y : Frac) : ltOf cfF x y = Frac.lt x y := by
  unfold ltOf cfF cmpI Frac.lt
  by_cases h1 : x.num * y.den < y.num * x.den
  · simp [h1]
  · by_cases h2 : x.num * y.den > y.num * x.den <;> simp [h1, h2]
theorem lt_iff {l : List Frac} {x y : Frac} (hx : x ∈ l) (hy : y ∈ l) : Frac.lt x y = true ↔ x.key (cden l) < y.key (cden l) := by
  rw [Frac.lt, decide_eq_true_eq]; exact lt_key (cden_pos l) (den_dvd hx) (den_dvd hy)
theorem swoF : SWO (ltOf cfF) where
  irrefl x := by rw [ltOf_F]; simp [Frac.lt]
  trans x y z h1 h2 := by
    rw [ltOf_F] at *
    rw [lt_iff (l := [x, y, z]) (by simp) (by simp)] at *
    omega
  ntrans x y z h1 h2 := by
    rw [ltOf_F] at *
    rw [← Bool.not_eq_true, lt_iff (l := [x, y, z]) (by simp) (by simp)] at *
    omega
theorem prodF (x y : Frac) : -9223372036854775808 ≤ x.num * y.den ∧ x.num * y.den ≤ 9223372036854775807 := by
  have h1 := Int.mul_le_mul_of_nonneg_right x.nb.1 (show 0 ≤ y.den by have := y.db; omega)
  have h2 := Int.mul_le_mul_of_nonneg_right x.nb.2 (show 0 ≤ y.den by have := y.db; omega)
  have := y.db
  omega
theorem cmp65 (x y : Frac) (W : World) : Calls Try.prog 65 #[.agg #[.int .i64 x.num, .int .i64 x.den], .agg #[.int .i64 y.num, .int .i64 y.den]] W fun e w' => e = .returned (.int .i64 (cfF x y)) ∧ ∃ q os', w' = grow (W.drewN q) os' := by
  have e1 : wrap64 (x.num * y.den) = x.num * y.den := w64 _ (prodF x y).1 (prodF x y).2
  have e2 : wrap64 (y.num * x.den) = y.num * x.den := w64 _ (prodF y x).1 (prodF y x).2
  have H : Hid (cfF x y = cmpI (x.num * y.den) (y.num * x.den)) := (show _ = _ from rfl)
  generalize cfF x y = r at *
  generalize x.num = a at *
  generalize x.den = b at *
  generalize y.num = c at *
  generalize y.den = d at *
  go_enter Try.func65, Try.ntmps65
  go_wp2_with (go_at_call 99; refine (compare_any _ _ _).mono ?_; rintro e w' ⟨rfl, rfl⟩)
  go_ret
  exact ⟨ret_int H.out.symm, 0, _, by rw [alloc_eq_grow, alloc_eq_grow, grow_grow]; rfl⟩
theorem cmpLays65 (blk off size : Nat) (w : World) : CmpLays Try.prog 65 #[] encF 2 cfF blk off size w := fun _ _ _ _ x y => cmp65 x y _
/-- the cells of a row of fractions -/
def fl (l : List Frac) : List Value := l.flatMap encF
theorem fl_len (l : List Frac) : (fl l).length = l.length * 2 := by
  unfold fl
  induction l with
  | nil => rfl
  | cons x l ih => rw [List.flatMap_cons, List.length_append, ih, List.length_cons]; simp [encF]; omega
theorem fl_snoc (l : List Frac) (x : Frac) : fl (l ++ [x]) = fl l ++ [.int .i64 x.num, .int .i64 x.den] := by unfold fl; rw [List.flatMap_append]; rfl
theorem fl_get : ∀ (l : List Frac) (j : Nat), j < l.length * 2 → (fl l)[j]? = some ((encF l[j / 2]!)[j % 2]!)
  | [], j, h => by simp at h
  | x :: l, 0, h => rfl
  | x :: l, 1, h => rfl
  | x :: l, j + 2, h => by
    have := fl_get l j (by simp at h; omega)
    rw [show fl (x :: l) = .int .i64 x.num :: .int .i64 x.den :: fl l from rfl, List.getElem?_cons_succ, List.getElem?_cons_succ, this, show (j + 2) / 2 = j / 2 + 1 by omega, Nat.add_mod_right]
    rfl
theorem holds_fl {w : World} {g : Nat} {cur : Array Value} {e : TypeId} {l : List Frac} (hb : w.heap[g]? = some (.cells cur e (0, 0))) (ht : cur.toList.take (l.length * 2) = fl l) : HoldsK encF 2 w g 0 l.toArray := by
  intro j hj
  have hj' : j < l.length * 2 := by simpa using hj
  refine ⟨?_, by simp [World.frozen?, hb]⟩
  have h1 : (cur.toList.take (l.length * 2))[j]? = (fl l)[j]? := by rw [ht]
  rw [List.getElem?_take_of_lt hj', fl_get l j hj'] at h1
  simp only [World.cell?, hb, Nat.zero_add]
  simp only [Option.isSome_none, Bool.false_eq_true, if_false]
  rw [← Array.getElem?_toList, h1, get_flatK _ _ _ _ (by simpa using hj')]
  simp
theorem grown_sortK {w : World} {g n : Nat} {os : Array Obj} (d : Array Frac) : w.grownBy (sortWorldK encF 2 w g 0 n d os) (some g) := by
  unfold sortWorldK
  refine ⟨rfl, rfl, rfl, by simp [putRowK, putRow, mapBlock, Sort.ahead, grow], fun k hk hne => ?_⟩
  rw [heap_grow_old _ _ (by simpa [putRowK, putRow, mapBlock, Sort.ahead] using hk)]
  have : g ≠ k := fun e => hne (by rw [e])
  simp [putRowK, putRow, mapBlock, Sort.ahead, Array.getElem?_modify, this]
theorem perm_of {d d' : Array Frac} (h : PermIn 0 d.size d d') : d'.toList.Perm d.toList := by
  obtain ⟨h1, _, h3⟩ := h
  have e1 : d.extract 0 d.size = d := by simp
  have e2 : d'.extract 0 d.size = d' := by rw [← h1]; simp
  rwa [e1, e2] at h3
theorem asc_of {d : Array Frac} {n : Nat} (hn : d.size = n) (h : SortedIn (ltOf cfF) 0 n d) : AscF d.toList := by
  unfold AscF
  rw [List.pairwise_iff_getElem]
  intro i j hi hj hij
  have := h i j (Nat.zero_le _) hij (by simpa [hn] using hj)
  rw [ltOf_F] at this
  rw [getElem!_pos d j (by simpa using hj), getElem!_pos d i (by simpa using hi)] at this
  simpa using this
/-- the fraction in the middle of an ascending order of some -/
def Mid (l : List Frac) (x : Frac) : Prop := ∃ l', l'.Perm l ∧ AscF l' ∧ l'[(l.length - 1) / 2]? = some x
theorem sort119 (g cap : Nat) (l : List Frac) (w : World) (hH : HoldsK encF 2 w g 0 l.toArray) (hb : g < w.heap.size) (hl : 0 < l.length) (hsz : l.length ≤ 1000) :
    Calls Try.prog 119 #[.slice (some ⟨g, 0, none⟩) l.length cap, .func (.func 65) #[] #[]] w fun e w' => e = .returned (.tuple #[]) ∧ ∃ x, Mid l x ∧ w'.cell? ⟨g, (l.length - 1) / 2 * 2, none⟩ = some (.int .i64 x.num) ∧ w'.cell? ⟨g, (l.length - 1) / 2 * 2 + 1, none⟩ = some (.int .i64 x.den) ∧ w.grownBy w' (some g) := by
  have eg : ∀ args w, (callFunc 65 args).run Try.prog w = .ok (.enter 65 args) w := enters_of Try.func65 (by kernel_rfl) rfl
  have hcon := AnyQ.slices_SortFunc Try.sortFr 2 Try.isAgg80 Try.sizeOf80 encF (fun _ => rfl) (fun x v hv => by simp [encF] at hv; rcases hv with rfl | rfl <;> rfl) cfF swoF 65 #[] g 0 cap l.toArray w eg (cmpLays65 g 0 _ w) hH hb (by simp; omega)
  change Calls Try.prog 119 _ _ _ at hcon
  refine hcon.mono ?_
  rintro e w' ⟨rfl, d', n, os, hp, hs, rfl⟩
  have hsize : d'.size = l.length := by have := hp.1; simpa using this
  have hi : (l.length - 1) / 2 < d'.size := by omega
  refine ⟨rfl, d'[(l.length - 1) / 2]'hi, ⟨d'.toList, by simpa using perm_of hp, asc_of (by simp [hsize]) hs, by simp [hi]⟩, ?_, ?_, grown_sortK d'⟩
  all_goals
    have hh : HoldsK encF 2 (sortWorldK encF 2 w g 0 n d' os) g 0 d' := by
      unfold sortWorldK
      refine holdsK_grow _ _ _ _ _ _ _ ?_ (holdsK_putRowK _ _ _ _ _ l.toArray d' hH (by simp [hsize]))
      simpa [putRowK, putRow, mapBlock, Sort.ahead] using hb
  · have := (hh.cell (i := (l.length - 1) / 2) (c := 0) hi (by decide)).1
    simpa [encF, getElem!_pos, hi] using this
  · have := (hh.cell (i := (l.length - 1) / 2) (c := 1) hi (by decide)).1
    simpa [encF, getElem!_pos, hi] using this
end Go.Proofs.Ytcmjpcmdgnbbpaa
