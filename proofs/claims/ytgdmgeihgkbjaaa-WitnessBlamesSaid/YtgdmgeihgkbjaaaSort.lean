/- 'slices.SortFunc' laid at names, and the closure that 'order.Order' hands it -/
import Derived.Shelf.SlSortCmp.WholeK
import Derived.Shelf.SlSortCmp.NoneTotal
import Derived.Test.YtgdmgeihgkbjaaaLives
namespace Go.Proofs.Ytgdmgeihgkbjaaa
open Go.Shelf Go.RowKit Go.Lib Go.Sort

def sortNm_ren : Go.Shelf.Ren := ⟨fun | 6 => 52 | 15 => 71 | 14 => 70 | 28 => 88 | 29 => 89 | 20 => 80 | 21 => 81 | 22 => 82 | 23 => 83 | 24 => 84 | 25 => 85 | 26 => 86 | 27 => 87 | 46 => 91 | 47 => 92 | 48 => 93 | 49 => 94 | 50 => 95 | 57 => 96 | n => n, fun | 22 => 45 | 24 => 34 | 25 => 89 | 3 => 3 | 39 => 114 | 0 => 0 | 53 => 140 | 55 => 142 | 4 => 4 | 46 => 133 | 45 => 132 | 50 => 137 | 5 => 5 | 9 => 9 | 66 => 147 | 70 => 110 | 76 => 152 | 77 => 153 | n => n, fun | n => n⟩
theorem sortNm : Go.Proofs.SlLaysF0.n6 Try.prog sortNm_ren := {
  mixed := by kernel_rfl
  f6 := ⟨Try.f52.name, by decide, Try.func52.trans (congrArg some (by kernel_rfl))⟩
  f14 := ⟨Try.f70.name, by decide, Try.func70.trans (congrArg some (by kernel_rfl))⟩
  f15 := Try.func71.trans (congrArg some (by kernel_rfl))
  f20 := ⟨Try.f80.name, by decide, Try.func80.trans (congrArg some (by kernel_rfl))⟩
  f21 := ⟨Try.f81.name, by decide, Try.func81.trans (congrArg some (by kernel_rfl))⟩
  f22 := ⟨Try.f82.name, by decide, Try.func82.trans (congrArg some (by kernel_rfl))⟩
  f23 := ⟨Try.f83.name, by decide, Try.func83.trans (congrArg some (by kernel_rfl))⟩
  f24 := ⟨Try.f84.name, by decide, Try.func84.trans (congrArg some (by kernel_rfl))⟩
  f25 := ⟨Try.f85.name, by decide, Try.func85.trans (congrArg some (by kernel_rfl))⟩
  f26 := ⟨Try.f86.name, by decide, Try.func86.trans (congrArg some (by kernel_rfl))⟩
  f27 := ⟨Try.f87.name, by decide, Try.func87.trans (congrArg some (by kernel_rfl))⟩
  f28 := Try.func88.trans (congrArg some (by kernel_rfl))
  f29 := Try.func89.trans (congrArg some (by kernel_rfl))
  f46 := ⟨Try.f91.name, by decide, Try.func91.trans (congrArg some (by kernel_rfl))⟩
  f47 := Try.func92.trans (congrArg some (by kernel_rfl))
  f48 := Try.func93.trans (congrArg some (by kernel_rfl))
  f49 := ⟨Try.f94.name, by decide, Try.func94.trans (congrArg some (by kernel_rfl))⟩
  f50 := ⟨Try.f95.name, by decide, Try.func95.trans (congrArg some (by kernel_rfl))⟩
  f57 := ⟨Try.f96.name, by decide, Try.func96.trans (congrArg some (by kernel_rfl))⟩
  t0 := Try.underlying0
  a0 := Try.isAgg0
  z0 := Try.sizeOf0
  v0 := Try.zeroValue0
  t3 := Try.underlying3
  a3 := Try.isAgg3
  z3 := Try.sizeOf3
  v3 := Try.zeroValue3
  t4 := Try.underlying4
  a4 := Try.isAgg4
  z4 := Try.sizeOf4
  v4 := Try.zeroValue4
  t5 := Try.underlying5
  a5 := Try.isAgg5
  z5 := Try.sizeOf5
  v5 := Try.zeroValue5
  t9 := Try.underlying9
  a9 := Try.isAgg9
  z9 := Try.sizeOf9
  v9 := Try.zeroValue9
  t22 := Try.underlying45
  a22 := Try.isAgg45
  z22 := Try.sizeOf45
  v22 := Try.zeroValue45
  t25 := Try.underlying89
  a25 := Try.isAgg89
  z25 := Try.sizeOf89
  v25 := Try.zeroValue89
  t39 := Try.underlying114
  a39 := Try.isAgg114
  z39 := Try.sizeOf114
  v39 := Try.zeroValue114
  t45 := Try.underlying132
  a45 := Try.isAgg132
  z45 := Try.sizeOf132
  v45 := Try.zeroValue132
  t46 := Try.underlying133
  a46 := Try.isAgg133
  z46 := Try.sizeOf133
  v46 := Try.zeroValue133
  t50 := Try.underlying137
  a50 := Try.isAgg137
  z50 := Try.sizeOf137
  v50 := Try.zeroValue137
  t53 := Try.underlying140
  a53 := Try.isAgg140
  z53 := Try.sizeOf140
  v53 := Try.zeroValue140
  t55 := Try.underlying142
  a55 := Try.isAgg142
  z55 := Try.sizeOf142
  v55 := Try.zeroValue142
  t66 := Try.underlying147
  a66 := Try.isAgg147
  z66 := Try.sizeOf147
  v66 := Try.zeroValue147
  t70 := Try.underlying110
  a70 := Try.isAgg110
  z70 := Try.sizeOf110
  v70 := Try.zeroValue110
  t76 := Try.underlying152
  a76 := Try.isAgg152
  z76 := Try.sizeOf152
  v76 := Try.zeroValue152
  t77 := Try.underlying153
  a77 := Try.isAgg153
  z77 := Try.sizeOf153
  v77 := Try.zeroValue153 }

/-- 'cmp.Compare' at int. -/
theorem cmp_any (a b : Int) (w : World) : Calls Try.prog 54 #[.int .i64 a, .int .i64 b] w fun e w' => e = .returned (.int .i64 (Lib.compareInt a b)) ∧ w' = w := by
  have key : Lib.compareInt a b = if a < b then -1 else if b < a then 1 else 0 := by unfold Lib.compareInt; rfl
  rw [key]
  by_cases h1 : a < b
  · rw [if_pos h1]
    go_enter Try.func54, Try.ntmps54
    go_wp2
    go_ret
    exact ⟨rfl, rfl⟩
  · rw [if_neg h1]
    by_cases h2 : b < a
    · rw [if_pos h2]
      go_enter Try.func54, Try.ntmps54
      go_wp2
      go_ret
      exact ⟨rfl, rfl⟩
    · rw [if_neg h2]
      go_enter Try.func54, Try.ntmps54
      go_wp2
      go_ret
      exact ⟨rfl, rfl⟩

theorem lt_of_cellA {w : World} {a : Addr} {v : Value} (h : w.cell? a = some v) : a.block < w.heap.size := by
  unfold World.cell? at h
  cases e : w.heap[a.block]? with
  | none => rw [e] at h; cases h
  | some o => exact lt_of_heap e

theorem closure_any (x y : Nm) (m : LM) (M Bm bx by_ : Nat) (fx fy : Lf) (W : World) (hc : W.cell? ⟨Bm, 0, none⟩ = some (.map (some M))) (hm : MapIs nmV lfPtr W M m) (hx : look m x = some (bx, fx)) (hy : look m y = some (by_, fy))
    (bx0 : W.heap[bx]? = some (.cells fx.arr 86 (0, 0))) (by0 : W.heap[by_]? = some (.cells fy.arr 86 (0, 0))) :
    Calls Try.prog 53 #[.agg #[.int .i64 x.s, .int .i64 x.i, .int .i64 x.t], .agg #[.int .i64 y.s, .int .i64 y.i, .int .i64 y.t], .pointer (some ⟨Bm, 0, none⟩)] W
      fun e w' => e = .returned (.int .i64 (Lib.compareInt fx.c fy.c)) ∧ ∃ q os', w' = grow (W.drewN q) os' := by
  obtain ⟨W2, hW2⟩ : ∃ W2, (W.alloc (.cells #[.int .i64 x.s, .int .i64 x.i, .int .i64 x.t] 34)).alloc (.cells #[.int .i64 y.s, .int .i64 y.i, .int .i64 y.t] 34) = W2 := ⟨_, rfl⟩
  have hB : Below W.heap.size W W2 := hW2 ▸ (below_alloc1 _).trans ((below_alloc1 _).mono (by simp))
  have hlx : ((look m x).map lfPtr).getD (.pointer none) = .pointer (some ⟨bx, 0, none⟩) := by rw [hx]; rfl
  have hly : ((look m y).map lfPtr).getD (.pointer none) = .pointer (some ⟨by_, 0, none⟩) := by rw [hy]; rfl
  have hm2 : MapIs nmV lfPtr W2 M m := hm.kept (hB.block _ hm.lt)
  have l1 : ∀ n, (Instr.lookup 81 (.map (some M)) (.agg #[.int .i64 x.s, .int .i64 x.i, .int .i64 x.t]) false).run Try.prog (W2.drewN n) = .ok (.pointer (some ⟨bx, 0, none⟩)) (W2.drewN n) := by
    intro n; rw [← hlx]; exact run_look (w := W2.drewN n) Try.underlying81 nmKey zero84 (hm2.kept (w' := W2.drewN n) (show (W2.drewN n).heap[M]? = W2.heap[M]? from rfl)) x
  have l2 : ∀ n, (Instr.lookup 81 (.map (some M)) (.agg #[.int .i64 y.s, .int .i64 y.i, .int .i64 y.t]) false).run Try.prog (W2.drewN n) = .ok (.pointer (some ⟨by_, 0, none⟩)) (W2.drewN n) := by
    intro n; rw [← hly]; exact run_look (w := W2.drewN n) Try.underlying81 nmKey zero84 (hm2.kept (w' := W2.drewN n) (show (W2.drewN n).heap[M]? = W2.heap[M]? from rfl)) y
  have cB : W2.cell? ⟨Bm, 0, none⟩ = some (.map (some M)) := by
    rw [← hc]; exact hB.cell (p := ⟨Bm, 0, none⟩) (lt_of_cellA hc)
  have cx : W2.cell? ⟨bx, 1, none⟩ = some (.int .i64 fx.c) := by
    rw [cell_of_row W2 bx _ _ 86 (0, 0) ((hB.block _ (lt_of_heap bx0)).trans bx0)]; rfl
  have cy : W2.cell? ⟨by_, 1, none⟩ = some (.int .i64 fy.c) := by
    rw [cell_of_row W2 by_ _ _ 86 (0, 0) ((hB.block _ (lt_of_heap by0)).trans by0)]; rfl
  have x0 : W2.cell? ⟨W.heap.size, 0, none⟩ = some (.int .i64 x.s) := by rw [← hW2]; simp
  have x1 : W2.cell? ⟨W.heap.size, 1, none⟩ = some (.int .i64 x.i) := by rw [← hW2]; simp
  have x2 : W2.cell? ⟨W.heap.size, 2, none⟩ = some (.int .i64 x.t) := by rw [← hW2]; simp
  have y0 : W2.cell? ⟨W.heap.size + 1, 0, none⟩ = some (.int .i64 y.s) := by rw [← hW2]; simp
  have y1 : W2.cell? ⟨W.heap.size + 1, 1, none⟩ = some (.int .i64 y.i) := by rw [← hW2]; simp
  have y2 : W2.cell? ⟨W.heap.size + 1, 2, none⟩ = some (.int .i64 y.t) := by rw [← hW2]; simp
  have HW2 := Lib.hid hW2
  clear hW2 hc hm hx hy bx0 by0 hB hlx hly hm2
  go_enter Try.func53, Try.ntmps53
  go_wp2_with fail
  rw [HW2.out]
  go_quiet ((go_at_call 54; exact Calls.quiet_of_same (cmp_any _ _ _)))
  go_wp2_with fail
  go_ret
  exact ⟨rfl, _, _, by rw [← HW2.out, alloc_eq_grow, alloc_eq_grow, grow_grow]; rfl⟩

theorem arr_get {β : Type} (A : Array β) (i : Nat) : A.toList[i]? = A[i]? := by simp

theorem pairwise_idx' {α : Type} {R : α → α → Prop} : ∀ {l : List α}, (∀ (i j : Nat) (x y : α), l[i]? = some x → l[j]? = some y → i < j → R x y) → l.Pairwise R
  | [], _ => List.Pairwise.nil
  | a :: l, h => List.Pairwise.cons (fun b hb => by
      obtain ⟨j, hj⟩ := List.getElem?_of_mem hb
      exact h 0 (j + 1) a b rfl (by simpa using hj) (by omega)) (pairwise_idx' fun i j x y hi hj hlt => h (i + 1) (j + 1) x y (by simpa using hi) (by simpa using hj) (by omega))

theorem Nm.cells_one (n : Nm) : ∀ c ∈ n.cells, c.oneCell' = true := by
  intro c hc
  simp only [Nm.cells, List.mem_cons, List.not_mem_nil, or_false] at hc
  rcases hc with rfl | rfl | rfl <;> rfl

/-- The commit's place, as the map holds it. -/
def comOf (m : LM) (n : Nm) : Int := ((look m n).map (·.2.c)).getD 0

section
variable {α : Type} [Inhabited α]

theorem sortWorld_grown (enc : α → List Value) (k : Nat) (w : World) (blk off n : Nat) (dk : Array α) (os : Array Obj) : w.grownBy (sortWorldK enc k w blk off n dk os) (some blk) := by
  refine ⟨rfl, rfl, rfl, size_sortWorldK_c enc k w blk off n dk os, fun j hj hne => ?_⟩
  have hne' : blk ≠ j := fun e => hne (by rw [e])
  unfold sortWorldK putRowK putRow mapBlock grow
  show ((Array.modify w.heap blk _) ++ os)[j]? = _
  rw [Array.getElem?_append, Array.size_modify, if_pos hj, Array.getElem?_modify, if_neg hne']

theorem sortWorld_block (enc : α → List Value) (k : Nat) (w : World) (blk off n : Nat) (dk : Array α) (os : Array Obj) {cs : Array Value} {t : TypeId} {fr : Nat × Nat} (h : w.heap[blk]? = some (.cells cs t fr)) :
    (sortWorldK enc k w blk off n dk os).heap[blk]? = some (.cells (putCells id off (flatK enc k dk) cs) t fr) := by
  have hj := lt_of_heap h
  unfold sortWorldK putRowK putRow mapBlock grow
  show ((Array.modify w.heap blk _) ++ os)[blk]? = _
  rw [Array.getElem?_append, Array.size_modify, if_pos hj, Array.getElem?_modify, if_pos rfl, h]
  rfl

theorem flatK_list (enc : α → List Value) (k : Nat) (hk : ∀ x, (enc x).length = k) (d : Array α) : (flatK enc k d).toList = d.toList.flatMap enc := by
  have hl : (d.toList.flatMap enc).length = d.size * k := by rw [flat_length hk]; simp
  refine List.ext_getElem? fun i => ?_
  by_cases hi : i < d.size * k
  · have k0 : 0 < k := by
      rcases Nat.eq_zero_or_pos k with h | h
      · subst h; simp at hi
      · exact h
    have hq : i / k < d.size := by rw [Nat.div_lt_iff_lt_mul k0]; exact hi
    have hr : i % k < k := Nat.mod_lt _ k0
    have h1 := get_flatK enc k d i hi
    have h2 := flat_get hk d.toList (i / k) d[i / k] (by simp [hq]) (i % k) hr
    rw [Nat.div_add_mod' i k] at h2
    rw [h2]
    have hs : i < (flatK enc k d).size := by simpa using hi
    rw [getElem!_pos (flatK enc k d) i hs, getElem!_pos d (i / k) hq] at h1
    rw [arr_get, Array.getElem?_eq_getElem hs, h1]
    have hr' : i % k < (enc d[i / k]).length := by rw [hk]; exact hr
    rw [getElem!_pos (enc d[i / k]) (i % k) hr', List.getElem?_eq_getElem hr']
  · rw [List.getElem?_eq_none (by rw [Array.length_toList, size_flatK]; omega), List.getElem?_eq_none (by rw [hl]; omega)]

theorem putCells_take (F cs : Array Value) (h : F.size ≤ cs.size) : (putCells id 0 F cs).toList.take F.size = F.toList := by
  refine List.ext_getElem? fun i => ?_
  rw [List.getElem?_take]
  by_cases hi : i < F.size
  · rw [if_pos hi]
    simp only [putCells, Array.getElem?_toList, Array.getElem?_mapIdx]
    rw [Array.getElem?_eq_getElem (show i < cs.size by omega), Array.getElem?_eq_getElem hi]
    simp [hi]
  · rw [if_neg hi, List.getElem?_eq_none (by simp; omega)]

end

theorem isAgg34 (w : World) : (isAgg 34).run Try.prog w = .ok true w := by kernel_rfl
theorem sizeOf34 (w : World) : (Go.sizeOf 34).run Try.prog w = .ok 3 w := by kernel_rfl

theorem ltOf_cmp {α : Type} (f : α → Int) (x y : α) : ltOf (fun x y => Lib.compareInt (f x) (f y)) x y = decide (f x < f y) := by
  unfold ltOf Lib.compareInt
  by_cases h1 : f x < f y
  · simp [h1]
  · by_cases h2 : f y < f x <;> simp [h1, h2]

theorem swo_cmp {α : Type} (f : α → Int) : SWO (ltOf fun x y => Lib.compareInt (f x) (f y)) where
  irrefl x := by rw [ltOf_cmp]; simp
  trans x y z h1 h2 := by rw [ltOf_cmp] at *; simp at *; omega
  ntrans x y z h1 h2 := by rw [ltOf_cmp] at *; simp at *; omega

/-- The names, sorted by their commits. -/
theorem sort_any (m : LM) (M Bm base base0 : Nat) (out : List Nm) (v : Value) (W : World) (hL : LivesAt base0 M W m) (hc : W.heap[Bm]? = some (.cells #[.map (some M)] 81 (0, 0)))
    (hown : W.ownsRow base 34 3 v out.length (out.flatMap Nm.cells)) (hm : ∀ n ∈ out, (look m n).isSome = true) (hlen : out.length < 100000000) :
    Calls Try.prog 52 #[v, .func (.func 53) #[] #[.pointer (some ⟨Bm, 0, none⟩)]] W fun e W' => e = .returned (.tuple #[]) ∧ ∃ out' : List Nm, out'.Perm out ∧ out'.Pairwise (fun a b => comOf m a ≤ comOf m b) ∧
      W'.ownsRow base 34 3 v out'.length (out'.flatMap Nm.cells) ∧ W.grownBy W' v.ownBlock := by
  cases out with
  | nil =>
    have hv : ∃ p cap, v = .slice p 0 cap := by
      rcases hown.2 with ⟨rfl, _⟩ | ⟨g, cap, cur, rfl, _⟩
      · exact ⟨_, _, rfl⟩
      · exact ⟨_, _, rfl⟩
    obtain ⟨p, cap, rfl⟩ := hv
    have h := AnyF.slices_SortFunc_none (P := Try.prog) sortNm p cap (.func (.func 53) #[] #[.pointer (some ⟨Bm, 0, none⟩)]) W
    refine Calls.mono h fun e W' ⟨he, hw⟩ => ⟨he, [], List.Perm.nil, List.Pairwise.nil, ?_, ?_⟩
    · subst hw; exact hown
    · subst hw; exact ⟨rfl, rfl, rfl, Nat.le_refl _, fun _ _ _ => rfl⟩
  | cons n0 rest =>
    generalize hout : n0 :: rest = out at *
    have h0 : (look m n0).isSome = true := hm n0 (by rw [← hout]; simp)
    let α := { n : Nm // (look m n).isSome = true }
    haveI : Inhabited α := ⟨⟨n0, h0⟩⟩
    let enc : α → List Value := fun x => x.1.cells
    have hk : ∀ x, (enc x).length = 3 := fun _ => rfl
    obtain ⟨d, hd⟩ : ∃ d : Array α, d.toList.map (·.1) = out := ⟨(out.pmap (fun n h => (⟨n, h⟩ : α)) hm).toArray, by simp [List.map_pmap]⟩
    have hfl : d.toList.flatMap enc = out.flatMap Nm.cells := by rw [← hd, List.flatMap_map]
    have hds : d.size = out.length := by rw [← hd]; simp
    have hpos : 0 < out.length := by rw [← hout]; simp
    rcases hown.2 with ⟨_, hz⟩ | ⟨g, cap, cur, rfl, hb, hg, hn, hcap, hcs, ht⟩
    · omega
    have hgB : g ≠ Bm := by rintro rfl; rw [hg] at hc; cases hc
    have hgM : g ≠ M := by
      rintro rfl
      obtain ⟨es, c, h1, _⟩ := hL.map
      rw [hg] at h1; cases h1
    have hH : HoldsK enc 3 W g 0 d := by
      unfold HoldsK Holds
      intro j hj
      have hj' : j < d.size * 3 := by simpa using hj
      refine ⟨?_, by simp [World.frozen?, hg]⟩
      rw [cell_of_row W g _ cur 34 (0, 0) hg, Nat.zero_add]
      have e1 : (flatK enc 3 d).toList[j]? = cur.toList[j]? := by
        rw [flatK_list enc 3 hk, hfl, ← ht, List.getElem?_take, if_pos (by rw [← hds]; exact hj')]
      rw [arr_get, arr_get, Array.getElem?_eq_getElem hj] at e1
      rw [← e1, getElem!_pos (flatK enc 3 d) j hj]; rfl
    have hcmp : CmpLays Try.prog 53 #[.pointer (some ⟨Bm, 0, none⟩)] enc 3 (fun x y : α => Lib.compareInt (comOf m x.1) (comOf m y.1)) g 0 d.size W := by
      intro mm os dk _ x y
      have hgr := sortWorld_grown enc 3 W g 0 mm dk os
      generalize sortWorldK enc 3 W g 0 mm dk os = W1 at hgr ⊢
      obtain ⟨⟨bx, fx⟩, ex⟩ := Option.isSome_iff_exists.1 x.2
      obtain ⟨⟨by_, fy⟩, ey⟩ := Option.isSome_iff_exists.1 y.2
      have gx := (hL.at_ _ (look_mem ex)).2
      have gy := (hL.at_ _ (look_mem ey)).2
      have nx : bx ≠ g := by
        rintro rfl
        rw [hg] at gx
        have h2 := congrArg (fun o => match o with | some (Obj.cells _ t _) => t | _ => 0) gx
        simp at h2
      have ny : by_ ≠ g := by
        rintro rfl
        rw [hg] at gy
        have h2 := congrArg (fun o => match o with | some (Obj.cells _ t _) => t | _ => 0) gy
        simp at h2
      have e1 : comOf m x.1 = fx.c := by simp [comOf, ex]
      have e2 : comOf m y.1 = fy.c := by simp [comOf, ey]
      show Calls _ _ _ _ fun e w' => e = .returned (.int .i64 (Lib.compareInt (comOf m x.1) (comOf m y.1))) ∧ _
      rw [e1, e2]
      exact closure_any x.1 y.1 m M Bm bx by_ fx fy W1 (by rw [cell_of_row W1 Bm _ _ 81 (0, 0) (cells_turn hc hgr (Ne.symm hgB))]; rfl) (hL.map.kept (hgr.block _ hL.map.lt (fun e => hgM (by cases e; rfl)))) ex ey (cells_turn gx hgr nx) (cells_turn gy hgr ny)
    have eg : ∀ args w, (callFunc 53 args).run Try.prog w = .ok (.enter 53 args) w := enters_of Try.func53 (by kernel_rfl) rfl
    have h := AnyQ.slices_SortFunc (P := Try.prog) sortNm 3 isAgg34 sizeOf34 enc hk (fun x v hv => Nm.cells_one x.1 v hv) (fun x y : α => Lib.compareInt (comOf m x.1) (comOf m y.1)) (swo_cmp fun x : α => comOf m x.1) 53 #[.pointer (some ⟨Bm, 0, none⟩)] g 0 cap d W eg hcmp hH (lt_of_heap hg) (by rw [hds]; omega)
    rw [hds] at h
    refine Calls.mono h fun e W' ⟨he, d', n, os, hp, hs, hw⟩ => ⟨he, d'.toList.map (·.1), ?_, ?_, ?_, ?_⟩
    · obtain ⟨p1, _, p3⟩ := hp
      have p3' : d'.toList.Perm d.toList := by
        rw [← hds] at p3
        have e1 : d'.extract 0 d.size = d' := by rw [← p1]; simp
        have e2 : d.extract 0 d.size = d := by simp
        rwa [e1, e2] at p3
      rw [← hd]
      exact p3'.map _
    · rw [List.pairwise_map]
      refine pairwise_idx' fun i j x y hi hj hlt => ?_
      have hj2 : j < d'.size := by
        have := (List.getElem?_eq_some_iff.1 hj).1
        simpa using this
      have hi2 : i < d'.size := by omega
      have := hs i j (Nat.zero_le _) hlt (by rw [← hds, ← hp.1]; exact hj2)
      rw [ltOf_cmp (fun x : α => comOf m x.1), getElem!_pos d' j hj2, getElem!_pos d' i hi2] at this
      rw [arr_get, Array.getElem?_eq_getElem hj2] at hj
      rw [arr_get, Array.getElem?_eq_getElem hi2] at hi
      cases hj; cases hi
      simpa using this
    · subst hw
      have hb2 := sortWorld_block enc 3 W g 0 n d' os hg
      have hlen' : (d'.toList.map (·.1)).length = out.length := by simp [hp.1, hds]
      have hfs : (flatK enc 3 d').size = out.length * 3 := by rw [size_flatK, hp.1, hds]
      have hcl : cur.size = cap * 3 := hcs
      have hle : out.length * 3 ≤ cap * 3 := Nat.mul_le_mul_right 3 hn
      refine ⟨flat_length (f := Nm.cells) (k := 3) (fun _ => rfl) _, .inr ⟨g, cap, _, by rw [hlen'], hb, hb2, by rw [hlen']; exact hn, hcap, by simp [putCells, hcl], ?_⟩⟩
      rw [hlen', ← hfs, putCells_take _ _ (by rw [hfs]; omega), flatK_list enc 3 hk, List.flatMap_map]
    · subst hw
      exact sortWorld_grown enc 3 W g 0 n d' os

end Go.Proofs.Ytgdmgeihgkbjaaa
