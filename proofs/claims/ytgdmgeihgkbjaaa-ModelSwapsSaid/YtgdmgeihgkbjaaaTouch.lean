/- 'model.touched' -/
import Derived.Test.YtgdmgeihgkbjaaaRise
import Derived.Test.YtgdmgeihgkbjaaaDo
import Derived.WideMake
import Derived.Deep.Onto
namespace Go.Proofs.Ytgdmgeihgkbjaaa
open Go.RowKit Go.Shelf
attribute [local go_sem] Oper.semAt_some run_makeMap_plain

abbrev IB := List (Int × Bool)
def touchSt (p : IB × IB) (x : Sn) : IB × IB := if x.k = 2 then (p.1, put p.2 x.b true) else if has p.2 x.b then p else (put p.1 x.b true, p.2)
def touchL (l : List Sn) : IB × IB := l.foldl touchSt ([], [])
theorem touchL_snoc (l : List Sn) (x : Sn) : touchL (l ++ [x]) = touchSt (touchL l) x := by simp [touchL]

/-- Behind the steps ys: the two maps. -/
def TouchI (w : World) (ys : List Sn) (W : World) : Prop :=
  Boxed W (w.heap.size + 1 + 1) 108 (.map (some w.heap.size)) ∧ Boxed W (w.heap.size + 1 + 1 + 1) 108 (.map (some (w.heap.size + 1))) ∧
  MapIs intV boolV W w.heap.size (touchL ys).1 ∧ MapIs intV boolV W (w.heap.size + 1) (touchL ys).2 ∧ Below w.heap.size w W

theorem kept_other {B : Nat} {W W' : World} {row : Option Nat} (hg : W.grownBy W' row) (hr : ∀ r, row = some r → B ≤ r ∧ ∃ o : Obj, W.heap[r]? = some o ∧ o.isCells = false) {k : Nat} (hk : k < B) (hlt : k < W.heap.size) : W'.heap[k]? = W.heap[k]? :=
  hg.block k hlt (fun e => by have := (hr k e.symm).1; omega)

theorem TouchI.own {β : Type} {B : Nat} {w : World} (f : β → List Sn) (hB : w.heap.size + 4 ≤ B) : OwnFrom B (fun b W => TouchI w (f b) W) := by
  rintro b W W' row ⟨h1, h2, h3, h4, h5⟩ hg hr
  exact ⟨kept_cells hg hr h1, kept_cells hg hr h2, h3.kept (kept_other hg hr (by omega) h3.lt), h4.kept (kept_other hg hr (by omega) h4.lt), kept_below h5 (Nat.le_refl _) (by omega) hg hr⟩

theorem has_true {m : IB} {k : Int} (h : has m k = true) : (((look m k).map boolV).getD (.bool false)) = .bool true := by
  unfold has at h
  cases hl : look m k with
  | none => rw [hl] at h; cases h
  | some v => rw [hl] at h; simp at h; simp [boolV, h]

theorem has_false {m : IB} {k : Int} (h : ¬ has m k = true) : (((look m k).map boolV).getD (.bool false)) = .bool false := by
  unfold has at h
  cases hl : look m k with
  | none => rfl
  | some v => rw [hl] at h; simp at h; simp [boolV, h]

def readsL (l : List Sn) : List Int := upTo (has (touchL ((stepsOf l 0).map (·.2))).1) 32
def writesL (l : List Sn) : List Int := upTo (has (touchL ((stepsOf l 0).map (·.2))).2) 32

theorem map_not_row {κ β : Type} {kenc : κ → Value} {venc : β → Value} {W : World} {b : Nat} {m : List (κ × β)} (h : MapIs kenc venc W b m) {base : Nat} {e : TypeId} {size k : Nat} {v : Value} {xs : List Value} (hr : W.ownsRow base e size v k xs) : v.ownBlock ≠ some b := by
  obtain ⟨es, clock, hb, _⟩ := h
  rcases hr.2 with ⟨rfl, _⟩ | ⟨g, cap, cur, rfl, _, hgb, _⟩
  · simp [Value.ownBlock]
  · intro e'
    obtain rfl : b = g := by simpa [Value.ownBlock] using e'.symm
    rw [hb] at hgb
    cases hgb

theorem not_deferred {W : World} {D : Nat} {d : Option (List Deferred)} (h : W.heap[D]? = some (.deferred d)) {base : Nat} {e : TypeId} {size k : Nat} {v : Value} {xs : List Value} (hr : W.ownsRow base e size v k xs) : v.ownBlock ≠ some D := by
  rcases hr.2 with ⟨rfl, _⟩ | ⟨g, cap, cur, rfl, _, hgb, _⟩
  · simp [Value.ownBlock]
  · intro e'
    obtain rfl : D = g := by simpa [Value.ownBlock] using e'.symm
    rw [h] at hgb
    cases hgb

/-- While the two maps are told (b: the first has been, c: the second has). -/
structure TD (w : World) (p : IB × IB) (D : Nat) (b c : Bool) (vr vw : Value) (W : World) : Prop where
  b1 : Boxed W (w.heap.size + 1 + 1) 108 (.map (some w.heap.size))
  b2 : Boxed W (w.heap.size + 1 + 1 + 1) 108 (.map (some (w.heap.size + 1)))
  m1 : b = false → MapIs intV boolV W w.heap.size p.1
  m2 : c = false → MapIs intV boolV W (w.heap.size + 1) p.2
  r1 : b = true → W.ownsRow w.heap.size 3 1 vr (upTo (has p.1) 32).length (intsC (upTo (has p.1) 32))
  r2 : c = true → W.ownsRow w.heap.size 3 1 vw (upTo (has p.2) 32).length (intsC (upTo (has p.2) 32))
  df : W.heap[D]? = some (.deferred (some []))
  below : Below w.heap.size w W

theorem TD.call1 {w : World} {p : IB × IB} {D : Nat} {c : Bool} {vr vw v : Value} {W W' : World} (h : TD w p D false c vr vw W) (hD : w.heap.size < D)
    (hv : W'.ownsRow W.heap.size 3 1 v (upTo (has p.1) 32).length (intsC (upTo (has p.1) 32))) (hg : W.grownBy W' (some w.heap.size)) : TD w p D true c v vw W' :=
  ⟨cells_turn h.b1 hg (by omega), cells_turn h.b2 hg (by omega), (fun h => by cases h), fun hc => (h.m2 hc).kept (hg.block _ (h.m2 hc).lt (by simp)), fun _ => hv.mono h.below.size,
   fun hc => owns_turn (h.r2 hc) hg (fun e => map_not_row (h.m1 rfl) (h.r2 hc) e), cells_turn h.df hg (by omega), h.below.grown hg h.below.size (fun k e => by cases e; omega)⟩

theorem TD.call2 {w : World} {p : IB × IB} {D : Nat} {b : Bool} {vr vw v : Value} {W W' : World} (h : TD w p D b false vr vw W) (hD : w.heap.size + 1 < D)
    (hv : W'.ownsRow W.heap.size 3 1 v (upTo (has p.2) 32).length (intsC (upTo (has p.2) 32))) (hg : W.grownBy W' (some (w.heap.size + 1))) : TD w p D b true vr v W' :=
  ⟨cells_turn h.b1 hg (by omega), cells_turn h.b2 hg (by omega), fun hb => (h.m1 hb).kept (hg.block _ (h.m1 hb).lt (by simp)), (fun h => by cases h),
   fun hb => owns_turn (h.r1 hb) hg (fun e => map_not_row (h.m2 rfl) (h.r1 hb) e), fun _ => hv.mono h.below.size, cells_turn h.df hg (by omega), h.below.grown hg h.below.size (fun k e => by cases e; omega)⟩

set_option maxRecDepth 100000 in
set_option maxHeartbeats 2000000 in
theorem touched_any (l : List Sn) (v : Value) (w : World) (hl : l.length ≤ 100000) (hv : Sns w.heap.size w v l) :
    Calls Try.prog 45 #[v] w fun e w' => ∃ vr vw, e = .returned (.tuple #[vr, vw]) ∧ w'.ownsRow w.heap.size 3 1 vr (readsL l).length (intsC (readsL l)) ∧ w'.ownsRow w.heap.size 3 1 vw (writesL l).length (intsC (writesL l)) ∧ Below w.heap.size w w' := by
  refine (callsIn_wide (n := 8)).1 ?_
  refine callsIn_of_wp_marks Try.func45 rfl trivial ?_ rfl
  simp only [Try.ntmps45, List.size_toArray, List.length_cons, List.length_nil, Nat.reduceAdd, Nat.reduceSub, Array.replicate_succ, Array.replicate_zero, List.push_toArray, List.append_toArray, List.nil_append, List.cons_append]
  gi_wp2_with fail
  refine ⟨trivial, ?_⟩
  obtain ⟨w1, hw1⟩ : ∃ w1, (((w.alloc (.map #[] 0)).alloc (.map #[] 0)).alloc (.cells #[.map (some w.heap.size)] 108)).alloc (.cells #[.map (some (w.heap.size + 1))] 108) = w1 := ⟨_, rfl⟩
  have hz1 : w1.heap.size = w.heap.size + 4 := by rw [← hw1]; simp
  have hb1 : Below w.heap.size w w1 := by
    rw [← hw1]; exact ((((Below.refl _ _).alloc (Nat.le_refl _) _).alloc (by simp) _).alloc (by simp; try omega) _).alloc (by simp; try omega) _
  have g1 : w1.heap[w.heap.size]? = some (.map #[] 0) := by
    rw [← hw1, Below.heap_alloc _ _ _ (by simp; try omega), Below.heap_alloc _ _ _ (by simp; try omega), Below.heap_alloc _ _ _ (by simp)]; exact heap_alloc_new w _
  have g2 : w1.heap[w.heap.size + 1]? = some (.map #[] 0) := by
    rw [← hw1, Below.heap_alloc _ _ _ (by simp; try omega), Below.heap_alloc _ _ _ (by simp)]; exact heap_alloc2_new w _ _
  have g3 : Boxed w1 (w.heap.size + 1 + 1) 108 (.map (some w.heap.size)) := by
    have := (Boxed.new ((w.alloc (.map #[] 0)).alloc (.map #[] 0)) 108 (.map (some w.heap.size))).alloc (.cells #[.map (some (w.heap.size + 1))] 108)
    rw [hw1] at this
    simpa using this
  have g4 : Boxed w1 (w.heap.size + 1 + 1 + 1) 108 (.map (some (w.heap.size + 1))) := by
    have := Boxed.new (((w.alloc (.map #[] 0)).alloc (.map #[] 0)).alloc (.cells #[.map (some w.heap.size)] 108)) 108 (.map (some (w.heap.size + 1)))
    rw [hw1] at this
    simpa using this
  have hI1 : TouchI w [] w1 := ⟨g3, g4, ⟨_, _, g1, rfl, by simp, by simp⟩, ⟨_, _, g2, rfl, by simp, by simp⟩, hb1⟩
  rw [hw1]
  have HZ1 := Lib.hid hz1
  clear g1 g2 g3 g4 hw1 hz1
  obtain ⟨a, cap, rfl, hnil, ha⟩ := hv
  refine (callsIn_wide.2 (steps_any _ _ ⟨_, _, _, rfl⟩)).mono ?_
  rintro e w2 ⟨rfl, rfl⟩
  gi_wp2_with fail
  obtain ⟨W0, hW0⟩ : ∃ W0, w1.alloc (.cells #[.slice a l.length cap] 25) = W0 := ⟨_, rfl⟩
  have hz1 := HZ1.out
  have hk0 : Below w1.heap.size w1 W0 := hW0 ▸ below_alloc1 _
  have hsz0 : W0.heap.size = w1.heap.size + 1 := by rw [← hW0]; simp
  have hBs0 : W0.cell? ⟨w1.heap.size, 0, none⟩ = some (.slice a l.length cap) := by rw [← hW0]; exact (Boxed.new w1 25 _).cell
  have hw0 : Below w.heap.size w W0 := hb1.trans (hk0.mono hb1.size)
  have hI0 : TouchI w [] W0 := TouchI.own (B := w.heap.size + 4) (fun _ : Unit => []) (Nat.le_refl _) () _ _ none hI1 (hW0 ▸ World.grownBy_alloc _ _ _) (fun _ e => by cases e)
  rw [hW0]
  clear hI1 hb1
  have hseq := steps1_in 7 (by omega) w1.heap.size w.heap.size a cap l hl W0 hnil (fun b off s' e h => ⟨(ha b off s' e h).1, (ha b off s' e h).2.1, (ha b off s' e h).2.2.below (ha b off s' e h).2.1 hw0⟩) hw0.size hBs0
  unfold SeqC at hseq
  refine wpIn_rangeFunc_ownH (F := Fence.wide) (n := 8) rfl (by omega) (gf := 66) (lb := #[.pointer (some ⟨w1.heap.size, 0, none⟩)]) rfl trivial (enters_of Try.func66 (by kernel_rfl) rfl) hseq
    belowK_t (belowK_b hw0.size) (Below.refl _ _) (fun _ => rfl)
    (fun pre W => TouchI w (pre.map (·.1.2)) W) (fun _ _ _ => False) (TouchI.own _ (by omega)) (fun _ _ _ _ _ hs _ _ => hs) hI0
    (fun x a' W => ∃ Bx, W.heap[Bx]? = some (.cells (snArr x.1.2) 36 (0, 0)) ∧ a' = { tmps := #[.slice a l.length cap, undef, .slice none 0 0, .slice none 0 0, .pointer (some ⟨w.heap.size + 1 + 1, 0, none⟩), .pointer (some ⟨w.heap.size + 1 + 1 + 1, 0, none⟩), undef, .pointer (some ⟨Bx, 0, none⟩), .map (some w.heap.size), .map (some (w.heap.size + 1)), .slice a l.length cap, .func (.func 66) #[] #[.pointer (some ⟨w1.heap.size, 0, none⟩)], .int .i64 (x.1.1 : Int), snVal x.1.2, undef, undef, undef, undef, undef, undef, undef, undef, undef, undef, undef, undef, undef, undef, undef, undef, undef, undef], defers := [] })
    (fun x a' _ W W' row ⟨Bx, h2, h3⟩ hg hr => ⟨Bx, kept_cells hg hr h2, h3⟩) ?assign ?body ?done ?stop
  case assign =>
    rintro lp pre ⟨⟨i, x⟩, hx⟩ W K hi hK
    simp only [encIS, snVal]
    clear hz1
    gi_wp2
    refine hK _ _ ((KeepsOthers.alloc _ _).from _) ((Below.refl _ _).alloc hi.2.2.2.2.size _) ?_ ⟨W.heap.size, heap_alloc_new _ _, rfl⟩
    exact TouchI.own (B := w.heap.size + 4) (fun _ : Unit => pre.map (·.1.2)) (Nat.le_refl _) () W _ none hi (World.grownBy_alloc _ _ _) (fun _ e => by cases e)
  case body =>
    rintro lp pre ⟨⟨i, x⟩, hx⟩ a' W hlp hrec ⟨h1, h2, h3, h4, hB⟩ ⟨Bx, bX, rfl⟩ hlen
    have hnext : touchL ((pre ++ [(⟨(i, x), hx⟩ : { b // b ∈ stepsOf l 0 })]).map (·.1.2)) = touchSt (touchL (pre.map (·.1.2))) x := by rw [List.map_append]; exact touchL_snoc _ _
    generalize hcur : touchL (pre.map (·.1.2)) = cur at h3 h4 hnext
    obtain ⟨m, o⟩ := cur
    obtain ⟨c0, c1, c2, c3, c4, c5, c6, c7, c8, c9, c10, c11, c12, c13⟩ := snArr_at bX
    have hc1 := h1.cell
    have hc2 := h2.cell
    have hf1 := h1.frozen
    have hf2 := h2.frozen
    have H1 := Lib.hid h1
    have H2 := Lib.hid h2
    have H3 := Lib.hid h3
    have H4 := Lib.hid h4
    have HN := Lib.hid hnext
    have HREC := Lib.hid hrec
    have HB := Lib.hid hB
    have HBX := Lib.hid bX
    have HZ1 := Lib.hid hz1
    clear h1 h2 h3 h4 hnext hrec hB bX hcur hz1
    by_cases hk : x.k = 2
    · have e1 : (x.k == 2) = true := by simp [hk]
      have HS : Hid (touchSt (m, o) x = (m, put o x.b true)) := by simp [Hid, touchSt, hk]
      clear hk
      gi_wp2_with (refine wpListIn_put Try.underlying108 intKey H4.out rfl _ _ _ rfl rfl x.b rfl true rfl ?_; intro W2 hg2 hm2)
      exact ⟨from_turn hg2 (.inl (by have := HZ1.out; omega)), (Below.refl _ _).grown hg2 HB.out.size (fun k e => by cases e; omega), by show TouchI w _ _; unfold TouchI; rw [HN.out, HS.out]; exact ⟨cells_turn H1.out hg2 (by omega), cells_turn H2.out hg2 (by omega), H3.out.kept (hg2.block _ H3.out.lt (by simp)), hm2, HB.out.grown hg2 HB.out.size (fun k e => by cases e; omega)⟩⟩
    · have e1 : (x.k == 2) = false := by simp [hk]
      by_cases hf : has o x.b = true
      · have hf' : (((look o x.b).map boolV).getD (.bool false)) = .bool true := has_true hf
        have HS : Hid (touchSt (m, o) x = (m, o)) := by simp [Hid, touchSt, hk, hf]
        clear hk hf
        gi_wp2_with (refine wpListIn_look Try.underlying108 intKey zero4 H4.out rfl _ _ rfl rfl x.b rfl ?_; rw [hf'])
        exact ⟨KeepsFrom.refl _ _, Below.refl _ _, by show TouchI w _ _; unfold TouchI; rw [HN.out, HS.out]; exact ⟨H1.out, H2.out, H3.out, H4.out, HB.out⟩⟩
      · have hf' : (((look o x.b).map boolV).getD (.bool false)) = .bool false := has_false hf
        have HS : Hid (touchSt (m, o) x = (put m x.b true, o)) := by simp [Hid, touchSt, hk, hf]
        clear hk hf
        gi_wp2_with (first | (refine wpListIn_look Try.underlying108 intKey zero4 H4.out rfl _ _ rfl rfl x.b rfl ?_; rw [hf']) | (refine wpListIn_put Try.underlying108 intKey H3.out rfl _ _ _ rfl rfl x.b rfl true rfl ?_; intro W2 hg2 hm2))
        exact ⟨from_turn hg2 (.inl (by have := HZ1.out; omega)), (Below.refl _ _).grown hg2 HB.out.size (fun k e => by cases e; omega), by show TouchI w _ _; unfold TouchI; rw [HN.out, HS.out]; exact ⟨cells_turn H1.out hg2 (by omega), cells_turn H2.out hg2 (by omega), hm2, H4.out.kept (hg2.block _ H4.out.lt (by simp)), HB.out.grown hg2 HB.out.size (fun k e => by cases e; omega)⟩⟩
  case done =>
    rintro D xs Wd hD hS ⟨h1, h2, h3, h4, hB⟩ hK
    have hxs : xs.map (·.1) = stepsOf l 0 := hS
    have hcur : touchL (xs.map (·.1.2)) = touchL ((stepsOf l 0).map (·.2)) := by
      have := congrArg (fun l => touchL (l.map (·.2))) hxs
      simpa [List.map_map, Function.comp_def] using this
    rw [hcur] at h3 h4
    generalize hcc : touchL ((stepsOf l 0).map (·.2)) = cur at h3 h4
    have HCC := Lib.hid hcc
    have hzD : w.heap.size + 1 < D := by omega
    clear hseq hI0 hxs hS hcur hz1 hcc
    gi_wp2_with fail
    -- REGION
    refine wpIn_region_closed mixed (fun _ => trivial) (by kernel_rfl)
      (fun L aa Wx => ∃ vr vw : Value, aa = { tmps := #[(.slice a l.length cap), undef, bif L 4 then vr else (.slice none 0 0), bif L 5 then vw else (.slice none 0 0), (.pointer (some ⟨w.heap.size + 1 + 1, 0, none⟩)), (.pointer (some ⟨w.heap.size + 1 + 1 + 1, 0, none⟩)), undef, undef, (.map (some w.heap.size)), (.map (some (w.heap.size + 1))), (.slice a l.length cap), (.func (.func 66) #[] #[.pointer (some ⟨w1.heap.size, 0, none⟩)]), undef, undef, undef, undef, undef, undef, undef, undef, undef, undef, undef, undef, undef, undef, undef, undef, bif L 0 then (.map (some w.heap.size)) else undef, bif L 1 then vr else undef, bif L 2 then (.map (some (w.heap.size + 1))) else undef, bif L 3 then vw else undef], defers := [{ target := .collected D, args := #[] }] } ∧ (TD w cur D (L 1) (L 3) vr vw Wx)) ?_ ?_ ?_
    · exact ⟨undef, undef, rfl, ⟨h1, h2, fun _ => h3, fun _ => h4, (fun h => by cases h), (fun h => by cases h), hK, hB.drew⟩⟩
    · refine ⟨?_, ?_, ?_, ?_, ?_, ?_, trivial⟩
      · rintro L _ Wx ⟨vr, vw, rfl, hT⟩ hcl hk hd
        rw [if_pos (by simp [Region.wanted])]
        refine opIn_value (by intro c h; cases h) (by intro c h; cases h) (by intro c h; cases h) (v := (.map (some w.heap.size))) (w' := Wx) (by simp [execOp, Act.eval, go_sem, hT.b1.cell]) ⟨vr, vw, by simp [Act.put, upd], ?_⟩
        simpa [upd] using hT
      · rintro L _ Wx ⟨vr, vw, rfl, hT⟩ hcl hk hd
        have hL0 : L 0 = true := by have h := hd; simp [Region.binds] at h; simp [h]
        have hN : L 4 = false := by
          cases hh : L 4 with
          | false => rfl
          | true =>
            have h1 := hcl 4 _ rfl (by simp [hh])
            simp [Region.binds] at h1
            simp [hk] at h1
        rw [if_pos (by simp [Region.wanted])]
        refine opIn_call (by intro c h; cases h) (f := 67) (args := #[.map (some w.heap.size)]) (by simp [Act.eval, go_sem, hL0]) (callsIn_wide.2 (rising_any _ _ _ (hT.m1 hk))) ?_
        rintro e w' ⟨v', rfl, hv', hg'⟩
        exact ⟨v', rfl, v', vw, by simp [Act.put, upd, hN], by rw [hk] at hT; simpa [upd] using hT.call1 (by omega) hv' hg'⟩
      · rintro L _ Wx ⟨vr, vw, rfl, hT⟩ hcl hk hd
        rw [if_pos (by simp [Region.wanted])]
        refine opIn_value (by intro c h; cases h) (by intro c h; cases h) (by intro c h; cases h) (v := (.map (some (w.heap.size + 1)))) (w' := Wx) (by simp [execOp, Act.eval, go_sem, hT.b2.cell]) ⟨vr, vw, by simp [Act.put, upd], ?_⟩
        simpa [upd] using hT
      · rintro L _ Wx ⟨vr, vw, rfl, hT⟩ hcl hk hd
        have hL1 : L 1 = true := by have h := hd; simp [Region.binds] at h; simp [h]
        have hL2 : L 2 = true := by have h := hd; simp [Region.binds] at h; simp [h]
        have hN : L 5 = false := by
          cases hh : L 5 with
          | false => rfl
          | true =>
            have h3 := hcl 5 _ rfl (by simp [hh])
            simp [Region.binds] at h3
            simp [hk] at h3
        rw [if_pos (by simp [Region.wanted])]
        refine opIn_call (by intro c h; cases h) (f := 67) (args := #[.map (some (w.heap.size + 1))]) (by simp [Act.eval, go_sem, hL1, hL2]) (callsIn_wide.2 (rising_any _ _ _ (hT.m2 hk))) ?_
        rintro e w' ⟨v', rfl, hv', hg'⟩
        exact ⟨v', rfl, vr, v', by simp [Act.put, upd, hN], by rw [hk] at hT; simpa [upd] using hT.call2 (by omega) hv' hg'⟩
      · rintro L _ Wx ⟨vr, vw, rfl, hT⟩ hcl hk hd
        have hL1 : L 1 = true := by have h := hd; simp [Region.binds] at h; simp [h]
        rw [if_pos (by simp [Region.wanted])]
        refine opIn_value (by intro c h; cases h) (by intro c h; cases h) (by intro c h; cases h) (v := vr) (w' := Wx) (by simp [execOp, Act.eval, go_sem, hL1]) ⟨vr, vw, by simp [Act.put, upd], ?_⟩
        simpa [upd] using hT
      · rintro L _ Wx ⟨vr, vw, rfl, hT⟩ hcl hk hd
        have hL3 : L 3 = true := by have h := hd; simp [Region.binds] at h; simp [h]
        rw [if_pos (by simp [Region.wanted])]
        refine opIn_value (by intro c h; cases h) (by intro c h; cases h) (by intro c h; cases h) (v := vw) (w' := Wx) (by simp [execOp, Act.eval, go_sem, hL3]) ⟨vr, vw, by simp [Act.put, upd], ?_⟩
        simpa [upd] using hT
    · rintro L _ W' ⟨vr, vw, rfl, hT⟩ hall
      have hA0 : L 0 = true := hall 0 (by simp)
      have hA1 : L 1 = true := hall 1 (by simp)
      have hA2 : L 2 = true := hall 2 (by simp)
      have hA3 : L 3 = true := hall 3 (by simp)
      have hA4 : L 4 = true := hall 4 (by simp)
      have hA5 : L 5 = true := hall 5 (by simp)
      simp only [hA0, hA1, hA2, hA3, hA4, hA5, cond_true]
      have hr1 := hT.r1 hA1
      have hr2 := hT.r2 hA3
      have hdf := hT.df
      have hbl := hT.below
      clear hT hall
      gi_wp2_with fail
      refine ⟨by simp, .inl ⟨_, _, rfl, run_takeDeferred hdf, ?_⟩⟩
      have hg : W'.grownBy (W'.putObj D (.deferred none)) (some D) := grownBy_putObj _ _ _
      refine ⟨.tuple #[vr, vw], by simp [results, Try.results45, go_sem], vr, vw, rfl, ?_, ?_, hbl.grown hg hbl.size (fun k e => by cases e; omega)⟩
      · unfold readsL; rw [HCC.out]; exact owns_turn hr1 hg (not_deferred hdf hr1)
      · unfold writesL; rw [HCC.out]; exact owns_turn hr2 hg (not_deferred hdf hr2)
    -- END
  case stop =>
    rintro D c pre W _ _ h _
    exact h.elim

end Go.Proofs.Ytgdmgeihgkbjaaa
