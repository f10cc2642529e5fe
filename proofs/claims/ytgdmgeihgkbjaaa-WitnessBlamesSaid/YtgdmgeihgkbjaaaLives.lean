/- 'order.lives' -/
import Derived.Test.YtgdmgeihgkbjaaaLife
import Derived.Test.YtgdmgeihgkbjaaaState
import Derived.WideMake
namespace Go.Proofs.Ytgdmgeihgkbjaaa
open Go.RowKit Go.Shelf
attribute [local go_sem] run_makeMap_plain

theorem zero84 (w : World) : (zeroValue 84).run Try.prog w = .ok (.pointer none) w := by
  simp [go_sem]

/-- What lives hands back. -/
def LivesR (base : Nat) (l : List Sn) (e : Ending) (W : World) : Prop :=
  (livesP l = none ∧ e = .returned (.tuple #[.map none, .bool false])) ∨ ∃ M m, livesP l = some (projL m) ∧ e = .returned (.tuple #[.map (some M), .bool true]) ∧ LivesAt base M W m

theorem setCell_heap {W : World} {B j : Nat} {cs : Array Value} {t : TypeId} {fr : Nat × Nat} (h : W.heap[B]? = some (.cells cs t fr)) (v : Value) : (W.setCell ⟨B, j, none⟩ v).heap[B]? = some (.cells (cs.setIfInBounds j v) t fr) := by
  obtain ⟨hlt, hk⟩ := Array.getElem?_eq_some_iff.1 h
  show (W.heap.modify B _)[B]? = _
  rw [Array.getElem?_eq_getElem (by rw [Array.size_modify]; exact hlt), Array.getElem_modify_self, hk]
  rfl

theorem grownBy_setCellJ (W : World) (b j : Nat) (v : Value) : W.grownBy (W.setCell ⟨b, j, none⟩ v) (some b) :=
  ⟨rfl, rfl, rfl, (KeepsWalks.setCell W _ v).size, fun k _ hk => Below.heap_setCell _ _ _ k (fun e => hk (by rw [e]))⟩

theorem grown_cell {W W' : World} {b k j : Nat} (h : W.grownBy W' (some b)) (hk : k < W.heap.size) (hne : k ≠ b) : W'.cell? ⟨k, j, none⟩ = W.cell? ⟨k, j, none⟩ := by
  have e := h.block k hk (fun e => hne (by cases e; rfl))
  unfold World.cell?
  rw [e]

/-- 'once' on a place of a life: set for the first time. -/
theorem once_yes (B o : Nat) (cs : Array Value) (i : Int) (w : World) (hb : w.heap[B]? = some (.cells cs 86 (0, 0))) (hc : cs[o]? = some (.int .i64 0)) (hi : wrap64 (i + 1) = i + 1) :
    Calls Try.prog 68 #[.pointer (some ⟨B, o, none⟩), .int .i64 i] w fun e w' => e = .returned (.bool true) ∧ w.grownBy w' (some B) ∧ w'.heap[B]? = some (.cells (cs.setIfInBounds o (.int .i64 (i + 1))) 86 (0, 0)) :=
  (once_any B o 0 i w (by rw [cell_of_row w B _ _ 86 (0, 0) hb]; exact hc) (by simp [World.frozen?, hb])).mono fun e w' ⟨he, hw⟩ => ⟨he, by rw [hw]; exact grownBy_setCellJ _ _ _ _, by rw [hw, hi]; exact setCell_heap hb _⟩

/-- 'once', not for the first time. -/
theorem once_no (B o : Nat) (cs : Array Value) (v i : Int) (w : World) (hb : w.heap[B]? = some (.cells cs 86 (0, 0))) (hc : cs[o]? = some (.int .i64 v)) (hv : v ≠ 0) :
    Calls Try.prog 68 #[.pointer (some ⟨B, o, none⟩), .int .i64 i] w fun e w' => e = .returned (.bool false) ∧ w.grownBy w' (some B) :=
  (once_any B o v i w (by rw [cell_of_row w B _ _ 86 (0, 0) hb]; exact hc) (by simp [World.frozen?, hb])).mono fun e w' ⟨he, hw⟩ => ⟨by rw [he]; simp [hv], by rw [hw]; exact grownBy_setCellJ _ _ _ _⟩

set_option maxRecDepth 100000 in
set_option maxHeartbeats 2000000 in
theorem lives_any (l : List Sn) (v : Value) (w : World) (hl : l.length ≤ 100000) (hv : Sns w.heap.size w v l) :
    Calls Try.prog 51 #[v] w fun e w' => LivesR w.heap.size l e w' ∧ Below w.heap.size w w' := by
  obtain ⟨a, cap, rfl, hn, ha⟩ := hv
  have hM0 : LivesAt w.heap.size w.heap.size (w.alloc (.map #[] 0)) [] := ⟨MapIs.new w, by simp, by simp, by simp, Nat.le_refl _⟩
  have hb0 := below_alloc1 (w := w) (.map #[] 0)
  have HN := Lib.hid hn
  have HA := Lib.hid ha
  clear hn ha
  go_enter Try.func51, Try.ntmps51
  go_wp2_with fail
  go_loopw [2, 12] (fun mo i wr => ∃ (q M : Nat) (m : LM), q ≤ l.length ∧ mo = .map (some M) ∧ i = .int .i64 q ∧ livesP l = livesF q (l.drop q) (projL m) ∧ LivesAt w.heap.size M wr m ∧ Below w.heap.size w wr) (fun _ i _ => l.length - (intOf i).toNat)
  case atStart => exact ⟨0, w.heap.size, [], Nat.zero_le _, rfl, rfl, rfl, hM0, hb0⟩
  case round =>
    obtain ⟨q, M, m, hq, rfl, rfl, hF, hL, hB⟩ := hrel
    have HF := Lib.hid hF
    have HL := Lib.hid hL
    have HB := Lib.hid hB
    clear hF hL hB hM0 hb0
    by_cases hlt : q < l.length
    · obtain ⟨x, hx⟩ : ∃ x, l[q]? = some x := ⟨_, List.getElem?_eq_getElem hlt⟩
      obtain ⟨b, off, rfl, hb, hr⟩ := rows_some HN.out HA.out hlt
      obtain ⟨c0, c1, c2, c3, c4, c5, c6, c7, c8, c9, c10, c11, c12, c13⟩ := (hr.below hb HB.out).sn hx
      have hstep : livesP l = (livP q x (projL m)).bind (livesF (q + 1) (l.drop (q + 1))) := by rw [HF.out, drop_cons hx]; rfl
      have HS := Lib.hid hstep
      have HLT := Lib.hid hlt
      clear hr hx hstep hlt
      obtain ⟨W1, hW1⟩ : ∃ W1, wr.alloc (.cells (snArr x) 36) = W1 := ⟨_, rfl⟩
      have b1 : Below wr.heap.size wr W1 := hW1 ▸ below_alloc1 _
      have x1 : W1.heap[wr.heap.size]? = some (.cells (snArr x) 36 (0, 0)) := hW1 ▸ heap_alloc_new _ _
      have hW1' : wr.alloc (.cells #[.int .i8 x.k, .int .i64 x.n.s, .int .i64 x.n.i, .int .i64 x.n.t, .int .i64 x.b, .int .u8 x.v.a, .int .u8 x.v.b, .int .u8 x.v.c, .int .u8 x.v.d, .int .u8 x.v.e, .int .u8 x.v.f, .int .u8 x.v.g, .int .u8 x.v.h, .int .i64 x.e] 36) = W1 := hW1
      have HW1 := Lib.hid hW1'
      have B1 := Lib.hid b1
      have X1 := Lib.hid x1
      clear hW1 hW1' b1 x1
      go_wp2_with fail
      rw [HW1.out]
      refine (named_any x.n.s x.n.i x.n.t W1).mono ?_
      rintro e w2 ⟨rfl, b2⟩
      have bw : Below wr.heap.size wr w2 := B1.out.trans (b2.mono B1.out.size)
      have L2 : LivesAt w.heap.size M w2 m := HL.out.kept (fun k _ hk => bw.block k hk)
      have x2 := (b2.block _ (lt_of_heap X1.out)).trans X1.out
      have B2 := Lib.hid (HB.out.trans (bw.mono HB.out.size))
      have HL2 := Lib.hid L2
      obtain ⟨d0, d1, d2, d3, d4, d5, d6, d7, d8, d9, d10, d11, d12, d13⟩ := snArr_at x2
      have X2 := Lib.hid x2
      clear b2 bw L2 x2 HL HB HW1 B1 X1
      generalize hgd : Nm.good ⟨x.n.s, x.n.i, x.n.t⟩ = gd
      have hgd' : x.n.good = gd := hgd
      have HG := Lib.hid hgd'
      clear hgd hgd'
      cases gd
      · have hno : livesP l = none := by rw [HS.out, livP, HG.out]; rfl
        have HNO := Lib.hid hno
        clear hno
        go_wp2_with fail
        go_ret2
        exact ⟨.inl ⟨HNO.out, rfl⟩, B2.out⟩
      · have hlp := look_proj m x.n
        cases hlk : look m x.n with
        | none =>
          rw [hlk] at hlp
          have hz : (((look m x.n).map lfPtr).getD (.pointer none)) = .pointer none := by rw [hlk]; rfl
          have HLP := Lib.hid hlp
          have HLK := Lib.hid hlk
          clear hlp hlk
          by_cases hk : x.k = 0
          · have e1 : (x.k != 0) = false := by simp [hk]
            have HP : Hid (livP q x (projL m) = some (put (projL m) x.n ⟨(q : Int) + 1, 0, 0, 0⟩)) := by
              show _ = _
              unfold livP; rw [if_pos HG.out, HLP.out]; simp [hk]
            clear hk
            go_wp2_with (first | (refine wpList_look Try.underlying81 nmKey zero84 HL2.out.map rfl (.tmp 21) (.tmp 23) rfl rfl x.n rfl ?_; rw [hz]) | (refine wpList_put (venc := lfPtr) Try.underlying81 nmKey (HL2.out.map.kept (Below.heap_alloc _ _ _ HL2.out.map.lt)) rfl (.tmp 30) (.tmp 32) (.tmp 36) rfl rfl x.n rfl (w2.heap.size, ⟨(q : Int) + 1, 0, 0, 0⟩) rfl ?_; intro w3 hg3 hm3))
            go_roundw
            case rel => exact ⟨q + 1, M, put m x.n (w2.heap.size, ⟨(q : Int) + 1, 0, 0, 0⟩), by have := HLT.out; omega, rfl, by go_num, by rw [HS.out, HP.out, put_proj m x.n (w2.heap.size, ⟨(q : Int) + 1, 0, 0, 0⟩)]; rfl, HL2.out.born HLK.out B2.out.size hg3 hm3, (B2.out.alloc B2.out.size _).grown hg3 (by have := B2.out.size; simp; omega) (fun k e => by cases e; exact HL2.out.low)⟩
            case measure => have := HLT.out; simp [intOf]; omega
          · have e1 : (x.k != 0) = true := by simp [hk]
            have hno : livesP l = none := by rw [HS.out, livP, HG.out, HLP.out]; simp [hk]
            have HNO := Lib.hid hno
            clear hno hk
            go_wp2_with (first | (refine wpList_look Try.underlying81 nmKey zero84 HL2.out.map rfl (.tmp 21) (.tmp 23) rfl rfl x.n rfl ?_; rw [hz]))
            go_ret2
            exact ⟨.inl ⟨HNO.out, rfl⟩, B2.out⟩
        | some bf =>
          obtain ⟨bb, f⟩ := bf
          rw [hlk] at hlp
          have hz : (((look m x.n).map lfPtr).getD (.pointer none)) = .pointer (some ⟨bb, 0, none⟩) := by rw [hlk]; rfl
          obtain ⟨hbb, hfb⟩ := HL2.out.at_ _ (look_mem hlk)
          have f0 : w2.cell? ⟨bb, 0, none⟩ = some (.int .i64 f.b) := by rw [cell_of_row w2 bb _ _ 86 (0, 0) hfb]; rfl
          have f1 : w2.cell? ⟨bb, 1, none⟩ = some (.int .i64 f.c) := by rw [cell_of_row w2 bb _ _ 86 (0, 0) hfb]; rfl
          have f2 : w2.cell? ⟨bb, 2, none⟩ = some (.int .i64 f.a) := by rw [cell_of_row w2 bb _ _ 86 (0, 0) hfb]; rfl
          have f3 : w2.cell? ⟨bb, 3, none⟩ = some (.int .i64 f.d) := by rw [cell_of_row w2 bb _ _ 86 (0, 0) hfb]; rfl
          have hfz : ∀ j, w2.frozen? ⟨bb, j, none⟩ = false := fun j => by simp [World.frozen?, hfb]
          have HLP := Lib.hid hlp
          have HLK := Lib.hid hlk
          have HFB := Lib.hid hfb
          have HFZ := Lib.hid hfz
          clear hlp hlk hfb hfz
          have HBB := Lib.hid hbb
          have HNE : Hid (wr.heap.size ≠ bb) := by
            show _ ≠ _
            intro e
            have h1 := HFB.out
            rw [← e, X2.out] at h1
            have h2 := congrArg (fun o => match o with | some (Obj.cells c _ _) => c.size | _ => 0) h1
            simp [snArr, Lf.arr] at h2
          clear hbb
          by_cases hk12 : x.k = 1 ∨ x.k = 2
          · by_cases hc : f.c = 0 ∧ 0 ≤ x.b ∧ x.b < 32
            · have hP : livP q x (projL m) = some (projL m) := by unfold livP; rw [if_pos HG.out, HLP.out]; simp only [Option.map_some]; rw [if_pos hk12, if_pos hc]
              have HP := Lib.hid hP
              obtain ⟨hc1, hc2, hc3⟩ := hc
              have e0 : (f.c == 0) = true := by simp [hc1]
              clear hP hc1
              by_cases hk1 : x.k = 1
              · have e1 : (x.k == 1) = true := by simp [hk1]
                clear hk12 hk1
                go_wp2_with (refine wpList_look Try.underlying81 nmKey zero84 HL2.out.map rfl (.tmp 21) (.tmp 23) rfl rfl x.n rfl ?_; rw [hz])
                go_roundw
                case rel => exact ⟨q + 1, M, m, by have := HLT.out; omega, rfl, by go_num, by rw [HS.out, HP.out]; rfl, HL2.out, B2.out⟩
                case measure => have := HLT.out; simp [intOf]; omega
              · have e1 : (x.k == 1) = false := by simp [hk1]
                have e2 : (x.k == 2) = true := by simp; omega
                clear hk12 hk1
                go_wp2_with (refine wpList_look Try.underlying81 nmKey zero84 HL2.out.map rfl (.tmp 21) (.tmp 23) rfl rfl x.n rfl ?_; rw [hz])
                go_roundw
                case rel => exact ⟨q + 1, M, m, by have := HLT.out; omega, rfl, by go_num, by rw [HS.out, HP.out]; rfl, HL2.out, B2.out⟩
                case measure => have := HLT.out; simp [intOf]; omega
            · have hno : livesP l = none := by
                rw [HS.out]
                have : livP q x (projL m) = none := by unfold livP; rw [if_pos HG.out, HLP.out]; simp only [Option.map_some]; rw [if_pos hk12, if_neg hc]
                rw [this]; rfl
              have HNO := Lib.hid hno
              clear hno
              have h3 : f.c ≠ 0 ∨ (f.c = 0 ∧ x.b < 0) ∨ (f.c = 0 ∧ 0 ≤ x.b ∧ 32 ≤ x.b) := by omega
              have hk2 : (x.k == 1) = true ∨ ((x.k == 1) = false ∧ (x.k == 2) = true) := by simp; omega
              have HK2 := Lib.hid hk2
              clear hc hk12 hk2
              rcases h3 with h3 | ⟨h3, h4⟩ | ⟨h3, h4, h5⟩
              · have e0 : (f.c == 0) = false := by simp [h3]
                clear h3
                rcases HK2.out with e1 | ⟨e1, e2⟩
                all_goals
                  go_wp2_with (refine wpList_look Try.underlying81 nmKey zero84 HL2.out.map rfl (.tmp 21) (.tmp 23) rfl rfl x.n rfl ?_; rw [hz])
                  go_ret2
                  exact ⟨.inl ⟨HNO.out, rfl⟩, B2.out⟩
              · have e0 : (f.c == 0) = true := by simp [h3]
                clear h3
                rcases HK2.out with e1 | ⟨e1, e2⟩
                all_goals
                  go_wp2_with (refine wpList_look Try.underlying81 nmKey zero84 HL2.out.map rfl (.tmp 21) (.tmp 23) rfl rfl x.n rfl ?_; rw [hz])
                  go_ret2
                  exact ⟨.inl ⟨HNO.out, rfl⟩, B2.out⟩
              · have e0 : (f.c == 0) = true := by simp [h3]
                have e9 : decide (x.b < 32) = false := by simp; omega
                clear h3 h5
                rcases HK2.out with e1 | ⟨e1, e2⟩
                all_goals
                  go_wp2_with (refine wpList_look Try.underlying81 nmKey zero84 HL2.out.map rfl (.tmp 21) (.tmp 23) rfl rfl x.n rfl ?_; rw [hz])
                  go_ret2
                  exact ⟨.inl ⟨HNO.out, rfl⟩, B2.out⟩
          · have e1 : (x.k == 1) = false := by simp; omega
            have e2 : (x.k == 2) = false := by simp; omega
            have hwq : wrap64 ((q : Int) + 1) = (q : Int) + 1 := by have := HLT.out; unfold wrap64; omega
            have HWQ := Lib.hid hwq
            have hP0 : livP q x (projL m) = (if x.k = 3 then (if f.c = 0 then some (put (projL m) x.n { f with c := (q : Int) + 1 }) else none)
                else if x.k = 4 then (if f.a = 0 ∧ (x.e ≠ 0 ∨ 0 < f.c) then some (put (projL m) x.n { f with a := (q : Int) + 1 }) else none)
                else if x.k = 5 then (if f.d = 0 ∧ 0 < f.c then some (put (projL m) x.n { f with d := (q : Int) + 1 }) else none) else none) := by
              unfold livP; rw [if_pos HG.out, HLP.out]; simp only [Option.map_some]; rw [if_neg hk12]
            have HP0 := Lib.hid hP0
            clear hk12 hwq hP0
            by_cases hk3 : x.k = 3
            · have e3 : (x.k == 3) = true := by simp [hk3]
              have HK3 := Lib.hid hk3
              clear hk3
              by_cases hc : f.c = 0
              · have HP : Hid (livP q x (projL m) = some (put (projL m) x.n { f with c := (q : Int) + 1 })) := by show _ = _; rw [HP0.out, if_pos HK3.out, if_pos hc]
                have HC := Lib.hid hc
                clear hc
                go_wp2_with (refine wpList_look Try.underlying81 nmKey zero84 HL2.out.map rfl (.tmp 21) (.tmp 23) rfl rfl x.n rfl ?_; rw [hz])
                refine (once_yes bb 1 f.arr q w2 HFB.out (by rw [← HC.out]; rfl) HWQ.out).mono ?_
                rintro e w3 ⟨rfl, hg3, hb3⟩
                have hL3 := HL2.out.turn (f' := { f with c := (q : Int) + 1 }) HLK.out hg3 hb3
                have HB3 : Hid (Below w.heap.size w w3) := B2.out.grown hg3 B2.out.size (fun k e => by cases e; exact HBB.out)
                have HL3 := Lib.hid hL3
                clear hL3 hg3 hb3
                go_wp2_with fail
                go_roundw
                case rel => exact ⟨q + 1, M, put m x.n (bb, { f with c := (q : Int) + 1 }), by have := HLT.out; omega, rfl, by go_num, by rw [HS.out, HP.out, put_proj m x.n (bb, { f with c := (q : Int) + 1 })]; rfl, HL3.out, HB3.out⟩
                case measure => have := HLT.out; simp [intOf]; omega
              · have HNO : Hid (livesP l = none) := by show _ = _; rw [HS.out, HP0.out, if_pos HK3.out, if_neg hc]; rfl
                have HC := Lib.hid hc
                clear hc
                go_wp2_with (refine wpList_look Try.underlying81 nmKey zero84 HL2.out.map rfl (.tmp 21) (.tmp 23) rfl rfl x.n rfl ?_; rw [hz])
                refine (once_no bb 1 f.arr f.c q w2 HFB.out rfl HC.out).mono ?_
                rintro e w3 ⟨rfl, hg3⟩
                have HB3 : Hid (Below w.heap.size w w3) := B2.out.grown hg3 B2.out.size (fun k e => by cases e; exact HBB.out)
                clear hg3
                go_wp2_with fail
                go_ret2
                exact ⟨.inl ⟨HNO.out, rfl⟩, HB3.out⟩
            · have e3 : (x.k == 3) = false := by simp [hk3]
              have hP1 : livP q x (projL m) = (if x.k = 4 then (if f.a = 0 ∧ (x.e ≠ 0 ∨ 0 < f.c) then some (put (projL m) x.n { f with a := (q : Int) + 1 }) else none)
                else if x.k = 5 then (if f.d = 0 ∧ 0 < f.c then some (put (projL m) x.n { f with d := (q : Int) + 1 }) else none) else none) := by rw [HP0.out, if_neg hk3]
              have HP1 := Lib.hid hP1
              clear hk3 hP1 HP0
              by_cases hk4 : x.k = 4
              · have e4 : (x.k == 4) = true := by simp [hk4]
                have HK4 := Lib.hid hk4
                clear hk4
                by_cases hc : f.a = 0
                · have HC := Lib.hid hc
                  clear hc
                  have fin : x.e ≠ 0 ∨ 0 < f.c → Hid (livP q x (projL m) = some (put (projL m) x.n { f with a := (q : Int) + 1 })) := fun h => by show _ = _; rw [HP1.out, if_pos HK4.out, if_pos ⟨HC.out, h⟩]
                  have fin2 : ¬ (x.e ≠ 0 ∨ 0 < f.c) → Hid (livesP l = none) := fun h => by show _ = _; rw [HS.out, HP1.out, if_pos HK4.out, if_neg (fun h' => h h'.2)]; rfl
                  have FIN := Lib.hid fin
                  have FIN2 := Lib.hid fin2
                  clear fin fin2
                  have h3 : x.e ≠ 0 ∨ (x.e = 0 ∧ 0 < f.c) ∨ (x.e = 0 ∧ f.c ≤ 0) := by omega
                  rcases h3 with h3 | ⟨h3, h4⟩ | ⟨h3, h4⟩
                  · have HP := FIN.out (.inl h3)
                    have e5 : (x.e != 0) = true := by simp [h3]
                    clear h3
                    go_wp2_with (refine wpList_look Try.underlying81 nmKey zero84 HL2.out.map rfl (.tmp 21) (.tmp 23) rfl rfl x.n rfl ?_; rw [hz])
                    refine (once_yes bb 2 f.arr q w2 HFB.out (by rw [← HC.out]; rfl) HWQ.out).mono ?_
                    rintro e w3 ⟨rfl, hg3, hb3⟩
                    have hL3 := HL2.out.turn (f' := { f with a := (q : Int) + 1 }) HLK.out hg3 hb3
                    have HB3 : Hid (Below w.heap.size w w3) := B2.out.grown hg3 B2.out.size (fun k e => by cases e; exact HBB.out)
                    have HL3 := Lib.hid hL3
                    have d13' : w3.cell? ⟨wr.heap.size, 13, none⟩ = some (.int .i64 x.e) := (grown_cell hg3 (lt_of_heap X2.out) (HNE.out)).trans d13
                    clear hL3 hg3 hb3
                    go_wp2_with fail
                    go_roundw
                    case rel => exact ⟨q + 1, M, put m x.n (bb, { f with a := (q : Int) + 1 }), by have := HLT.out; omega, rfl, by go_num, by rw [HS.out, HP.out, put_proj m x.n (bb, { f with a := (q : Int) + 1 })]; rfl, HL3.out, HB3.out⟩
                    case measure => have := HLT.out; simp [intOf]; omega
                  · have HP := FIN.out (.inr h4)
                    have e5 : (x.e != 0) = false := by simp [h3]
                    have e6 : decide (f.c > 0) = true := by simpa using h4
                    clear h3
                    go_wp2_with (refine wpList_look Try.underlying81 nmKey zero84 HL2.out.map rfl (.tmp 21) (.tmp 23) rfl rfl x.n rfl ?_; rw [hz])
                    refine (once_yes bb 2 f.arr q w2 HFB.out (by rw [← HC.out]; rfl) HWQ.out).mono ?_
                    rintro e w3 ⟨rfl, hg3, hb3⟩
                    have hL3 := HL2.out.turn (f' := { f with a := (q : Int) + 1 }) HLK.out hg3 hb3
                    have HB3 : Hid (Below w.heap.size w w3) := B2.out.grown hg3 B2.out.size (fun k e => by cases e; exact HBB.out)
                    have HL3 := Lib.hid hL3
                    have d13' : w3.cell? ⟨wr.heap.size, 13, none⟩ = some (.int .i64 x.e) := (grown_cell hg3 (lt_of_heap X2.out) (HNE.out)).trans d13
                    have f1' : w3.cell? ⟨bb, 1, none⟩ = some (.int .i64 f.c) := by rw [cell_of_row w3 bb _ _ 86 (0, 0) hb3]; rfl
                    clear hL3 hg3 hb3
                    go_wp2_with fail
                    go_roundw
                    case rel => exact ⟨q + 1, M, put m x.n (bb, { f with a := (q : Int) + 1 }), by have := HLT.out; omega, rfl, by go_num, by rw [HS.out, HP.out, put_proj m x.n (bb, { f with a := (q : Int) + 1 })]; rfl, HL3.out, HB3.out⟩
                    case measure => have := HLT.out; simp [intOf]; omega
                  · have HNO := FIN2.out (by omega)
                    have e5 : (x.e != 0) = false := by simp [h3]
                    have e6 : decide (f.c > 0) = false := by simpa using h4
                    clear h3
                    go_wp2_with (refine wpList_look Try.underlying81 nmKey zero84 HL2.out.map rfl (.tmp 21) (.tmp 23) rfl rfl x.n rfl ?_; rw [hz])
                    refine (once_yes bb 2 f.arr q w2 HFB.out (by rw [← HC.out]; rfl) HWQ.out).mono ?_
                    rintro e w3 ⟨rfl, hg3, hb3⟩
                    have HB3 : Hid (Below w.heap.size w w3) := B2.out.grown hg3 B2.out.size (fun k e => by cases e; exact HBB.out)
                    have d13' : w3.cell? ⟨wr.heap.size, 13, none⟩ = some (.int .i64 x.e) := (grown_cell hg3 (lt_of_heap X2.out) (HNE.out)).trans d13
                    have f1' : w3.cell? ⟨bb, 1, none⟩ = some (.int .i64 f.c) := by rw [cell_of_row w3 bb _ _ 86 (0, 0) hb3]; rfl
                    clear hg3 hb3
                    go_wp2_with fail
                    go_ret2
                    exact ⟨.inl ⟨HNO.out, rfl⟩, HB3.out⟩
                · have HNO : Hid (livesP l = none) := by show _ = _; rw [HS.out, HP1.out, if_pos HK4.out, if_neg (fun h => hc h.1)]; rfl
                  have HC := Lib.hid hc
                  clear hc
                  go_wp2_with (refine wpList_look Try.underlying81 nmKey zero84 HL2.out.map rfl (.tmp 21) (.tmp 23) rfl rfl x.n rfl ?_; rw [hz])
                  refine (once_no bb 2 f.arr f.a q w2 HFB.out rfl HC.out).mono ?_
                  rintro e w3 ⟨rfl, hg3⟩
                  have HB3 : Hid (Below w.heap.size w w3) := B2.out.grown hg3 B2.out.size (fun k e => by cases e; exact HBB.out)
                  clear hg3
                  go_wp2_with fail
                  go_ret2
                  exact ⟨.inl ⟨HNO.out, rfl⟩, HB3.out⟩
              · have e4 : (x.k == 4) = false := by simp [hk4]
                have hP2 : livP q x (projL m) = (if x.k = 5 then (if f.d = 0 ∧ 0 < f.c then some (put (projL m) x.n { f with d := (q : Int) + 1 }) else none) else none) := by rw [HP1.out, if_neg hk4]
                have HP2 := Lib.hid hP2
                clear hk4 hP2 HP1
                by_cases hk5 : x.k = 5
                · have e5 : (x.k == 5) = true := by simp [hk5]
                  have HK5 := Lib.hid hk5
                  clear hk5
                  by_cases hc : f.d = 0
                  · have HC := Lib.hid hc
                    clear hc
                    by_cases h4 : 0 < f.c
                    · have HP : Hid (livP q x (projL m) = some (put (projL m) x.n { f with d := (q : Int) + 1 })) := by show _ = _; rw [HP2.out, if_pos HK5.out, if_pos ⟨HC.out, h4⟩]
                      have e6 : decide (f.c > 0) = true := by simpa using h4
                      go_wp2_with (refine wpList_look Try.underlying81 nmKey zero84 HL2.out.map rfl (.tmp 21) (.tmp 23) rfl rfl x.n rfl ?_; rw [hz])
                      refine (once_yes bb 3 f.arr q w2 HFB.out (by rw [← HC.out]; rfl) HWQ.out).mono ?_
                      rintro e w3 ⟨rfl, hg3, hb3⟩
                      have hL3 := HL2.out.turn (f' := { f with d := (q : Int) + 1 }) HLK.out hg3 hb3
                      have HB3 : Hid (Below w.heap.size w w3) := B2.out.grown hg3 B2.out.size (fun k e => by cases e; exact HBB.out)
                      have HL3 := Lib.hid hL3
                      have f1' : w3.cell? ⟨bb, 1, none⟩ = some (.int .i64 f.c) := by rw [cell_of_row w3 bb _ _ 86 (0, 0) hb3]; rfl
                      clear hL3 hg3 hb3
                      go_wp2_with fail
                      go_roundw
                      case rel => exact ⟨q + 1, M, put m x.n (bb, { f with d := (q : Int) + 1 }), by have := HLT.out; omega, rfl, by go_num, by rw [HS.out, HP.out, put_proj m x.n (bb, { f with d := (q : Int) + 1 })]; rfl, HL3.out, HB3.out⟩
                      case measure => have := HLT.out; simp [intOf]; omega
                    · have HNO : Hid (livesP l = none) := by show _ = _; rw [HS.out, HP2.out, if_pos HK5.out, if_neg (fun h => h4 h.2)]; rfl
                      have e6 : decide (f.c > 0) = false := by simpa using h4
                      have h4' : f.c ≤ 0 := by omega
                      clear h4
                      go_wp2_with (refine wpList_look Try.underlying81 nmKey zero84 HL2.out.map rfl (.tmp 21) (.tmp 23) rfl rfl x.n rfl ?_; rw [hz])
                      refine (once_yes bb 3 f.arr q w2 HFB.out (by rw [← HC.out]; rfl) HWQ.out).mono ?_
                      rintro e w3 ⟨rfl, hg3, hb3⟩
                      have HB3 : Hid (Below w.heap.size w w3) := B2.out.grown hg3 B2.out.size (fun k e => by cases e; exact HBB.out)
                      have f1' : w3.cell? ⟨bb, 1, none⟩ = some (.int .i64 f.c) := by rw [cell_of_row w3 bb _ _ 86 (0, 0) hb3]; rfl
                      clear hg3 hb3
                      go_wp2_with fail
                      go_ret2
                      exact ⟨.inl ⟨HNO.out, rfl⟩, HB3.out⟩
                  · have HNO : Hid (livesP l = none) := by show _ = _; rw [HS.out, HP2.out, if_pos HK5.out, if_neg (fun h => hc h.1)]; rfl
                    have HC := Lib.hid hc
                    clear hc
                    go_wp2_with (refine wpList_look Try.underlying81 nmKey zero84 HL2.out.map rfl (.tmp 21) (.tmp 23) rfl rfl x.n rfl ?_; rw [hz])
                    refine (once_no bb 3 f.arr f.d q w2 HFB.out rfl HC.out).mono ?_
                    rintro e w3 ⟨rfl, hg3⟩
                    have HB3 : Hid (Below w.heap.size w w3) := B2.out.grown hg3 B2.out.size (fun k e => by cases e; exact HBB.out)
                    clear hg3
                    go_wp2_with fail
                    go_ret2
                    exact ⟨.inl ⟨HNO.out, rfl⟩, HB3.out⟩
                · have e5 : (x.k == 5) = false := by simp [hk5]
                  have HNO : Hid (livesP l = none) := by show _ = _; rw [HS.out, HP2.out, if_neg hk5]; rfl
                  clear hk5
                  go_wp2_with (refine wpList_look Try.underlying81 nmKey zero84 HL2.out.map rfl (.tmp 21) (.tmp 23) rfl rfl x.n rfl ?_; rw [hz])
                  go_ret2
                  exact ⟨.inl ⟨HNO.out, rfl⟩, B2.out⟩
    · go_wp2_with fail
      go_ret2
      exact ⟨.inr ⟨M, m, by rw [HF.out, drop_end hlt]; rfl, rfl, HL.out⟩, HB.out⟩

end Go.Proofs.Ytgdmgeihgkbjaaa
