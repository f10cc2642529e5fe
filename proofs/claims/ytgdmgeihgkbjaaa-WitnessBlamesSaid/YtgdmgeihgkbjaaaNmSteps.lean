/- 'order.steps': the iterator over a name's reads and writes -/
import Derived.Test.YtgdmgeihgkbjaaaDraw3
import Derived.Test.YtgdmgeihgkbjaaaFloat
namespace Go.Proofs.Ytgdmgeihgkbjaaa
open Go.RowKit Go.Shelf
attribute [local go_sem] Oper.semAt_some

/-- A name's reads and writes, each with its place. -/
def nmSteps (n : Nm) : List Sn → Nat → List (Nat × Sn)
  | [], _ => []
  | x :: r, i => if x.n = n ∧ (x.k = 1 ∨ x.k = 2) then (i, x) :: nmSteps n r (i + 1) else nmSteps n r (i + 1)

def encPX (b off : Nat) (p : Nat × Sn) : Array Value := #[cxV p.2.b (p.1 : Int), .pointer (some ⟨b, off + p.1 * 14, none⟩)]

/-- 'order.steps': both arguments are boxed; the function value captures the boxes. -/
theorem steps56_any (v : Value) (n : Nm) (w : World) (hv : ∃ a m c, v = .slice a m c) :
    Calls Try.prog 56 #[v, .agg #[.int .i64 n.s, .int .i64 n.i, .int .i64 n.t]] w fun e w' => e = .returned (.func (.func 73) #[] #[.pointer (some ⟨w.heap.size, 0, none⟩), .pointer (some ⟨w.heap.size + 1, 0, none⟩)]) ∧
      (w.alloc (.cells #[v] 25)).alloc (.cells #[.int .i64 n.s, .int .i64 n.i, .int .i64 n.t] 34) = w' := by
  obtain ⟨a, m, c, rfl⟩ := hv
  go_enter Try.func56, Try.ntmps56
  go_wp2
  go_ret
  exact ⟨rfl, rfl⟩

theorem rowOf_none {W : World} {k : Nat} : ¬ rowOf none W k := by rintro ⟨b, _, _, _, _, h, _⟩; cases h

theorem keep_drew {n₀ n₁ : Nat} {W : World} : Keep n₀ n₁ none W W.drew := ⟨rfl, rfl, rfl, Nat.le_refl _, fun _ _ _ h _ => h, fun _ h => absurd h rowOf_none⟩

set_option maxRecDepth 100000 in
set_option maxHeartbeats 6000000 in
theorem steps73_in (n : Nat) (Bl Bn n₀ n₁ b off : Nat) (a : Option Addr) (cap : Nat) (l : List Sn) (nm : Nm) (hl : l.length ≤ 100000) (w : World)
    (ha : 0 < l.length → a = some ⟨b, off, none⟩ ∧ b < n₀ ∧ RowsAt Sn.cells 14 w b off l) (hn₀ : n₀ ≤ w.heap.size) (h1l : n₁ ≤ Bl) (h1n : n₁ ≤ Bn)
    (hBl : w.cell? ⟨Bl, 0, none⟩ = some (.slice a l.length cap)) (hBn : w.heap[Bn]? = some (.cells #[.int .i64 nm.s, .int .i64 nm.i, .int .i64 nm.t] 34 (0, 0))) :
    SeqC (n + 2) 73 #[.pointer (some ⟨Bl, 0, none⟩), .pointer (some ⟨Bn, 0, none⟩)] (encPX b off) (Keep n₀ n₁ none) (nmSteps nm l 0) w := by
  intro lp J Jx W hW hJ hJx hY h0
  have hBlW : W.cell? ⟨Bl, 0, none⟩ = some (.slice a l.length cap) := (hW.cell (p := ⟨Bl, 0, none⟩) (block_lt_of_cell hBl)).trans hBl
  have hBnW : W.heap[Bn]? = some (.cells #[.int .i64 nm.s, .int .i64 nm.i, .int .i64 nm.t] 34 (0, 0)) := (hW.block _ (lt_of_heap hBn)).trans hBn
  have haW : 0 < l.length → a = some ⟨b, off, none⟩ ∧ b < n₀ ∧ RowsAt Sn.cells 14 W b off l := fun h => ⟨(ha h).1, (ha h).2.1, (ha h).2.2.below (Nat.lt_of_lt_of_le (ha h).2.1 hn₀) hW⟩
  have HA := Lib.hid haW
  have HY := Lib.hid hY
  have HJ := Lib.hid hJ
  have HBL := Lib.hid hBlW
  have HBN := Lib.hid hBnW
  clear ha haW hY hJ hJx hBl hBn hBnW
  refine callsIn_of_wp Try.func73 rfl trivial ?_ rfl
  simp only [Try.ntmps73, List.size_toArray, List.length_cons, List.length_nil, Nat.reduceAdd, Nat.reduceSub, Array.replicate_succ, Array.replicate_zero, List.push_toArray, List.append_toArray, List.nil_append, List.cons_append]
  gi_wp2
  gi_loopw [8] (fun i wr => ∃ (q : Nat) (pre : List { p // p ∈ nmSteps nm l 0 }), q ≤ l.length ∧ i = .int .i64 q ∧ J pre wr ∧ Keep n₀ n₁ none W wr ∧ pre.map (·.1) ++ nmSteps nm (l.drop q) q = nmSteps nm l 0)
    (fun i _ => l.length - (intOf i).toNat)
  case atStart => exact ⟨0, [], Nat.zero_le _, rfl, h0, Keep.refl _ _ _ _, rfl⟩
  case round =>
    obtain ⟨q, pre, hq, rfl, hJs, hK, hpre⟩ := hrel
    have HP := Lib.hid hpre
    have HKD : Hid (Keep n₀ n₁ none W wr.drew) := hK.trans keep_drew
    have hl1 : wr.cell? ⟨Bl, 0, none⟩ = some (.slice a l.length cap) := hK.cell (a := ⟨Bl, 0, none⟩) (.inr ⟨h1l, rowOf_none⟩) HBL.out
    have HL1 := Lib.hid hl1
    clear hpre hBlW
    by_cases hlt : q < l.length
    · obtain ⟨x, hx⟩ : ∃ x, l[q]? = some x := ⟨_, List.getElem?_eq_getElem hlt⟩
      obtain ⟨rfl, hb, hr⟩ := HA.out (by omega)
      obtain ⟨w0, hw0⟩ : ∃ w0, wr.drew = w0 := ⟨_, rfl⟩
      have hK0 : Keep n₀ n₁ none W w0 := hw0 ▸ HKD.out
      obtain ⟨c0, c1, c2, c3, c4, _⟩ := (hr.keep hK0 hb).sn hx
      have hbn : w0.heap[Bn]? = some (.cells #[.int .i64 nm.s, .int .i64 nm.i, .int .i64 nm.t] 34 (0, 0)) := hK0.same _ _ (.inr ⟨h1n, rowOf_none⟩) HBN.out (.inl rfl)
      have m0 : w0.cell? ⟨Bn, 0, none⟩ = some (.int .i64 nm.s) := by rw [cell_of_row w0 _ _ _ 34 (0, 0) hbn]; rfl
      have m1 : w0.cell? ⟨Bn, 1, none⟩ = some (.int .i64 nm.i) := by rw [cell_of_row w0 _ _ _ 34 (0, 0) hbn]; rfl
      have m2 : w0.cell? ⟨Bn, 2, none⟩ = some (.int .i64 nm.t) := by rw [cell_of_row w0 _ _ _ 34 (0, 0) hbn]; rfl
      have hJd : J pre w0 := hw0 ▸ abides_drewN HJ.out 1 hJs
      rw [hw0] at HKD
      have HX := Lib.hid hx
      have HJD := Lib.hid hJd
      have HW0 := Lib.hid hw0
      clear hr hx hJs hK hbn hJd hw0 hK0 hl1
      have hl1 := HL1.out
      gi_wp2_with fail
      clear hl1
      have hen := eql_nm x.n nm
      by_cases hit : x.n = nm
      · have hEq : ∀ w, (binOp .eql 34 (.agg #[.int .i64 x.n.s, .int .i64 x.n.i, .int .i64 x.n.t]) (.agg #[.int .i64 nm.s, .int .i64 nm.i, .int .i64 nm.t])).run Try.prog w = .ok (.bool true) w := fun w => by rw [hen, decide_eq_true hit]
        clear hen
        by_cases hk12 : x.k = 1 ∨ x.k = 2
        · have hcons : nmSteps nm (l.drop q) q = (q, x) :: nmSteps nm (l.drop (q + 1)) (q + 1) := by rw [drop_cons HX.out, nmSteps, if_pos ⟨hit, hk12⟩]
          have he := HP.out
          rw [hcons] at he
          have hmem : (q, x) ∈ nmSteps nm l 0 := by
            have : (q, x) ∈ pre.map (·.1) ++ (q, x) :: nmSteps nm (l.drop (q + 1)) (q + 1) := by simp
            exact he ▸ this
          have hlen : pre.length < (nmSteps nm l 0).length := by
            have := congrArg List.length he
            simp at this
            omega
          have hnext : (pre ++ [(⟨(q, x), hmem⟩ : { p // p ∈ nmSteps nm l 0 })]).map (·.1) ++ nmSteps nm (l.drop (q + 1)) (q + 1) = nmSteps nm l 0 := by simpa using he
          clear he
          obtain ⟨fn, tmps, assign, body, hy, hR⟩ := HY.out pre ⟨(q, x), hmem⟩ w0 HJD.out hlen
          simp only [encPX] at hy
          have HNX := Lib.hid hnext
          clear hnext hcons hlen
          by_cases hk1 : x.k = 1
          · have e1 : (x.k == 1) = true := by simp [hk1]
            clear hk12 hk1 hit
            -- BEGIN NA
            refine wpIn_region_frameE (E := Bool) mixed (fun _ => trivial) (by kernel_rfl) (fun e => [(0, 14, .pointer (some ⟨b, off + q * 14, none⟩)), (1, 15, .pointer (some ⟨b, off + q * 14, none⟩)), (2, 16, .pointer (some ⟨b, off + q * 14 + 1, none⟩)), (3, 17, .agg #[.int .i64 x.n.s, .int .i64 x.n.i, .int .i64 x.n.t]), (4, 18, .agg #[.int .i64 nm.s, .int .i64 nm.i, .int .i64 nm.t]), (5, 19, .bool true), (6, 20, .bool true), (7, 21, .pointer (some ⟨b, off + q * 14, none⟩)), (8, 22, .pointer (some ⟨b, off + q * 14, none⟩)), (9, 23, .pointer (some ⟨b, off + q * 14, none⟩)), (10, 24, .int .i8 x.k), (11, 25, .bool true), (12, 26, .bool true), (13, 27, undef), (14, 28, undef), (15, 29, undef), (16, 30, undef), (17, 31, undef), (18, 32, .bool true), (19, 33, .bool true), (20, 34, .bool true), (21, 35, .func (.yield lp) #[] #[]), (22, 36, .pointer (some ⟨b, off + q * 14, none⟩)), (23, 37, .pointer (some ⟨b, off + q * 14, none⟩)), (24, 38, .pointer (some ⟨b, off + q * 14 + 4, none⟩)), (25, 39, .int .i64 x.b), (26, 40, flV x.b), (27, 41, .int .i64 (q : Int)), (28, 42, flV (q : Int)), (29, 43, cxV x.b (q : Int)), (30, 44, .pointer (some ⟨b, off + q * 14, none⟩)), (31, 45, .bool e), (32, 46, .bool !e), (33, 47, .bool !e)]) (fun e L Wx => YT w0 (fun e W3 => (e = true ∧ J (pre ++ [⟨(q, x), hmem⟩]) W3 ∧ Keep n₀ n₁ none w0 W3) ∨ (e = false ∧ Jx (pre ++ [⟨(q, x), hmem⟩]) W3)) (L 31) e Wx) true ?_ ?_ (fun _ => by rfl) (fun _ => by rfl) ?_
            · exact HW0.out ▸ YT.start
            · intro a0 ps ha0 hps
              have hsz : a0.tmps.size = 49 := by rw [ha0]; rfl
              have u0 : a0.tmps[0]? = some (.func (.yield lp) #[] #[]) := by rw [ha0]; rfl
              have u2 : a0.tmps[2]? = some (.pointer (some ⟨Bn, 0, none⟩)) := by rw [ha0]; rfl
              have u4 : a0.tmps[4]? = some (.int .i64 (q : Int)) := by rw [ha0]; rfl
              have u5 : a0.tmps[5]? = some (.pointer (some ⟨b, off + q * 14, none⟩)) := by rw [ha0]; rfl
              have n0 : ∀ e, slotOf (ps e) 0 = none := by rw [hps]; intro e; rfl
              have n2 : ∀ e, slotOf (ps e) 2 = none := by rw [hps]; intro e; rfl
              have n4 : ∀ e, slotOf (ps e) 4 = none := by rw [hps]; intro e; rfl
              have n5 : ∀ e, slotOf (ps e) 5 = none := by rw [hps]; intro e; rfl
              have k14 : ∀ e, slotOf (ps e) 14 = some (0, .pointer (some ⟨b, off + q * 14, none⟩)) := by rw [hps]; intro e; rfl
              have q14 : ∀ e, keysOK (ps e) 0 14 = true := by rw [hps]; intro e; rfl
              have k15 : ∀ e, slotOf (ps e) 15 = some (1, .pointer (some ⟨b, off + q * 14, none⟩)) := by rw [hps]; intro e; rfl
              have q15 : ∀ e, keysOK (ps e) 1 15 = true := by rw [hps]; intro e; rfl
              have k16 : ∀ e, slotOf (ps e) 16 = some (2, .pointer (some ⟨b, off + q * 14 + 1, none⟩)) := by rw [hps]; intro e; rfl
              have q16 : ∀ e, keysOK (ps e) 2 16 = true := by rw [hps]; intro e; rfl
              have k17 : ∀ e, slotOf (ps e) 17 = some (3, .agg #[.int .i64 x.n.s, .int .i64 x.n.i, .int .i64 x.n.t]) := by rw [hps]; intro e; rfl
              have q17 : ∀ e, keysOK (ps e) 3 17 = true := by rw [hps]; intro e; rfl
              have k18 : ∀ e, slotOf (ps e) 18 = some (4, .agg #[.int .i64 nm.s, .int .i64 nm.i, .int .i64 nm.t]) := by rw [hps]; intro e; rfl
              have q18 : ∀ e, keysOK (ps e) 4 18 = true := by rw [hps]; intro e; rfl
              have k19 : ∀ e, slotOf (ps e) 19 = some (5, .bool true) := by rw [hps]; intro e; rfl
              have q19 : ∀ e, keysOK (ps e) 5 19 = true := by rw [hps]; intro e; rfl
              have k20 : ∀ e, slotOf (ps e) 20 = some (6, .bool true) := by rw [hps]; intro e; rfl
              have q20 : ∀ e, keysOK (ps e) 6 20 = true := by rw [hps]; intro e; rfl
              have k21 : ∀ e, slotOf (ps e) 21 = some (7, .pointer (some ⟨b, off + q * 14, none⟩)) := by rw [hps]; intro e; rfl
              have q21 : ∀ e, keysOK (ps e) 7 21 = true := by rw [hps]; intro e; rfl
              have k22 : ∀ e, slotOf (ps e) 22 = some (8, .pointer (some ⟨b, off + q * 14, none⟩)) := by rw [hps]; intro e; rfl
              have q22 : ∀ e, keysOK (ps e) 8 22 = true := by rw [hps]; intro e; rfl
              have k23 : ∀ e, slotOf (ps e) 23 = some (9, .pointer (some ⟨b, off + q * 14, none⟩)) := by rw [hps]; intro e; rfl
              have q23 : ∀ e, keysOK (ps e) 9 23 = true := by rw [hps]; intro e; rfl
              have k24 : ∀ e, slotOf (ps e) 24 = some (10, .int .i8 x.k) := by rw [hps]; intro e; rfl
              have q24 : ∀ e, keysOK (ps e) 10 24 = true := by rw [hps]; intro e; rfl
              have k25 : ∀ e, slotOf (ps e) 25 = some (11, .bool true) := by rw [hps]; intro e; rfl
              have q25 : ∀ e, keysOK (ps e) 11 25 = true := by rw [hps]; intro e; rfl
              have k26 : ∀ e, slotOf (ps e) 26 = some (12, .bool true) := by rw [hps]; intro e; rfl
              have q26 : ∀ e, keysOK (ps e) 12 26 = true := by rw [hps]; intro e; rfl
              have k27 : ∀ e, slotOf (ps e) 27 = some (13, undef) := by rw [hps]; intro e; rfl
              have q27 : ∀ e, keysOK (ps e) 13 27 = true := by rw [hps]; intro e; rfl
              have k28 : ∀ e, slotOf (ps e) 28 = some (14, undef) := by rw [hps]; intro e; rfl
              have q28 : ∀ e, keysOK (ps e) 14 28 = true := by rw [hps]; intro e; rfl
              have k29 : ∀ e, slotOf (ps e) 29 = some (15, undef) := by rw [hps]; intro e; rfl
              have q29 : ∀ e, keysOK (ps e) 15 29 = true := by rw [hps]; intro e; rfl
              have k30 : ∀ e, slotOf (ps e) 30 = some (16, undef) := by rw [hps]; intro e; rfl
              have q30 : ∀ e, keysOK (ps e) 16 30 = true := by rw [hps]; intro e; rfl
              have k31 : ∀ e, slotOf (ps e) 31 = some (17, undef) := by rw [hps]; intro e; rfl
              have q31 : ∀ e, keysOK (ps e) 17 31 = true := by rw [hps]; intro e; rfl
              have k32 : ∀ e, slotOf (ps e) 32 = some (18, .bool true) := by rw [hps]; intro e; rfl
              have q32 : ∀ e, keysOK (ps e) 18 32 = true := by rw [hps]; intro e; rfl
              have k33 : ∀ e, slotOf (ps e) 33 = some (19, .bool true) := by rw [hps]; intro e; rfl
              have q33 : ∀ e, keysOK (ps e) 19 33 = true := by rw [hps]; intro e; rfl
              have k34 : ∀ e, slotOf (ps e) 34 = some (20, .bool true) := by rw [hps]; intro e; rfl
              have q34 : ∀ e, keysOK (ps e) 20 34 = true := by rw [hps]; intro e; rfl
              have k35 : ∀ e, slotOf (ps e) 35 = some (21, .func (.yield lp) #[] #[]) := by rw [hps]; intro e; rfl
              have q35 : ∀ e, keysOK (ps e) 21 35 = true := by rw [hps]; intro e; rfl
              have k36 : ∀ e, slotOf (ps e) 36 = some (22, .pointer (some ⟨b, off + q * 14, none⟩)) := by rw [hps]; intro e; rfl
              have q36 : ∀ e, keysOK (ps e) 22 36 = true := by rw [hps]; intro e; rfl
              have k37 : ∀ e, slotOf (ps e) 37 = some (23, .pointer (some ⟨b, off + q * 14, none⟩)) := by rw [hps]; intro e; rfl
              have q37 : ∀ e, keysOK (ps e) 23 37 = true := by rw [hps]; intro e; rfl
              have k38 : ∀ e, slotOf (ps e) 38 = some (24, .pointer (some ⟨b, off + q * 14 + 4, none⟩)) := by rw [hps]; intro e; rfl
              have q38 : ∀ e, keysOK (ps e) 24 38 = true := by rw [hps]; intro e; rfl
              have k39 : ∀ e, slotOf (ps e) 39 = some (25, .int .i64 x.b) := by rw [hps]; intro e; rfl
              have q39 : ∀ e, keysOK (ps e) 25 39 = true := by rw [hps]; intro e; rfl
              have k40 : ∀ e, slotOf (ps e) 40 = some (26, flV x.b) := by rw [hps]; intro e; rfl
              have q40 : ∀ e, keysOK (ps e) 26 40 = true := by rw [hps]; intro e; rfl
              have k41 : ∀ e, slotOf (ps e) 41 = some (27, .int .i64 (q : Int)) := by rw [hps]; intro e; rfl
              have q41 : ∀ e, keysOK (ps e) 27 41 = true := by rw [hps]; intro e; rfl
              have k42 : ∀ e, slotOf (ps e) 42 = some (28, flV (q : Int)) := by rw [hps]; intro e; rfl
              have q42 : ∀ e, keysOK (ps e) 28 42 = true := by rw [hps]; intro e; rfl
              have k43 : ∀ e, slotOf (ps e) 43 = some (29, cxV x.b (q : Int)) := by rw [hps]; intro e; rfl
              have q43 : ∀ e, keysOK (ps e) 29 43 = true := by rw [hps]; intro e; rfl
              have k44 : ∀ e, slotOf (ps e) 44 = some (30, .pointer (some ⟨b, off + q * 14, none⟩)) := by rw [hps]; intro e; rfl
              have q44 : ∀ e, keysOK (ps e) 30 44 = true := by rw [hps]; intro e; rfl
              have k45 : ∀ e, slotOf (ps e) 45 = some (31, .bool e) := by rw [hps]; intro e; rfl
              have q45 : ∀ e, keysOK (ps e) 31 45 = true := by rw [hps]; intro e; rfl
              have k46 : ∀ e, slotOf (ps e) 46 = some (32, .bool !e) := by rw [hps]; intro e; rfl
              have q46 : ∀ e, keysOK (ps e) 32 46 = true := by rw [hps]; intro e; rfl
              have k47 : ∀ e, slotOf (ps e) 47 = some (33, .bool !e) := by rw [hps]; intro e; rfl
              have q47 : ∀ e, keysOK (ps e) 33 47 = true := by rw [hps]; intro e; rfl
              clear ha0
              refine ⟨?_, ?_, ?_, ?_, ?_, ?_, ?_, ?_, ?_, ?_, ?_, ?_, ?_, ?_, ?_, ?_, ?_, ?_, ?_, ?_, ?_, ?_, ?_, ?_, ?_, ?_, ?_, ?_, ?_, ?_, ?_, ?_, ?_, ?_, trivial⟩
              · rintro L _ Wx ⟨e, rfl, hT⟩ hcl hk hd
                rw [if_pos (by simp [Region.wanted])]
                refine opIn_valueW (by intro c h; cases h) (v := .pointer (some ⟨b, off + q * 14, none⟩)) (w' := Wx) (by simp [execOp, go_sem, frame_tout (n5 _) u5]) ⟨e, frame_put (k14 _) (q14 _), ?_⟩
                simpa [upd] using hT
              · rintro L _ Wx ⟨e, rfl, hT⟩ hcl hk hd
                have hL0 : L 0 = true := by have h := hd; simp [Region.binds] at h; simp [h]
                rw [if_pos (by simp [Region.wanted])]
                refine opIn_valueW (by intro c h; cases h) (v := .pointer (some ⟨b, off + q * 14, none⟩)) (w' := Wx) (by simp [execOp, go_sem, frame_tmp (k14 _) hL0 (Nat.lt_of_lt_of_eq (by decide : 14 < 49) hsz.symm)]) ⟨e, frame_put (k15 _) (q15 _), ?_⟩
                simpa [upd] using hT
              · rintro L _ Wx ⟨e, rfl, hT⟩ hcl hk hd
                have hL1 : L 1 = true := by have h := hd; simp [Region.binds] at h; simp [h]
                rw [if_pos (by simp [Region.wanted])]
                refine opIn_valueW (by intro c h; cases h) (v := .pointer (some ⟨b, off + q * 14 + 1, none⟩)) (w' := Wx) (by simp [execOp, go_sem, frame_tmp (k15 _) hL1 (Nat.lt_of_lt_of_eq (by decide : 15 < 49) hsz.symm)]) ⟨e, frame_put (k16 _) (q16 _), ?_⟩
                simpa [upd] using hT
              · rintro L _ Wx ⟨e, rfl, hT⟩ hcl hk hd
                have hL2 : L 2 = true := by have h := hd; simp [Region.binds] at h; simp [h]
                have hN : L 31 = false := by
                  cases hh : L 31 with
                  | false => rfl
                  | true =>
                    have h20 := hcl 31 _ rfl (by simp [hh])
                    simp [Region.binds] at h20
                    have h19 := hcl 20 _ rfl (by simp [h20])
                    simp [Region.binds] at h19
                    have h6 := hcl 19 _ rfl (by simp [h19])
                    simp [Region.binds] at h6
                    have h5 := hcl 6 _ rfl (by simp [h6])
                    simp [Region.binds] at h5
                    have h3 := hcl 5 _ rfl (by simp [h5])
                    simp [Region.binds] at h3
                    simp [hk] at h3
                rw [if_pos (by simp [Region.wanted])]
                refine opIn_valueW (by intro c h; cases h) (v := .agg #[.int .i64 x.n.s, .int .i64 x.n.i, .int .i64 x.n.t]) (w' := Wx) (by simp [execOp, go_sem, frame_tmp (k16 _) hL2 (Nat.lt_of_lt_of_eq (by decide : 16 < 49) hsz.symm), hT.1 hN, c1, c2, c3]) ⟨e, frame_put (k17 _) (q17 _), ?_⟩
                simpa [upd] using hT
              · rintro L _ Wx ⟨e, rfl, hT⟩ hcl hk hd
                have hN : L 31 = false := by
                  cases hh : L 31 with
                  | false => rfl
                  | true =>
                    have h20 := hcl 31 _ rfl (by simp [hh])
                    simp [Region.binds] at h20
                    have h19 := hcl 20 _ rfl (by simp [h20])
                    simp [Region.binds] at h19
                    have h6 := hcl 19 _ rfl (by simp [h19])
                    simp [Region.binds] at h6
                    have h5 := hcl 6 _ rfl (by simp [h6])
                    simp [Region.binds] at h5
                    have h4 := hcl 5 _ rfl (by simp [h5])
                    simp [Region.binds] at h4
                    simp [hk] at h4
                rw [if_pos (by simp [Region.wanted])]
                refine opIn_valueW (by intro c h; cases h) (v := .agg #[.int .i64 nm.s, .int .i64 nm.i, .int .i64 nm.t]) (w' := Wx) (by simp [execOp, go_sem, frame_tout (n2 _) u2, hT.1 hN, m0, m1, m2]) ⟨e, frame_put (k18 _) (q18 _), ?_⟩
                simpa [upd] using hT
              · rintro L _ Wx ⟨e, rfl, hT⟩ hcl hk hd
                have hL3 : L 3 = true := by have h := hd; simp [Region.binds] at h; simp [h]
                have hL4 : L 4 = true := by have h := hd; simp [Region.binds] at h; simp [h]
                rw [if_pos (by simp [Region.wanted])]
                refine opIn_valueW (by intro c h; cases h) (v := .bool true) (w' := Wx) (by simp [execOp, go_sem, frame_tmp (k17 _) hL3 (Nat.lt_of_lt_of_eq (by decide : 17 < 49) hsz.symm), frame_tmp (k18 _) hL4 (Nat.lt_of_lt_of_eq (by decide : 18 < 49) hsz.symm), hEq]) ⟨e, frame_put (k19 _) (q19 _), ?_⟩
                simpa [upd] using hT
              · rintro L _ Wx ⟨e, rfl, hT⟩ hcl hk hd
                have hL5 : L 5 = true := by have h := hd; simp [Region.binds] at h; simp [h]
                rw [if_pos (by simp [Region.wanted])]
                refine opIn_valueW (by intro c h; cases h) (v := .bool true) (w' := Wx) (by simp [execOp, go_sem, frame_tmp (k19 _) hL5 (Nat.lt_of_lt_of_eq (by decide : 19 < 49) hsz.symm)]) ⟨e, frame_put (k20 _) (q20 _), ?_⟩
                simpa [upd] using hT
              · rintro L _ Wx ⟨e, rfl, hT⟩ hcl hk hd
                have hL6 : L 6 = true := by have h := hd; simp [Region.binds] at h; simp [h]
                rw [if_pos (by simp [Region.wanted, yielded, frame_tmp (k20 _) hL6 (Nat.lt_of_lt_of_eq (by decide : 20 < 49) hsz.symm)])]
                refine opIn_valueW (by intro c h; cases h) (v := .pointer (some ⟨b, off + q * 14, none⟩)) (w' := Wx) (by simp [execOp, go_sem, frame_tout (n5 _) u5]) ⟨e, frame_put (k21 _) (q21 _), ?_⟩
                simpa [upd] using hT
              · rintro L _ Wx ⟨e, rfl, hT⟩ hcl hk hd
                have hL6 : L 6 = true := by have h := hd; simp [Region.binds] at h; simp [h]
                have hL7 : L 7 = true := by have h := hd; simp [Region.binds] at h; simp [h]
                rw [if_pos (by simp [Region.wanted, yielded, frame_tmp (k20 _) hL6 (Nat.lt_of_lt_of_eq (by decide : 20 < 49) hsz.symm)])]
                refine opIn_valueW (by intro c h; cases h) (v := .pointer (some ⟨b, off + q * 14, none⟩)) (w' := Wx) (by simp [execOp, go_sem, frame_tmp (k21 _) hL7 (Nat.lt_of_lt_of_eq (by decide : 21 < 49) hsz.symm)]) ⟨e, frame_put (k22 _) (q22 _), ?_⟩
                simpa [upd] using hT
              · rintro L _ Wx ⟨e, rfl, hT⟩ hcl hk hd
                have hL6 : L 6 = true := by have h := hd; simp [Region.binds] at h; simp [h]
                have hL8 : L 8 = true := by have h := hd; simp [Region.binds] at h; simp [h]
                rw [if_pos (by simp [Region.wanted, yielded, frame_tmp (k20 _) hL6 (Nat.lt_of_lt_of_eq (by decide : 20 < 49) hsz.symm)])]
                refine opIn_valueW (by intro c h; cases h) (v := .pointer (some ⟨b, off + q * 14, none⟩)) (w' := Wx) (by simp [execOp, go_sem, frame_tmp (k22 _) hL8 (Nat.lt_of_lt_of_eq (by decide : 22 < 49) hsz.symm)]) ⟨e, frame_put (k23 _) (q23 _), ?_⟩
                simpa [upd] using hT
              · rintro L _ Wx ⟨e, rfl, hT⟩ hcl hk hd
                have hL6 : L 6 = true := by have h := hd; simp [Region.binds] at h; simp [h]
                have hL9 : L 9 = true := by have h := hd; simp [Region.binds] at h; simp [h]
                have hN : L 31 = false := by
                  cases hh : L 31 with
                  | false => rfl
                  | true =>
                    have h20 := hcl 31 _ rfl (by simp [hh])
                    simp [Region.binds] at h20
                    have h19 := hcl 20 _ rfl (by simp [h20])
                    simp [Region.binds] at h19
                    have h18 := hcl 19 _ rfl (by simp [h19])
                    simp [Region.binds] at h18
                    have h12 := hcl 18 _ rfl (by simp [h18])
                    simp [Region.binds] at h12
                    have h11 := hcl 12 _ rfl (by simp [h12])
                    simp [Region.binds] at h11
                    have h10 := hcl 11 _ rfl (by simp [h11])
                    simp [Region.binds] at h10
                    simp [hk] at h10
                rw [if_pos (by simp [Region.wanted, yielded, frame_tmp (k20 _) hL6 (Nat.lt_of_lt_of_eq (by decide : 20 < 49) hsz.symm)])]
                refine opIn_valueW (by intro c h; cases h) (v := .int .i8 x.k) (w' := Wx) (by simp [execOp, go_sem, frame_tmp (k23 _) hL9 (Nat.lt_of_lt_of_eq (by decide : 23 < 49) hsz.symm), hT.1 hN, c0]) ⟨e, frame_put (k24 _) (q24 _), ?_⟩
                simpa [upd] using hT
              · rintro L _ Wx ⟨e, rfl, hT⟩ hcl hk hd
                have hL6 : L 6 = true := by have h := hd; simp [Region.binds] at h; simp [h]
                have hL10 : L 10 = true := by have h := hd; simp [Region.binds] at h; simp [h]
                rw [if_pos (by simp [Region.wanted, yielded, frame_tmp (k20 _) hL6 (Nat.lt_of_lt_of_eq (by decide : 20 < 49) hsz.symm)])]
                refine opIn_valueW (by intro c h; cases h) (v := .bool true) (w' := Wx) (by simp [execOp, go_sem, frame_tmp (k24 _) hL10 (Nat.lt_of_lt_of_eq (by decide : 24 < 49) hsz.symm), e1]) ⟨e, frame_put (k25 _) (q25 _), ?_⟩
                simpa [upd] using hT
              · rintro L _ Wx ⟨e, rfl, hT⟩ hcl hk hd
                have hL6 : L 6 = true := by have h := hd; simp [Region.binds] at h; simp [h]
                have hL11 : L 11 = true := by have h := hd; simp [Region.binds] at h; simp [h]
                rw [if_pos (by simp [Region.wanted, yielded, frame_tmp (k20 _) hL6 (Nat.lt_of_lt_of_eq (by decide : 20 < 49) hsz.symm)])]
                refine opIn_valueW (by intro c h; cases h) (v := .bool true) (w' := Wx) (by simp [execOp, go_sem, frame_tmp (k25 _) hL11 (Nat.lt_of_lt_of_eq (by decide : 25 < 49) hsz.symm)]) ⟨e, frame_put (k26 _) (q26 _), ?_⟩
                simpa [upd] using hT
              · rintro L _ Wx ⟨e, rfl, hT⟩ hcl hk hd
                have hL12 : L 12 = true := by have h := hd; simp [Region.binds] at h; simp [h]
                rw [if_neg (by simp [Region.wanted, yielded, frame_tmp (k26 _) hL12 (Nat.lt_of_lt_of_eq (by decide : 26 < 49) hsz.symm)])]
                refine ⟨e, frame_put (k27 _) (q27 _), ?_⟩
                simpa [upd] using hT
              · rintro L _ Wx ⟨e, rfl, hT⟩ hcl hk hd
                have hL12 : L 12 = true := by have h := hd; simp [Region.binds] at h; simp [h]
                rw [if_neg (by simp [Region.wanted, yielded, frame_tmp (k26 _) hL12 (Nat.lt_of_lt_of_eq (by decide : 26 < 49) hsz.symm)])]
                refine ⟨e, frame_put (k28 _) (q28 _), ?_⟩
                simpa [upd] using hT
              · rintro L _ Wx ⟨e, rfl, hT⟩ hcl hk hd
                have hL12 : L 12 = true := by have h := hd; simp [Region.binds] at h; simp [h]
                rw [if_neg (by simp [Region.wanted, yielded, frame_tmp (k26 _) hL12 (Nat.lt_of_lt_of_eq (by decide : 26 < 49) hsz.symm)])]
                refine ⟨e, frame_put (k29 _) (q29 _), ?_⟩
                simpa [upd] using hT
              · rintro L _ Wx ⟨e, rfl, hT⟩ hcl hk hd
                have hL12 : L 12 = true := by have h := hd; simp [Region.binds] at h; simp [h]
                have hN : L 31 = false := by
                  cases hh : L 31 with
                  | false => rfl
                  | true =>
                    have h20 := hcl 31 _ rfl (by simp [hh])
                    simp [Region.binds] at h20
                    have h19 := hcl 20 _ rfl (by simp [h20])
                    simp [Region.binds] at h19
                    have h18 := hcl 19 _ rfl (by simp [h19])
                    simp [Region.binds] at h18
                    have h17 := hcl 18 _ rfl (by simp [h18])
                    simp [Region.binds] at h17
                    have h16 := hcl 17 _ rfl (by simp [h17])
                    simp [Region.binds] at h16
                    simp [hk] at h16
                rw [if_neg (by simp [Region.wanted, yielded, frame_tmp (k26 _) hL12 (Nat.lt_of_lt_of_eq (by decide : 26 < 49) hsz.symm)])]
                refine ⟨e, frame_put (k30 _) (q30 _), ?_⟩
                simpa [upd] using hT
              · rintro L _ Wx ⟨e, rfl, hT⟩ hcl hk hd
                have hL12 : L 12 = true := by have h := hd; simp [Region.binds] at h; simp [h]
                rw [if_neg (by simp [Region.wanted, yielded, frame_tmp (k26 _) hL12 (Nat.lt_of_lt_of_eq (by decide : 26 < 49) hsz.symm)])]
                refine ⟨e, frame_put (k31 _) (q31 _), ?_⟩
                simpa [upd] using hT
              · rintro L _ Wx ⟨e, rfl, hT⟩ hcl hk hd
                have hL6 : L 6 = true := by have h := hd; simp [Region.binds] at h; simp [h]
                have hL12 : L 12 = true := by have h := hd; simp [Region.binds] at h; simp [h]
                have hL17 : L 17 = true := by have h := hd; simp [Region.binds] at h; simp [h]
                rw [if_pos (by simp [Region.wanted, yielded, frame_tmp (k20 _) hL6 (Nat.lt_of_lt_of_eq (by decide : 20 < 49) hsz.symm)])]
                refine opIn_valueW (by intro c h; cases h) (v := .bool true) (w' := Wx) (by simp [execOp, go_sem, frame_tmp (k26 _) hL12 (Nat.lt_of_lt_of_eq (by decide : 26 < 49) hsz.symm), frame_tmp (k31 _) hL17 (Nat.lt_of_lt_of_eq (by decide : 31 < 49) hsz.symm)]) ⟨e, frame_put (k32 _) (q32 _), ?_⟩
                simpa [upd] using hT
              · rintro L _ Wx ⟨e, rfl, hT⟩ hcl hk hd
                have hL6 : L 6 = true := by have h := hd; simp [Region.binds] at h; simp [h]
                have hL18 : L 18 = true := by have h := hd; simp [Region.binds] at h; simp [h]
                rw [if_pos (by simp [Region.wanted])]
                refine opIn_valueW (by intro c h; cases h) (v := .bool true) (w' := Wx) (by simp [execOp, go_sem, frame_tmp (k20 _) hL6 (Nat.lt_of_lt_of_eq (by decide : 20 < 49) hsz.symm), frame_tmp (k32 _) hL18 (Nat.lt_of_lt_of_eq (by decide : 32 < 49) hsz.symm)]) ⟨e, frame_put (k33 _) (q33 _), ?_⟩
                simpa [upd] using hT
              · rintro L _ Wx ⟨e, rfl, hT⟩ hcl hk hd
                have hL19 : L 19 = true := by have h := hd; simp [Region.binds] at h; simp [h]
                rw [if_pos (by simp [Region.wanted])]
                refine opIn_valueW (by intro c h; cases h) (v := .bool true) (w' := Wx) (by simp [execOp, go_sem, frame_tmp (k33 _) hL19 (Nat.lt_of_lt_of_eq (by decide : 33 < 49) hsz.symm)]) ⟨e, frame_put (k34 _) (q34 _), ?_⟩
                simpa [upd] using hT
              · rintro L _ Wx ⟨e, rfl, hT⟩ hcl hk hd
                have hL20 : L 20 = true := by have h := hd; simp [Region.binds] at h; simp [h]
                rw [if_pos (by simp [Region.wanted, yielded, frame_tmp (k34 _) hL20 (Nat.lt_of_lt_of_eq (by decide : 34 < 49) hsz.symm)])]
                refine opIn_valueW (by intro c h; cases h) (v := .func (.yield lp) #[] #[]) (w' := Wx) (by simp [execOp, go_sem, frame_tout (n0 _) u0]) ⟨e, frame_put (k35 _) (q35 _), ?_⟩
                simpa [upd] using hT
              · rintro L _ Wx ⟨e, rfl, hT⟩ hcl hk hd
                have hL20 : L 20 = true := by have h := hd; simp [Region.binds] at h; simp [h]
                rw [if_pos (by simp [Region.wanted, yielded, frame_tmp (k34 _) hL20 (Nat.lt_of_lt_of_eq (by decide : 34 < 49) hsz.symm)])]
                refine opIn_valueW (by intro c h; cases h) (v := .pointer (some ⟨b, off + q * 14, none⟩)) (w' := Wx) (by simp [execOp, go_sem, frame_tout (n5 _) u5]) ⟨e, frame_put (k36 _) (q36 _), ?_⟩
                simpa [upd] using hT
              · rintro L _ Wx ⟨e, rfl, hT⟩ hcl hk hd
                have hL20 : L 20 = true := by have h := hd; simp [Region.binds] at h; simp [h]
                have hL22 : L 22 = true := by have h := hd; simp [Region.binds] at h; simp [h]
                rw [if_pos (by simp [Region.wanted, yielded, frame_tmp (k34 _) hL20 (Nat.lt_of_lt_of_eq (by decide : 34 < 49) hsz.symm)])]
                refine opIn_valueW (by intro c h; cases h) (v := .pointer (some ⟨b, off + q * 14, none⟩)) (w' := Wx) (by simp [execOp, go_sem, frame_tmp (k36 _) hL22 (Nat.lt_of_lt_of_eq (by decide : 36 < 49) hsz.symm)]) ⟨e, frame_put (k37 _) (q37 _), ?_⟩
                simpa [upd] using hT
              · rintro L _ Wx ⟨e, rfl, hT⟩ hcl hk hd
                have hL20 : L 20 = true := by have h := hd; simp [Region.binds] at h; simp [h]
                have hL23 : L 23 = true := by have h := hd; simp [Region.binds] at h; simp [h]
                rw [if_pos (by simp [Region.wanted, yielded, frame_tmp (k34 _) hL20 (Nat.lt_of_lt_of_eq (by decide : 34 < 49) hsz.symm)])]
                refine opIn_valueW (by intro c h; cases h) (v := .pointer (some ⟨b, off + q * 14 + 4, none⟩)) (w' := Wx) (by simp [execOp, go_sem, frame_tmp (k37 _) hL23 (Nat.lt_of_lt_of_eq (by decide : 37 < 49) hsz.symm)]) ⟨e, frame_put (k38 _) (q38 _), ?_⟩
                simpa [upd] using hT
              · rintro L _ Wx ⟨e, rfl, hT⟩ hcl hk hd
                have hL20 : L 20 = true := by have h := hd; simp [Region.binds] at h; simp [h]
                have hL24 : L 24 = true := by have h := hd; simp [Region.binds] at h; simp [h]
                have hN : L 31 = false := by
                  cases hh : L 31 with
                  | false => rfl
                  | true =>
                    have h29 := hcl 31 _ rfl (by simp [hh])
                    simp [Region.binds] at h29
                    have h26 := hcl 29 _ rfl (by simp [h29])
                    simp [Region.binds] at h26
                    have h25 := hcl 26 _ rfl (by simp [h26])
                    simp [Region.binds] at h25
                    simp [hk] at h25
                rw [if_pos (by simp [Region.wanted, yielded, frame_tmp (k34 _) hL20 (Nat.lt_of_lt_of_eq (by decide : 34 < 49) hsz.symm)])]
                refine opIn_valueW (by intro c h; cases h) (v := .int .i64 x.b) (w' := Wx) (by simp [execOp, go_sem, frame_tmp (k38 _) hL24 (Nat.lt_of_lt_of_eq (by decide : 38 < 49) hsz.symm), hT.1 hN, c4]) ⟨e, frame_put (k39 _) (q39 _), ?_⟩
                simpa [upd] using hT
              · rintro L _ Wx ⟨e, rfl, hT⟩ hcl hk hd
                have hL20 : L 20 = true := by have h := hd; simp [Region.binds] at h; simp [h]
                have hL25 : L 25 = true := by have h := hd; simp [Region.binds] at h; simp [h]
                rw [if_pos (by simp [Region.wanted, yielded, frame_tmp (k34 _) hL20 (Nat.lt_of_lt_of_eq (by decide : 34 < 49) hsz.symm)])]
                refine opIn_valueW (by intro c h; cases h) (v := flV x.b) (w' := Wx) (by simp [execOp, go_sem, frame_tmp (k39 _) hL25 (Nat.lt_of_lt_of_eq (by decide : 39 < 49) hsz.symm), run_to_float]) ⟨e, frame_put (k40 _) (q40 _), ?_⟩
                simpa [upd] using hT
              · rintro L _ Wx ⟨e, rfl, hT⟩ hcl hk hd
                have hL20 : L 20 = true := by have h := hd; simp [Region.binds] at h; simp [h]
                rw [if_pos (by simp [Region.wanted, yielded, frame_tmp (k34 _) hL20 (Nat.lt_of_lt_of_eq (by decide : 34 < 49) hsz.symm)])]
                refine opIn_valueW (by intro c h; cases h) (v := .int .i64 (q : Int)) (w' := Wx) (by simp [execOp, go_sem, frame_tout (n4 _) u4]) ⟨e, frame_put (k41 _) (q41 _), ?_⟩
                simpa [upd] using hT
              · rintro L _ Wx ⟨e, rfl, hT⟩ hcl hk hd
                have hL20 : L 20 = true := by have h := hd; simp [Region.binds] at h; simp [h]
                have hL27 : L 27 = true := by have h := hd; simp [Region.binds] at h; simp [h]
                rw [if_pos (by simp [Region.wanted, yielded, frame_tmp (k34 _) hL20 (Nat.lt_of_lt_of_eq (by decide : 34 < 49) hsz.symm)])]
                refine opIn_valueW (by intro c h; cases h) (v := flV (q : Int)) (w' := Wx) (by simp [execOp, go_sem, frame_tmp (k41 _) hL27 (Nat.lt_of_lt_of_eq (by decide : 41 < 49) hsz.symm), run_to_float]) ⟨e, frame_put (k42 _) (q42 _), ?_⟩
                simpa [upd] using hT
              · rintro L _ Wx ⟨e, rfl, hT⟩ hcl hk hd
                have hL20 : L 20 = true := by have h := hd; simp [Region.binds] at h; simp [h]
                have hL26 : L 26 = true := by have h := hd; simp [Region.binds] at h; simp [h]
                have hL28 : L 28 = true := by have h := hd; simp [Region.binds] at h; simp [h]
                rw [if_pos (by simp [Region.wanted, yielded, frame_tmp (k34 _) hL20 (Nat.lt_of_lt_of_eq (by decide : 34 < 49) hsz.symm)])]
                refine opIn_valueW (by intro c h; cases h) (v := cxV x.b (q : Int)) (w' := Wx) (by simp [go_sem, frame_tmp (k40 _) hL26 (Nat.lt_of_lt_of_eq (by decide : 40 < 49) hsz.symm), frame_tmp (k42 _) hL28 (Nat.lt_of_lt_of_eq (by decide : 42 < 49) hsz.symm), run_complex]) ⟨e, frame_put (k43 _) (q43 _), ?_⟩
                simpa [upd] using hT
              · rintro L _ Wx ⟨e, rfl, hT⟩ hcl hk hd
                have hL20 : L 20 = true := by have h := hd; simp [Region.binds] at h; simp [h]
                rw [if_pos (by simp [Region.wanted, yielded, frame_tmp (k34 _) hL20 (Nat.lt_of_lt_of_eq (by decide : 34 < 49) hsz.symm)])]
                refine opIn_valueW (by intro c h; cases h) (v := .pointer (some ⟨b, off + q * 14, none⟩)) (w' := Wx) (by simp [execOp, go_sem, frame_tout (n5 _) u5]) ⟨e, frame_put (k44 _) (q44 _), ?_⟩
                simpa [upd] using hT
              · rintro L _ Wx ⟨e, rfl, hT⟩ hcl hk hd
                have hL20 : L 20 = true := by have h := hd; simp [Region.binds] at h; simp [h]
                have hL21 : L 21 = true := by have h := hd; simp [Region.binds] at h; simp [h]
                have hL29 : L 29 = true := by have h := hd; simp [Region.binds] at h; simp [h]
                have hL30 : L 30 = true := by have h := hd; simp [Region.binds] at h; simp [h]
                rw [if_pos (by simp [Region.wanted, yielded, frame_tmp (k34 _) hL20 (Nat.lt_of_lt_of_eq (by decide : 34 < 49) hsz.symm)])]
                obtain rfl : Wx = w0 := hT.1 hk
                have hN32 : L 32 = false := by
                  cases hh : L 32 with
                  | false => rfl
                  | true =>
                    have h31 := hcl 32 _ rfl (by simp [hh])
                    simp [Region.binds] at h31
                    simp [hk] at h31
                have hN33 : L 33 = false := by
                  cases hh : L 33 with
                  | false => rfl
                  | true =>
                    have h32 := hcl 33 _ rfl (by simp [hh])
                    simp [Region.binds] at h32
                    simp [hN32] at h32
                refine opIn_round (by intro c h; cases h) (l := lp) (f := fn) (tmps := tmps) (assign := assign) (body := body) (by simp [go_sem, frame_tmp (k35 _) hL21 (Nat.lt_of_lt_of_eq (by decide : 35 < 49) hsz.symm), frame_tmp (k43 _) hL29 (Nat.lt_of_lt_of_eq (by decide : 43 < 49) hsz.symm), frame_tmp (k44 _) hL30 (Nat.lt_of_lt_of_eq (by decide : 44 < 49) hsz.symm), hy]) hR ?_
                rintro e2 W3 (⟨rfl, hJ3, hk3⟩ | ⟨rfl, hJx3⟩)
                · refine ⟨_, rfl, true, ?_, ?_⟩
                  · rw [← frame_put (k45 true) (q45 true)]
                    congr 1
                    rw [hps]
                    exact frame_swap (.cons (fun _ => rfl) (.cons (fun _ => rfl) (.cons (fun _ => rfl) (.cons (fun _ => rfl) (.cons (fun _ => rfl) (.cons (fun _ => rfl) (.cons (fun _ => rfl) (.cons (fun _ => rfl) (.cons (fun _ => rfl) (.cons (fun _ => rfl) (.cons (fun _ => rfl) (.cons (fun _ => rfl) (.cons (fun _ => rfl) (.cons (fun _ => rfl) (.cons (fun _ => rfl) (.cons (fun _ => rfl) (.cons (fun _ => rfl) (.cons (fun _ => rfl) (.cons (fun _ => rfl) (.cons (fun _ => rfl) (.cons (fun _ => rfl) (.cons (fun _ => rfl) (.cons (fun _ => rfl) (.cons (fun _ => rfl) (.cons (fun _ => rfl) (.cons (fun _ => rfl) (.cons (fun _ => rfl) (.cons (fun _ => rfl) (.cons (fun _ => rfl) (.cons (fun _ => rfl) (.cons (fun _ => rfl) (.cons (fun h => by rw [hk] at h; cases h) (.cons (fun h => by rw [hN32] at h; cases h) (.cons (fun h => by rw [hN33] at h; cases h) .nil))))))))))))))))))))))))))))))))))
                  · exact ⟨fun h => by simp [upd] at h, fun _ => .inl ⟨rfl, hJ3, hk3⟩⟩
                · refine ⟨_, rfl, false, ?_, ?_⟩
                  · rw [← frame_put (k45 false) (q45 false)]
                    congr 1
                    rw [hps]
                    exact frame_swap (.cons (fun _ => rfl) (.cons (fun _ => rfl) (.cons (fun _ => rfl) (.cons (fun _ => rfl) (.cons (fun _ => rfl) (.cons (fun _ => rfl) (.cons (fun _ => rfl) (.cons (fun _ => rfl) (.cons (fun _ => rfl) (.cons (fun _ => rfl) (.cons (fun _ => rfl) (.cons (fun _ => rfl) (.cons (fun _ => rfl) (.cons (fun _ => rfl) (.cons (fun _ => rfl) (.cons (fun _ => rfl) (.cons (fun _ => rfl) (.cons (fun _ => rfl) (.cons (fun _ => rfl) (.cons (fun _ => rfl) (.cons (fun _ => rfl) (.cons (fun _ => rfl) (.cons (fun _ => rfl) (.cons (fun _ => rfl) (.cons (fun _ => rfl) (.cons (fun _ => rfl) (.cons (fun _ => rfl) (.cons (fun _ => rfl) (.cons (fun _ => rfl) (.cons (fun _ => rfl) (.cons (fun _ => rfl) (.cons (fun h => by rw [hk] at h; cases h) (.cons (fun h => by rw [hN32] at h; cases h) (.cons (fun h => by rw [hN33] at h; cases h) .nil))))))))))))))))))))))))))))))))))
                  · exact ⟨fun h => by simp [upd] at h, fun _ => .inr ⟨rfl, hJx3⟩⟩
              · rintro L _ Wx ⟨e, rfl, hT⟩ hcl hk hd
                have hL20 : L 20 = true := by have h := hd; simp [Region.binds] at h; simp [h]
                have hL31 : L 31 = true := by have h := hd; simp [Region.binds] at h; simp [h]
                rw [if_pos (by simp [Region.wanted, yielded, frame_tmp (k34 _) hL20 (Nat.lt_of_lt_of_eq (by decide : 34 < 49) hsz.symm)])]
                refine opIn_valueW (by intro c h; cases h) (v := .bool !e) (w' := Wx) (by simp [execOp, go_sem, frame_tmp (k45 _) hL31 (Nat.lt_of_lt_of_eq (by decide : 45 < 49) hsz.symm)]) ⟨e, frame_put (k46 _) (q46 _), ?_⟩
                simpa [upd] using hT
              · rintro L _ Wx ⟨e, rfl, hT⟩ hcl hk hd
                have hL20 : L 20 = true := by have h := hd; simp [Region.binds] at h; simp [h]
                have hL32 : L 32 = true := by have h := hd; simp [Region.binds] at h; simp [h]
                rw [if_pos (by simp [Region.wanted])]
                refine opIn_valueW (by intro c h; cases h) (v := .bool !e) (w' := Wx) (by simp [execOp, go_sem, frame_tmp (k34 _) hL20 (Nat.lt_of_lt_of_eq (by decide : 34 < 49) hsz.symm), frame_tmp (k46 _) hL32 (Nat.lt_of_lt_of_eq (by decide : 46 < 49) hsz.symm)]) ⟨e, frame_put (k47 _) (q47 _), ?_⟩
                simpa [upd] using hT
            · rintro e L W' hT hall
              have hA31 : L 31 = true := hall 31 (by simp)
              simp only [putAll, Act.put, List.setIfInBounds_toArray, List.set_cons_succ, List.set_cons_zero]
              rcases hT.2 hA31 with ⟨rfl, hJ3, hk3⟩ | ⟨rfl, hJx3⟩
              · have HJ3 := Lib.hid hJ3
                have HK3 := Lib.hid hk3
                clear hT hall hJ3 hk3
                gi_wp2
                go_roundw
                case rel => exact ⟨q + 1, _, by omega, by go_num, HJ3.out, (HKD.out).trans HK3.out, HNX.out⟩
                case measure => simp [intOf]; omega
              · have HJx3 := Lib.hid hJx3
                clear hT hall hJx3
                gi_wp2
                refine bodyPost_ret (results_none rfl _ _ _) rfl ?_
                exact ⟨⟨_, rfl⟩, .inr ⟨_, ⟨_, HNX.out⟩, HJx3.out⟩⟩
            -- END NA
          · have e1 : (x.k == 1) = false := by simp [hk1]
            have e2 : (x.k == 2) = true := by simp; omega
            clear hk12 hk1 hit
            -- BEGIN NB
            refine wpIn_region_frameE (E := Bool) mixed (fun _ => trivial) (by kernel_rfl) (fun e => [(0, 14, .pointer (some ⟨b, off + q * 14, none⟩)), (1, 15, .pointer (some ⟨b, off + q * 14, none⟩)), (2, 16, .pointer (some ⟨b, off + q * 14 + 1, none⟩)), (3, 17, .agg #[.int .i64 x.n.s, .int .i64 x.n.i, .int .i64 x.n.t]), (4, 18, .agg #[.int .i64 nm.s, .int .i64 nm.i, .int .i64 nm.t]), (5, 19, .bool true), (6, 20, .bool true), (7, 21, .pointer (some ⟨b, off + q * 14, none⟩)), (8, 22, .pointer (some ⟨b, off + q * 14, none⟩)), (9, 23, .pointer (some ⟨b, off + q * 14, none⟩)), (10, 24, .int .i8 x.k), (11, 25, .bool false), (12, 26, .bool false), (13, 27, .pointer (some ⟨b, off + q * 14, none⟩)), (14, 28, .pointer (some ⟨b, off + q * 14, none⟩)), (15, 29, .pointer (some ⟨b, off + q * 14, none⟩)), (16, 30, .int .i8 x.k), (17, 31, .bool true), (18, 32, .bool true), (19, 33, .bool true), (20, 34, .bool true), (21, 35, .func (.yield lp) #[] #[]), (22, 36, .pointer (some ⟨b, off + q * 14, none⟩)), (23, 37, .pointer (some ⟨b, off + q * 14, none⟩)), (24, 38, .pointer (some ⟨b, off + q * 14 + 4, none⟩)), (25, 39, .int .i64 x.b), (26, 40, flV x.b), (27, 41, .int .i64 (q : Int)), (28, 42, flV (q : Int)), (29, 43, cxV x.b (q : Int)), (30, 44, .pointer (some ⟨b, off + q * 14, none⟩)), (31, 45, .bool e), (32, 46, .bool !e), (33, 47, .bool !e)]) (fun e L Wx => YT w0 (fun e W3 => (e = true ∧ J (pre ++ [⟨(q, x), hmem⟩]) W3 ∧ Keep n₀ n₁ none w0 W3) ∨ (e = false ∧ Jx (pre ++ [⟨(q, x), hmem⟩]) W3)) (L 31) e Wx) true ?_ ?_ (fun _ => by rfl) (fun _ => by rfl) ?_
            · exact HW0.out ▸ YT.start
            · intro a0 ps ha0 hps
              have hsz : a0.tmps.size = 49 := by rw [ha0]; rfl
              have u0 : a0.tmps[0]? = some (.func (.yield lp) #[] #[]) := by rw [ha0]; rfl
              have u2 : a0.tmps[2]? = some (.pointer (some ⟨Bn, 0, none⟩)) := by rw [ha0]; rfl
              have u4 : a0.tmps[4]? = some (.int .i64 (q : Int)) := by rw [ha0]; rfl
              have u5 : a0.tmps[5]? = some (.pointer (some ⟨b, off + q * 14, none⟩)) := by rw [ha0]; rfl
              have n0 : ∀ e, slotOf (ps e) 0 = none := by rw [hps]; intro e; rfl
              have n2 : ∀ e, slotOf (ps e) 2 = none := by rw [hps]; intro e; rfl
              have n4 : ∀ e, slotOf (ps e) 4 = none := by rw [hps]; intro e; rfl
              have n5 : ∀ e, slotOf (ps e) 5 = none := by rw [hps]; intro e; rfl
              have k14 : ∀ e, slotOf (ps e) 14 = some (0, .pointer (some ⟨b, off + q * 14, none⟩)) := by rw [hps]; intro e; rfl
              have q14 : ∀ e, keysOK (ps e) 0 14 = true := by rw [hps]; intro e; rfl
              have k15 : ∀ e, slotOf (ps e) 15 = some (1, .pointer (some ⟨b, off + q * 14, none⟩)) := by rw [hps]; intro e; rfl
              have q15 : ∀ e, keysOK (ps e) 1 15 = true := by rw [hps]; intro e; rfl
              have k16 : ∀ e, slotOf (ps e) 16 = some (2, .pointer (some ⟨b, off + q * 14 + 1, none⟩)) := by rw [hps]; intro e; rfl
              have q16 : ∀ e, keysOK (ps e) 2 16 = true := by rw [hps]; intro e; rfl
              have k17 : ∀ e, slotOf (ps e) 17 = some (3, .agg #[.int .i64 x.n.s, .int .i64 x.n.i, .int .i64 x.n.t]) := by rw [hps]; intro e; rfl
              have q17 : ∀ e, keysOK (ps e) 3 17 = true := by rw [hps]; intro e; rfl
              have k18 : ∀ e, slotOf (ps e) 18 = some (4, .agg #[.int .i64 nm.s, .int .i64 nm.i, .int .i64 nm.t]) := by rw [hps]; intro e; rfl
              have q18 : ∀ e, keysOK (ps e) 4 18 = true := by rw [hps]; intro e; rfl
              have k19 : ∀ e, slotOf (ps e) 19 = some (5, .bool true) := by rw [hps]; intro e; rfl
              have q19 : ∀ e, keysOK (ps e) 5 19 = true := by rw [hps]; intro e; rfl
              have k20 : ∀ e, slotOf (ps e) 20 = some (6, .bool true) := by rw [hps]; intro e; rfl
              have q20 : ∀ e, keysOK (ps e) 6 20 = true := by rw [hps]; intro e; rfl
              have k21 : ∀ e, slotOf (ps e) 21 = some (7, .pointer (some ⟨b, off + q * 14, none⟩)) := by rw [hps]; intro e; rfl
              have q21 : ∀ e, keysOK (ps e) 7 21 = true := by rw [hps]; intro e; rfl
              have k22 : ∀ e, slotOf (ps e) 22 = some (8, .pointer (some ⟨b, off + q * 14, none⟩)) := by rw [hps]; intro e; rfl
              have q22 : ∀ e, keysOK (ps e) 8 22 = true := by rw [hps]; intro e; rfl
              have k23 : ∀ e, slotOf (ps e) 23 = some (9, .pointer (some ⟨b, off + q * 14, none⟩)) := by rw [hps]; intro e; rfl
              have q23 : ∀ e, keysOK (ps e) 9 23 = true := by rw [hps]; intro e; rfl
              have k24 : ∀ e, slotOf (ps e) 24 = some (10, .int .i8 x.k) := by rw [hps]; intro e; rfl
              have q24 : ∀ e, keysOK (ps e) 10 24 = true := by rw [hps]; intro e; rfl
              have k25 : ∀ e, slotOf (ps e) 25 = some (11, .bool false) := by rw [hps]; intro e; rfl
              have q25 : ∀ e, keysOK (ps e) 11 25 = true := by rw [hps]; intro e; rfl
              have k26 : ∀ e, slotOf (ps e) 26 = some (12, .bool false) := by rw [hps]; intro e; rfl
              have q26 : ∀ e, keysOK (ps e) 12 26 = true := by rw [hps]; intro e; rfl
              have k27 : ∀ e, slotOf (ps e) 27 = some (13, .pointer (some ⟨b, off + q * 14, none⟩)) := by rw [hps]; intro e; rfl
              have q27 : ∀ e, keysOK (ps e) 13 27 = true := by rw [hps]; intro e; rfl
              have k28 : ∀ e, slotOf (ps e) 28 = some (14, .pointer (some ⟨b, off + q * 14, none⟩)) := by rw [hps]; intro e; rfl
              have q28 : ∀ e, keysOK (ps e) 14 28 = true := by rw [hps]; intro e; rfl
              have k29 : ∀ e, slotOf (ps e) 29 = some (15, .pointer (some ⟨b, off + q * 14, none⟩)) := by rw [hps]; intro e; rfl
              have q29 : ∀ e, keysOK (ps e) 15 29 = true := by rw [hps]; intro e; rfl
              have k30 : ∀ e, slotOf (ps e) 30 = some (16, .int .i8 x.k) := by rw [hps]; intro e; rfl
              have q30 : ∀ e, keysOK (ps e) 16 30 = true := by rw [hps]; intro e; rfl
              have k31 : ∀ e, slotOf (ps e) 31 = some (17, .bool true) := by rw [hps]; intro e; rfl
              have q31 : ∀ e, keysOK (ps e) 17 31 = true := by rw [hps]; intro e; rfl
              have k32 : ∀ e, slotOf (ps e) 32 = some (18, .bool true) := by rw [hps]; intro e; rfl
              have q32 : ∀ e, keysOK (ps e) 18 32 = true := by rw [hps]; intro e; rfl
              have k33 : ∀ e, slotOf (ps e) 33 = some (19, .bool true) := by rw [hps]; intro e; rfl
              have q33 : ∀ e, keysOK (ps e) 19 33 = true := by rw [hps]; intro e; rfl
              have k34 : ∀ e, slotOf (ps e) 34 = some (20, .bool true) := by rw [hps]; intro e; rfl
              have q34 : ∀ e, keysOK (ps e) 20 34 = true := by rw [hps]; intro e; rfl
              have k35 : ∀ e, slotOf (ps e) 35 = some (21, .func (.yield lp) #[] #[]) := by rw [hps]; intro e; rfl
              have q35 : ∀ e, keysOK (ps e) 21 35 = true := by rw [hps]; intro e; rfl
              have k36 : ∀ e, slotOf (ps e) 36 = some (22, .pointer (some ⟨b, off + q * 14, none⟩)) := by rw [hps]; intro e; rfl
              have q36 : ∀ e, keysOK (ps e) 22 36 = true := by rw [hps]; intro e; rfl
              have k37 : ∀ e, slotOf (ps e) 37 = some (23, .pointer (some ⟨b, off + q * 14, none⟩)) := by rw [hps]; intro e; rfl
              have q37 : ∀ e, keysOK (ps e) 23 37 = true := by rw [hps]; intro e; rfl
              have k38 : ∀ e, slotOf (ps e) 38 = some (24, .pointer (some ⟨b, off + q * 14 + 4, none⟩)) := by rw [hps]; intro e; rfl
              have q38 : ∀ e, keysOK (ps e) 24 38 = true := by rw [hps]; intro e; rfl
              have k39 : ∀ e, slotOf (ps e) 39 = some (25, .int .i64 x.b) := by rw [hps]; intro e; rfl
              have q39 : ∀ e, keysOK (ps e) 25 39 = true := by rw [hps]; intro e; rfl
              have k40 : ∀ e, slotOf (ps e) 40 = some (26, flV x.b) := by rw [hps]; intro e; rfl
              have q40 : ∀ e, keysOK (ps e) 26 40 = true := by rw [hps]; intro e; rfl
              have k41 : ∀ e, slotOf (ps e) 41 = some (27, .int .i64 (q : Int)) := by rw [hps]; intro e; rfl
              have q41 : ∀ e, keysOK (ps e) 27 41 = true := by rw [hps]; intro e; rfl
              have k42 : ∀ e, slotOf (ps e) 42 = some (28, flV (q : Int)) := by rw [hps]; intro e; rfl
              have q42 : ∀ e, keysOK (ps e) 28 42 = true := by rw [hps]; intro e; rfl
              have k43 : ∀ e, slotOf (ps e) 43 = some (29, cxV x.b (q : Int)) := by rw [hps]; intro e; rfl
              have q43 : ∀ e, keysOK (ps e) 29 43 = true := by rw [hps]; intro e; rfl
              have k44 : ∀ e, slotOf (ps e) 44 = some (30, .pointer (some ⟨b, off + q * 14, none⟩)) := by rw [hps]; intro e; rfl
              have q44 : ∀ e, keysOK (ps e) 30 44 = true := by rw [hps]; intro e; rfl
              have k45 : ∀ e, slotOf (ps e) 45 = some (31, .bool e) := by rw [hps]; intro e; rfl
              have q45 : ∀ e, keysOK (ps e) 31 45 = true := by rw [hps]; intro e; rfl
              have k46 : ∀ e, slotOf (ps e) 46 = some (32, .bool !e) := by rw [hps]; intro e; rfl
              have q46 : ∀ e, keysOK (ps e) 32 46 = true := by rw [hps]; intro e; rfl
              have k47 : ∀ e, slotOf (ps e) 47 = some (33, .bool !e) := by rw [hps]; intro e; rfl
              have q47 : ∀ e, keysOK (ps e) 33 47 = true := by rw [hps]; intro e; rfl
              clear ha0
              refine ⟨?_, ?_, ?_, ?_, ?_, ?_, ?_, ?_, ?_, ?_, ?_, ?_, ?_, ?_, ?_, ?_, ?_, ?_, ?_, ?_, ?_, ?_, ?_, ?_, ?_, ?_, ?_, ?_, ?_, ?_, ?_, ?_, ?_, ?_, trivial⟩
              · rintro L _ Wx ⟨e, rfl, hT⟩ hcl hk hd
                rw [if_pos (by simp [Region.wanted])]
                refine opIn_valueW (by intro c h; cases h) (v := .pointer (some ⟨b, off + q * 14, none⟩)) (w' := Wx) (by simp [execOp, go_sem, frame_tout (n5 _) u5]) ⟨e, frame_put (k14 _) (q14 _), ?_⟩
                simpa [upd] using hT
              · rintro L _ Wx ⟨e, rfl, hT⟩ hcl hk hd
                have hL0 : L 0 = true := by have h := hd; simp [Region.binds] at h; simp [h]
                rw [if_pos (by simp [Region.wanted])]
                refine opIn_valueW (by intro c h; cases h) (v := .pointer (some ⟨b, off + q * 14, none⟩)) (w' := Wx) (by simp [execOp, go_sem, frame_tmp (k14 _) hL0 (Nat.lt_of_lt_of_eq (by decide : 14 < 49) hsz.symm)]) ⟨e, frame_put (k15 _) (q15 _), ?_⟩
                simpa [upd] using hT
              · rintro L _ Wx ⟨e, rfl, hT⟩ hcl hk hd
                have hL1 : L 1 = true := by have h := hd; simp [Region.binds] at h; simp [h]
                rw [if_pos (by simp [Region.wanted])]
                refine opIn_valueW (by intro c h; cases h) (v := .pointer (some ⟨b, off + q * 14 + 1, none⟩)) (w' := Wx) (by simp [execOp, go_sem, frame_tmp (k15 _) hL1 (Nat.lt_of_lt_of_eq (by decide : 15 < 49) hsz.symm)]) ⟨e, frame_put (k16 _) (q16 _), ?_⟩
                simpa [upd] using hT
              · rintro L _ Wx ⟨e, rfl, hT⟩ hcl hk hd
                have hL2 : L 2 = true := by have h := hd; simp [Region.binds] at h; simp [h]
                have hN : L 31 = false := by
                  cases hh : L 31 with
                  | false => rfl
                  | true =>
                    have h20 := hcl 31 _ rfl (by simp [hh])
                    simp [Region.binds] at h20
                    have h19 := hcl 20 _ rfl (by simp [h20])
                    simp [Region.binds] at h19
                    have h6 := hcl 19 _ rfl (by simp [h19])
                    simp [Region.binds] at h6
                    have h5 := hcl 6 _ rfl (by simp [h6])
                    simp [Region.binds] at h5
                    have h3 := hcl 5 _ rfl (by simp [h5])
                    simp [Region.binds] at h3
                    simp [hk] at h3
                rw [if_pos (by simp [Region.wanted])]
                refine opIn_valueW (by intro c h; cases h) (v := .agg #[.int .i64 x.n.s, .int .i64 x.n.i, .int .i64 x.n.t]) (w' := Wx) (by simp [execOp, go_sem, frame_tmp (k16 _) hL2 (Nat.lt_of_lt_of_eq (by decide : 16 < 49) hsz.symm), hT.1 hN, c1, c2, c3]) ⟨e, frame_put (k17 _) (q17 _), ?_⟩
                simpa [upd] using hT
              · rintro L _ Wx ⟨e, rfl, hT⟩ hcl hk hd
                have hN : L 31 = false := by
                  cases hh : L 31 with
                  | false => rfl
                  | true =>
                    have h20 := hcl 31 _ rfl (by simp [hh])
                    simp [Region.binds] at h20
                    have h19 := hcl 20 _ rfl (by simp [h20])
                    simp [Region.binds] at h19
                    have h6 := hcl 19 _ rfl (by simp [h19])
                    simp [Region.binds] at h6
                    have h5 := hcl 6 _ rfl (by simp [h6])
                    simp [Region.binds] at h5
                    have h4 := hcl 5 _ rfl (by simp [h5])
                    simp [Region.binds] at h4
                    simp [hk] at h4
                rw [if_pos (by simp [Region.wanted])]
                refine opIn_valueW (by intro c h; cases h) (v := .agg #[.int .i64 nm.s, .int .i64 nm.i, .int .i64 nm.t]) (w' := Wx) (by simp [execOp, go_sem, frame_tout (n2 _) u2, hT.1 hN, m0, m1, m2]) ⟨e, frame_put (k18 _) (q18 _), ?_⟩
                simpa [upd] using hT
              · rintro L _ Wx ⟨e, rfl, hT⟩ hcl hk hd
                have hL3 : L 3 = true := by have h := hd; simp [Region.binds] at h; simp [h]
                have hL4 : L 4 = true := by have h := hd; simp [Region.binds] at h; simp [h]
                rw [if_pos (by simp [Region.wanted])]
                refine opIn_valueW (by intro c h; cases h) (v := .bool true) (w' := Wx) (by simp [execOp, go_sem, frame_tmp (k17 _) hL3 (Nat.lt_of_lt_of_eq (by decide : 17 < 49) hsz.symm), frame_tmp (k18 _) hL4 (Nat.lt_of_lt_of_eq (by decide : 18 < 49) hsz.symm), hEq]) ⟨e, frame_put (k19 _) (q19 _), ?_⟩
                simpa [upd] using hT
              · rintro L _ Wx ⟨e, rfl, hT⟩ hcl hk hd
                have hL5 : L 5 = true := by have h := hd; simp [Region.binds] at h; simp [h]
                rw [if_pos (by simp [Region.wanted])]
                refine opIn_valueW (by intro c h; cases h) (v := .bool true) (w' := Wx) (by simp [execOp, go_sem, frame_tmp (k19 _) hL5 (Nat.lt_of_lt_of_eq (by decide : 19 < 49) hsz.symm)]) ⟨e, frame_put (k20 _) (q20 _), ?_⟩
                simpa [upd] using hT
              · rintro L _ Wx ⟨e, rfl, hT⟩ hcl hk hd
                have hL6 : L 6 = true := by have h := hd; simp [Region.binds] at h; simp [h]
                rw [if_pos (by simp [Region.wanted, yielded, frame_tmp (k20 _) hL6 (Nat.lt_of_lt_of_eq (by decide : 20 < 49) hsz.symm)])]
                refine opIn_valueW (by intro c h; cases h) (v := .pointer (some ⟨b, off + q * 14, none⟩)) (w' := Wx) (by simp [execOp, go_sem, frame_tout (n5 _) u5]) ⟨e, frame_put (k21 _) (q21 _), ?_⟩
                simpa [upd] using hT
              · rintro L _ Wx ⟨e, rfl, hT⟩ hcl hk hd
                have hL6 : L 6 = true := by have h := hd; simp [Region.binds] at h; simp [h]
                have hL7 : L 7 = true := by have h := hd; simp [Region.binds] at h; simp [h]
                rw [if_pos (by simp [Region.wanted, yielded, frame_tmp (k20 _) hL6 (Nat.lt_of_lt_of_eq (by decide : 20 < 49) hsz.symm)])]
                refine opIn_valueW (by intro c h; cases h) (v := .pointer (some ⟨b, off + q * 14, none⟩)) (w' := Wx) (by simp [execOp, go_sem, frame_tmp (k21 _) hL7 (Nat.lt_of_lt_of_eq (by decide : 21 < 49) hsz.symm)]) ⟨e, frame_put (k22 _) (q22 _), ?_⟩
                simpa [upd] using hT
              · rintro L _ Wx ⟨e, rfl, hT⟩ hcl hk hd
                have hL6 : L 6 = true := by have h := hd; simp [Region.binds] at h; simp [h]
                have hL8 : L 8 = true := by have h := hd; simp [Region.binds] at h; simp [h]
                rw [if_pos (by simp [Region.wanted, yielded, frame_tmp (k20 _) hL6 (Nat.lt_of_lt_of_eq (by decide : 20 < 49) hsz.symm)])]
                refine opIn_valueW (by intro c h; cases h) (v := .pointer (some ⟨b, off + q * 14, none⟩)) (w' := Wx) (by simp [execOp, go_sem, frame_tmp (k22 _) hL8 (Nat.lt_of_lt_of_eq (by decide : 22 < 49) hsz.symm)]) ⟨e, frame_put (k23 _) (q23 _), ?_⟩
                simpa [upd] using hT
              · rintro L _ Wx ⟨e, rfl, hT⟩ hcl hk hd
                have hL6 : L 6 = true := by have h := hd; simp [Region.binds] at h; simp [h]
                have hL9 : L 9 = true := by have h := hd; simp [Region.binds] at h; simp [h]
                have hN : L 31 = false := by
                  cases hh : L 31 with
                  | false => rfl
                  | true =>
                    have h20 := hcl 31 _ rfl (by simp [hh])
                    simp [Region.binds] at h20
                    have h19 := hcl 20 _ rfl (by simp [h20])
                    simp [Region.binds] at h19
                    have h18 := hcl 19 _ rfl (by simp [h19])
                    simp [Region.binds] at h18
                    have h12 := hcl 18 _ rfl (by simp [h18])
                    simp [Region.binds] at h12
                    have h11 := hcl 12 _ rfl (by simp [h12])
                    simp [Region.binds] at h11
                    have h10 := hcl 11 _ rfl (by simp [h11])
                    simp [Region.binds] at h10
                    simp [hk] at h10
                rw [if_pos (by simp [Region.wanted, yielded, frame_tmp (k20 _) hL6 (Nat.lt_of_lt_of_eq (by decide : 20 < 49) hsz.symm)])]
                refine opIn_valueW (by intro c h; cases h) (v := .int .i8 x.k) (w' := Wx) (by simp [execOp, go_sem, frame_tmp (k23 _) hL9 (Nat.lt_of_lt_of_eq (by decide : 23 < 49) hsz.symm), hT.1 hN, c0]) ⟨e, frame_put (k24 _) (q24 _), ?_⟩
                simpa [upd] using hT
              · rintro L _ Wx ⟨e, rfl, hT⟩ hcl hk hd
                have hL6 : L 6 = true := by have h := hd; simp [Region.binds] at h; simp [h]
                have hL10 : L 10 = true := by have h := hd; simp [Region.binds] at h; simp [h]
                rw [if_pos (by simp [Region.wanted, yielded, frame_tmp (k20 _) hL6 (Nat.lt_of_lt_of_eq (by decide : 20 < 49) hsz.symm)])]
                refine opIn_valueW (by intro c h; cases h) (v := .bool false) (w' := Wx) (by simp [execOp, go_sem, frame_tmp (k24 _) hL10 (Nat.lt_of_lt_of_eq (by decide : 24 < 49) hsz.symm), e1]) ⟨e, frame_put (k25 _) (q25 _), ?_⟩
                simpa [upd] using hT
              · rintro L _ Wx ⟨e, rfl, hT⟩ hcl hk hd
                have hL6 : L 6 = true := by have h := hd; simp [Region.binds] at h; simp [h]
                have hL11 : L 11 = true := by have h := hd; simp [Region.binds] at h; simp [h]
                rw [if_pos (by simp [Region.wanted, yielded, frame_tmp (k20 _) hL6 (Nat.lt_of_lt_of_eq (by decide : 20 < 49) hsz.symm)])]
                refine opIn_valueW (by intro c h; cases h) (v := .bool false) (w' := Wx) (by simp [execOp, go_sem, frame_tmp (k25 _) hL11 (Nat.lt_of_lt_of_eq (by decide : 25 < 49) hsz.symm)]) ⟨e, frame_put (k26 _) (q26 _), ?_⟩
                simpa [upd] using hT
              · rintro L _ Wx ⟨e, rfl, hT⟩ hcl hk hd
                have hL12 : L 12 = true := by have h := hd; simp [Region.binds] at h; simp [h]
                rw [if_pos (by simp [Region.wanted, yielded, frame_tmp (k26 _) hL12 (Nat.lt_of_lt_of_eq (by decide : 26 < 49) hsz.symm)])]
                refine opIn_valueW (by intro c h; cases h) (v := .pointer (some ⟨b, off + q * 14, none⟩)) (w' := Wx) (by simp [execOp, go_sem, frame_tout (n5 _) u5]) ⟨e, frame_put (k27 _) (q27 _), ?_⟩
                simpa [upd] using hT
              · rintro L _ Wx ⟨e, rfl, hT⟩ hcl hk hd
                have hL12 : L 12 = true := by have h := hd; simp [Region.binds] at h; simp [h]
                have hL13 : L 13 = true := by have h := hd; simp [Region.binds] at h; simp [h]
                rw [if_pos (by simp [Region.wanted, yielded, frame_tmp (k26 _) hL12 (Nat.lt_of_lt_of_eq (by decide : 26 < 49) hsz.symm)])]
                refine opIn_valueW (by intro c h; cases h) (v := .pointer (some ⟨b, off + q * 14, none⟩)) (w' := Wx) (by simp [execOp, go_sem, frame_tmp (k27 _) hL13 (Nat.lt_of_lt_of_eq (by decide : 27 < 49) hsz.symm)]) ⟨e, frame_put (k28 _) (q28 _), ?_⟩
                simpa [upd] using hT
              · rintro L _ Wx ⟨e, rfl, hT⟩ hcl hk hd
                have hL12 : L 12 = true := by have h := hd; simp [Region.binds] at h; simp [h]
                have hL14 : L 14 = true := by have h := hd; simp [Region.binds] at h; simp [h]
                rw [if_pos (by simp [Region.wanted, yielded, frame_tmp (k26 _) hL12 (Nat.lt_of_lt_of_eq (by decide : 26 < 49) hsz.symm)])]
                refine opIn_valueW (by intro c h; cases h) (v := .pointer (some ⟨b, off + q * 14, none⟩)) (w' := Wx) (by simp [execOp, go_sem, frame_tmp (k28 _) hL14 (Nat.lt_of_lt_of_eq (by decide : 28 < 49) hsz.symm)]) ⟨e, frame_put (k29 _) (q29 _), ?_⟩
                simpa [upd] using hT
              · rintro L _ Wx ⟨e, rfl, hT⟩ hcl hk hd
                have hL12 : L 12 = true := by have h := hd; simp [Region.binds] at h; simp [h]
                have hL15 : L 15 = true := by have h := hd; simp [Region.binds] at h; simp [h]
                have hN : L 31 = false := by
                  cases hh : L 31 with
                  | false => rfl
                  | true =>
                    have h20 := hcl 31 _ rfl (by simp [hh])
                    simp [Region.binds] at h20
                    have h19 := hcl 20 _ rfl (by simp [h20])
                    simp [Region.binds] at h19
                    have h18 := hcl 19 _ rfl (by simp [h19])
                    simp [Region.binds] at h18
                    have h17 := hcl 18 _ rfl (by simp [h18])
                    simp [Region.binds] at h17
                    have h16 := hcl 17 _ rfl (by simp [h17])
                    simp [Region.binds] at h16
                    simp [hk] at h16
                rw [if_pos (by simp [Region.wanted, yielded, frame_tmp (k26 _) hL12 (Nat.lt_of_lt_of_eq (by decide : 26 < 49) hsz.symm)])]
                refine opIn_valueW (by intro c h; cases h) (v := .int .i8 x.k) (w' := Wx) (by simp [execOp, go_sem, frame_tmp (k29 _) hL15 (Nat.lt_of_lt_of_eq (by decide : 29 < 49) hsz.symm), hT.1 hN, c0]) ⟨e, frame_put (k30 _) (q30 _), ?_⟩
                simpa [upd] using hT
              · rintro L _ Wx ⟨e, rfl, hT⟩ hcl hk hd
                have hL12 : L 12 = true := by have h := hd; simp [Region.binds] at h; simp [h]
                have hL16 : L 16 = true := by have h := hd; simp [Region.binds] at h; simp [h]
                rw [if_pos (by simp [Region.wanted, yielded, frame_tmp (k26 _) hL12 (Nat.lt_of_lt_of_eq (by decide : 26 < 49) hsz.symm)])]
                refine opIn_valueW (by intro c h; cases h) (v := .bool true) (w' := Wx) (by simp [execOp, go_sem, frame_tmp (k30 _) hL16 (Nat.lt_of_lt_of_eq (by decide : 30 < 49) hsz.symm), e2]) ⟨e, frame_put (k31 _) (q31 _), ?_⟩
                simpa [upd] using hT
              · rintro L _ Wx ⟨e, rfl, hT⟩ hcl hk hd
                have hL6 : L 6 = true := by have h := hd; simp [Region.binds] at h; simp [h]
                have hL12 : L 12 = true := by have h := hd; simp [Region.binds] at h; simp [h]
                have hL17 : L 17 = true := by have h := hd; simp [Region.binds] at h; simp [h]
                rw [if_pos (by simp [Region.wanted, yielded, frame_tmp (k20 _) hL6 (Nat.lt_of_lt_of_eq (by decide : 20 < 49) hsz.symm)])]
                refine opIn_valueW (by intro c h; cases h) (v := .bool true) (w' := Wx) (by simp [execOp, go_sem, frame_tmp (k26 _) hL12 (Nat.lt_of_lt_of_eq (by decide : 26 < 49) hsz.symm), frame_tmp (k31 _) hL17 (Nat.lt_of_lt_of_eq (by decide : 31 < 49) hsz.symm)]) ⟨e, frame_put (k32 _) (q32 _), ?_⟩
                simpa [upd] using hT
              · rintro L _ Wx ⟨e, rfl, hT⟩ hcl hk hd
                have hL6 : L 6 = true := by have h := hd; simp [Region.binds] at h; simp [h]
                have hL18 : L 18 = true := by have h := hd; simp [Region.binds] at h; simp [h]
                rw [if_pos (by simp [Region.wanted])]
                refine opIn_valueW (by intro c h; cases h) (v := .bool true) (w' := Wx) (by simp [execOp, go_sem, frame_tmp (k20 _) hL6 (Nat.lt_of_lt_of_eq (by decide : 20 < 49) hsz.symm), frame_tmp (k32 _) hL18 (Nat.lt_of_lt_of_eq (by decide : 32 < 49) hsz.symm)]) ⟨e, frame_put (k33 _) (q33 _), ?_⟩
                simpa [upd] using hT
              · rintro L _ Wx ⟨e, rfl, hT⟩ hcl hk hd
                have hL19 : L 19 = true := by have h := hd; simp [Region.binds] at h; simp [h]
                rw [if_pos (by simp [Region.wanted])]
                refine opIn_valueW (by intro c h; cases h) (v := .bool true) (w' := Wx) (by simp [execOp, go_sem, frame_tmp (k33 _) hL19 (Nat.lt_of_lt_of_eq (by decide : 33 < 49) hsz.symm)]) ⟨e, frame_put (k34 _) (q34 _), ?_⟩
                simpa [upd] using hT
              · rintro L _ Wx ⟨e, rfl, hT⟩ hcl hk hd
                have hL20 : L 20 = true := by have h := hd; simp [Region.binds] at h; simp [h]
                rw [if_pos (by simp [Region.wanted, yielded, frame_tmp (k34 _) hL20 (Nat.lt_of_lt_of_eq (by decide : 34 < 49) hsz.symm)])]
                refine opIn_valueW (by intro c h; cases h) (v := .func (.yield lp) #[] #[]) (w' := Wx) (by simp [execOp, go_sem, frame_tout (n0 _) u0]) ⟨e, frame_put (k35 _) (q35 _), ?_⟩
                simpa [upd] using hT
              · rintro L _ Wx ⟨e, rfl, hT⟩ hcl hk hd
                have hL20 : L 20 = true := by have h := hd; simp [Region.binds] at h; simp [h]
                rw [if_pos (by simp [Region.wanted, yielded, frame_tmp (k34 _) hL20 (Nat.lt_of_lt_of_eq (by decide : 34 < 49) hsz.symm)])]
                refine opIn_valueW (by intro c h; cases h) (v := .pointer (some ⟨b, off + q * 14, none⟩)) (w' := Wx) (by simp [execOp, go_sem, frame_tout (n5 _) u5]) ⟨e, frame_put (k36 _) (q36 _), ?_⟩
                simpa [upd] using hT
              · rintro L _ Wx ⟨e, rfl, hT⟩ hcl hk hd
                have hL20 : L 20 = true := by have h := hd; simp [Region.binds] at h; simp [h]
                have hL22 : L 22 = true := by have h := hd; simp [Region.binds] at h; simp [h]
                rw [if_pos (by simp [Region.wanted, yielded, frame_tmp (k34 _) hL20 (Nat.lt_of_lt_of_eq (by decide : 34 < 49) hsz.symm)])]
                refine opIn_valueW (by intro c h; cases h) (v := .pointer (some ⟨b, off + q * 14, none⟩)) (w' := Wx) (by simp [execOp, go_sem, frame_tmp (k36 _) hL22 (Nat.lt_of_lt_of_eq (by decide : 36 < 49) hsz.symm)]) ⟨e, frame_put (k37 _) (q37 _), ?_⟩
                simpa [upd] using hT
              · rintro L _ Wx ⟨e, rfl, hT⟩ hcl hk hd
                have hL20 : L 20 = true := by have h := hd; simp [Region.binds] at h; simp [h]
                have hL23 : L 23 = true := by have h := hd; simp [Region.binds] at h; simp [h]
                rw [if_pos (by simp [Region.wanted, yielded, frame_tmp (k34 _) hL20 (Nat.lt_of_lt_of_eq (by decide : 34 < 49) hsz.symm)])]
                refine opIn_valueW (by intro c h; cases h) (v := .pointer (some ⟨b, off + q * 14 + 4, none⟩)) (w' := Wx) (by simp [execOp, go_sem, frame_tmp (k37 _) hL23 (Nat.lt_of_lt_of_eq (by decide : 37 < 49) hsz.symm)]) ⟨e, frame_put (k38 _) (q38 _), ?_⟩
                simpa [upd] using hT
              · rintro L _ Wx ⟨e, rfl, hT⟩ hcl hk hd
                have hL20 : L 20 = true := by have h := hd; simp [Region.binds] at h; simp [h]
                have hL24 : L 24 = true := by have h := hd; simp [Region.binds] at h; simp [h]
                have hN : L 31 = false := by
                  cases hh : L 31 with
                  | false => rfl
                  | true =>
                    have h29 := hcl 31 _ rfl (by simp [hh])
                    simp [Region.binds] at h29
                    have h26 := hcl 29 _ rfl (by simp [h29])
                    simp [Region.binds] at h26
                    have h25 := hcl 26 _ rfl (by simp [h26])
                    simp [Region.binds] at h25
                    simp [hk] at h25
                rw [if_pos (by simp [Region.wanted, yielded, frame_tmp (k34 _) hL20 (Nat.lt_of_lt_of_eq (by decide : 34 < 49) hsz.symm)])]
                refine opIn_valueW (by intro c h; cases h) (v := .int .i64 x.b) (w' := Wx) (by simp [execOp, go_sem, frame_tmp (k38 _) hL24 (Nat.lt_of_lt_of_eq (by decide : 38 < 49) hsz.symm), hT.1 hN, c4]) ⟨e, frame_put (k39 _) (q39 _), ?_⟩
                simpa [upd] using hT
              · rintro L _ Wx ⟨e, rfl, hT⟩ hcl hk hd
                have hL20 : L 20 = true := by have h := hd; simp [Region.binds] at h; simp [h]
                have hL25 : L 25 = true := by have h := hd; simp [Region.binds] at h; simp [h]
                rw [if_pos (by simp [Region.wanted, yielded, frame_tmp (k34 _) hL20 (Nat.lt_of_lt_of_eq (by decide : 34 < 49) hsz.symm)])]
                refine opIn_valueW (by intro c h; cases h) (v := flV x.b) (w' := Wx) (by simp [execOp, go_sem, frame_tmp (k39 _) hL25 (Nat.lt_of_lt_of_eq (by decide : 39 < 49) hsz.symm), run_to_float]) ⟨e, frame_put (k40 _) (q40 _), ?_⟩
                simpa [upd] using hT
              · rintro L _ Wx ⟨e, rfl, hT⟩ hcl hk hd
                have hL20 : L 20 = true := by have h := hd; simp [Region.binds] at h; simp [h]
                rw [if_pos (by simp [Region.wanted, yielded, frame_tmp (k34 _) hL20 (Nat.lt_of_lt_of_eq (by decide : 34 < 49) hsz.symm)])]
                refine opIn_valueW (by intro c h; cases h) (v := .int .i64 (q : Int)) (w' := Wx) (by simp [execOp, go_sem, frame_tout (n4 _) u4]) ⟨e, frame_put (k41 _) (q41 _), ?_⟩
                simpa [upd] using hT
              · rintro L _ Wx ⟨e, rfl, hT⟩ hcl hk hd
                have hL20 : L 20 = true := by have h := hd; simp [Region.binds] at h; simp [h]
                have hL27 : L 27 = true := by have h := hd; simp [Region.binds] at h; simp [h]
                rw [if_pos (by simp [Region.wanted, yielded, frame_tmp (k34 _) hL20 (Nat.lt_of_lt_of_eq (by decide : 34 < 49) hsz.symm)])]
                refine opIn_valueW (by intro c h; cases h) (v := flV (q : Int)) (w' := Wx) (by simp [execOp, go_sem, frame_tmp (k41 _) hL27 (Nat.lt_of_lt_of_eq (by decide : 41 < 49) hsz.symm), run_to_float]) ⟨e, frame_put (k42 _) (q42 _), ?_⟩
                simpa [upd] using hT
              · rintro L _ Wx ⟨e, rfl, hT⟩ hcl hk hd
                have hL20 : L 20 = true := by have h := hd; simp [Region.binds] at h; simp [h]
                have hL26 : L 26 = true := by have h := hd; simp [Region.binds] at h; simp [h]
                have hL28 : L 28 = true := by have h := hd; simp [Region.binds] at h; simp [h]
                rw [if_pos (by simp [Region.wanted, yielded, frame_tmp (k34 _) hL20 (Nat.lt_of_lt_of_eq (by decide : 34 < 49) hsz.symm)])]
                refine opIn_valueW (by intro c h; cases h) (v := cxV x.b (q : Int)) (w' := Wx) (by simp [go_sem, frame_tmp (k40 _) hL26 (Nat.lt_of_lt_of_eq (by decide : 40 < 49) hsz.symm), frame_tmp (k42 _) hL28 (Nat.lt_of_lt_of_eq (by decide : 42 < 49) hsz.symm), run_complex]) ⟨e, frame_put (k43 _) (q43 _), ?_⟩
                simpa [upd] using hT
              · rintro L _ Wx ⟨e, rfl, hT⟩ hcl hk hd
                have hL20 : L 20 = true := by have h := hd; simp [Region.binds] at h; simp [h]
                rw [if_pos (by simp [Region.wanted, yielded, frame_tmp (k34 _) hL20 (Nat.lt_of_lt_of_eq (by decide : 34 < 49) hsz.symm)])]
                refine opIn_valueW (by intro c h; cases h) (v := .pointer (some ⟨b, off + q * 14, none⟩)) (w' := Wx) (by simp [execOp, go_sem, frame_tout (n5 _) u5]) ⟨e, frame_put (k44 _) (q44 _), ?_⟩
                simpa [upd] using hT
              · rintro L _ Wx ⟨e, rfl, hT⟩ hcl hk hd
                have hL20 : L 20 = true := by have h := hd; simp [Region.binds] at h; simp [h]
                have hL21 : L 21 = true := by have h := hd; simp [Region.binds] at h; simp [h]
                have hL29 : L 29 = true := by have h := hd; simp [Region.binds] at h; simp [h]
                have hL30 : L 30 = true := by have h := hd; simp [Region.binds] at h; simp [h]
                rw [if_pos (by simp [Region.wanted, yielded, frame_tmp (k34 _) hL20 (Nat.lt_of_lt_of_eq (by decide : 34 < 49) hsz.symm)])]
                obtain rfl : Wx = w0 := hT.1 hk
                have hN32 : L 32 = false := by
                  cases hh : L 32 with
                  | false => rfl
                  | true =>
                    have h31 := hcl 32 _ rfl (by simp [hh])
                    simp [Region.binds] at h31
                    simp [hk] at h31
                have hN33 : L 33 = false := by
                  cases hh : L 33 with
                  | false => rfl
                  | true =>
                    have h32 := hcl 33 _ rfl (by simp [hh])
                    simp [Region.binds] at h32
                    simp [hN32] at h32
                refine opIn_round (by intro c h; cases h) (l := lp) (f := fn) (tmps := tmps) (assign := assign) (body := body) (by simp [go_sem, frame_tmp (k35 _) hL21 (Nat.lt_of_lt_of_eq (by decide : 35 < 49) hsz.symm), frame_tmp (k43 _) hL29 (Nat.lt_of_lt_of_eq (by decide : 43 < 49) hsz.symm), frame_tmp (k44 _) hL30 (Nat.lt_of_lt_of_eq (by decide : 44 < 49) hsz.symm), hy]) hR ?_
                rintro e2 W3 (⟨rfl, hJ3, hk3⟩ | ⟨rfl, hJx3⟩)
                · refine ⟨_, rfl, true, ?_, ?_⟩
                  · rw [← frame_put (k45 true) (q45 true)]
                    congr 1
                    rw [hps]
                    exact frame_swap (.cons (fun _ => rfl) (.cons (fun _ => rfl) (.cons (fun _ => rfl) (.cons (fun _ => rfl) (.cons (fun _ => rfl) (.cons (fun _ => rfl) (.cons (fun _ => rfl) (.cons (fun _ => rfl) (.cons (fun _ => rfl) (.cons (fun _ => rfl) (.cons (fun _ => rfl) (.cons (fun _ => rfl) (.cons (fun _ => rfl) (.cons (fun _ => rfl) (.cons (fun _ => rfl) (.cons (fun _ => rfl) (.cons (fun _ => rfl) (.cons (fun _ => rfl) (.cons (fun _ => rfl) (.cons (fun _ => rfl) (.cons (fun _ => rfl) (.cons (fun _ => rfl) (.cons (fun _ => rfl) (.cons (fun _ => rfl) (.cons (fun _ => rfl) (.cons (fun _ => rfl) (.cons (fun _ => rfl) (.cons (fun _ => rfl) (.cons (fun _ => rfl) (.cons (fun _ => rfl) (.cons (fun _ => rfl) (.cons (fun h => by rw [hk] at h; cases h) (.cons (fun h => by rw [hN32] at h; cases h) (.cons (fun h => by rw [hN33] at h; cases h) .nil))))))))))))))))))))))))))))))))))
                  · exact ⟨fun h => by simp [upd] at h, fun _ => .inl ⟨rfl, hJ3, hk3⟩⟩
                · refine ⟨_, rfl, false, ?_, ?_⟩
                  · rw [← frame_put (k45 false) (q45 false)]
                    congr 1
                    rw [hps]
                    exact frame_swap (.cons (fun _ => rfl) (.cons (fun _ => rfl) (.cons (fun _ => rfl) (.cons (fun _ => rfl) (.cons (fun _ => rfl) (.cons (fun _ => rfl) (.cons (fun _ => rfl) (.cons (fun _ => rfl) (.cons (fun _ => rfl) (.cons (fun _ => rfl) (.cons (fun _ => rfl) (.cons (fun _ => rfl) (.cons (fun _ => rfl) (.cons (fun _ => rfl) (.cons (fun _ => rfl) (.cons (fun _ => rfl) (.cons (fun _ => rfl) (.cons (fun _ => rfl) (.cons (fun _ => rfl) (.cons (fun _ => rfl) (.cons (fun _ => rfl) (.cons (fun _ => rfl) (.cons (fun _ => rfl) (.cons (fun _ => rfl) (.cons (fun _ => rfl) (.cons (fun _ => rfl) (.cons (fun _ => rfl) (.cons (fun _ => rfl) (.cons (fun _ => rfl) (.cons (fun _ => rfl) (.cons (fun _ => rfl) (.cons (fun h => by rw [hk] at h; cases h) (.cons (fun h => by rw [hN32] at h; cases h) (.cons (fun h => by rw [hN33] at h; cases h) .nil))))))))))))))))))))))))))))))))))
                  · exact ⟨fun h => by simp [upd] at h, fun _ => .inr ⟨rfl, hJx3⟩⟩
              · rintro L _ Wx ⟨e, rfl, hT⟩ hcl hk hd
                have hL20 : L 20 = true := by have h := hd; simp [Region.binds] at h; simp [h]
                have hL31 : L 31 = true := by have h := hd; simp [Region.binds] at h; simp [h]
                rw [if_pos (by simp [Region.wanted, yielded, frame_tmp (k34 _) hL20 (Nat.lt_of_lt_of_eq (by decide : 34 < 49) hsz.symm)])]
                refine opIn_valueW (by intro c h; cases h) (v := .bool !e) (w' := Wx) (by simp [execOp, go_sem, frame_tmp (k45 _) hL31 (Nat.lt_of_lt_of_eq (by decide : 45 < 49) hsz.symm)]) ⟨e, frame_put (k46 _) (q46 _), ?_⟩
                simpa [upd] using hT
              · rintro L _ Wx ⟨e, rfl, hT⟩ hcl hk hd
                have hL20 : L 20 = true := by have h := hd; simp [Region.binds] at h; simp [h]
                have hL32 : L 32 = true := by have h := hd; simp [Region.binds] at h; simp [h]
                rw [if_pos (by simp [Region.wanted])]
                refine opIn_valueW (by intro c h; cases h) (v := .bool !e) (w' := Wx) (by simp [execOp, go_sem, frame_tmp (k34 _) hL20 (Nat.lt_of_lt_of_eq (by decide : 34 < 49) hsz.symm), frame_tmp (k46 _) hL32 (Nat.lt_of_lt_of_eq (by decide : 46 < 49) hsz.symm)]) ⟨e, frame_put (k47 _) (q47 _), ?_⟩
                simpa [upd] using hT
            · rintro e L W' hT hall
              have hA31 : L 31 = true := hall 31 (by simp)
              simp only [putAll, Act.put, List.setIfInBounds_toArray, List.set_cons_succ, List.set_cons_zero]
              rcases hT.2 hA31 with ⟨rfl, hJ3, hk3⟩ | ⟨rfl, hJx3⟩
              · have HJ3 := Lib.hid hJ3
                have HK3 := Lib.hid hk3
                clear hT hall hJ3 hk3
                gi_wp2
                go_roundw
                case rel => exact ⟨q + 1, _, by omega, by go_num, HJ3.out, (HKD.out).trans HK3.out, HNX.out⟩
                case measure => simp [intOf]; omega
              · have HJx3 := Lib.hid hJx3
                clear hT hall hJx3
                gi_wp2
                refine bodyPost_ret (results_none rfl _ _ _) rfl ?_
                exact ⟨⟨_, rfl⟩, .inr ⟨_, ⟨_, HNX.out⟩, HJx3.out⟩⟩
            -- END NB
        · have e1 : (x.k == 1) = false := by simp; omega
          have e2 : (x.k == 2) = false := by simp; omega
          have HS : Hid (nmSteps nm (l.drop q) q = nmSteps nm (l.drop (q + 1)) (q + 1)) := by show _ = _; rw [drop_cons HX.out, nmSteps, if_neg (fun h => hk12 h.2)]
          clear hk12 hit
          -- BEGIN NC
          refine wpIn_region_frame mixed (fun _ => trivial) (by kernel_rfl) [(0, 14, .pointer (some ⟨b, off + q * 14, none⟩)), (1, 15, .pointer (some ⟨b, off + q * 14, none⟩)), (2, 16, .pointer (some ⟨b, off + q * 14 + 1, none⟩)), (3, 17, .agg #[.int .i64 x.n.s, .int .i64 x.n.i, .int .i64 x.n.t]), (4, 18, .agg #[.int .i64 nm.s, .int .i64 nm.i, .int .i64 nm.t]), (5, 19, .bool true), (6, 20, .bool true), (7, 21, .pointer (some ⟨b, off + q * 14, none⟩)), (8, 22, .pointer (some ⟨b, off + q * 14, none⟩)), (9, 23, .pointer (some ⟨b, off + q * 14, none⟩)), (10, 24, .int .i8 x.k), (11, 25, .bool false), (12, 26, .bool false), (13, 27, .pointer (some ⟨b, off + q * 14, none⟩)), (14, 28, .pointer (some ⟨b, off + q * 14, none⟩)), (15, 29, .pointer (some ⟨b, off + q * 14, none⟩)), (16, 30, .int .i8 x.k), (17, 31, .bool false), (18, 32, .bool false), (19, 33, .bool false), (20, 34, .bool false), (21, 35, undef), (22, 36, undef), (23, 37, undef), (24, 38, undef), (25, 39, undef), (26, 40, undef), (27, 41, undef), (28, 42, undef), (29, 43, undef), (30, 44, undef), (31, 45, undef), (32, 46, undef), (33, 47, .bool false)] (fun L Wx => Wx = w0) ?_ ?_ (by rfl) (by rfl) ?_
          · exact HW0.out
          · intro a0 ps ha0 hps
            have hsz : a0.tmps.size = 49 := by rw [ha0]; rfl
            have u0 : a0.tmps[0]? = some (.func (.yield lp) #[] #[]) := by rw [ha0]; rfl
            have u2 : a0.tmps[2]? = some (.pointer (some ⟨Bn, 0, none⟩)) := by rw [ha0]; rfl
            have u4 : a0.tmps[4]? = some (.int .i64 (q : Int)) := by rw [ha0]; rfl
            have u5 : a0.tmps[5]? = some (.pointer (some ⟨b, off + q * 14, none⟩)) := by rw [ha0]; rfl
            have n0 : slotOf ps 0 = none := by rw [hps]; rfl
            have n2 : slotOf ps 2 = none := by rw [hps]; rfl
            have n4 : slotOf ps 4 = none := by rw [hps]; rfl
            have n5 : slotOf ps 5 = none := by rw [hps]; rfl
            have k14 : slotOf ps 14 = some (0, .pointer (some ⟨b, off + q * 14, none⟩)) := by rw [hps]; rfl
            have q14 : keysOK ps 0 14 = true := by rw [hps]; rfl
            have k15 : slotOf ps 15 = some (1, .pointer (some ⟨b, off + q * 14, none⟩)) := by rw [hps]; rfl
            have q15 : keysOK ps 1 15 = true := by rw [hps]; rfl
            have k16 : slotOf ps 16 = some (2, .pointer (some ⟨b, off + q * 14 + 1, none⟩)) := by rw [hps]; rfl
            have q16 : keysOK ps 2 16 = true := by rw [hps]; rfl
            have k17 : slotOf ps 17 = some (3, .agg #[.int .i64 x.n.s, .int .i64 x.n.i, .int .i64 x.n.t]) := by rw [hps]; rfl
            have q17 : keysOK ps 3 17 = true := by rw [hps]; rfl
            have k18 : slotOf ps 18 = some (4, .agg #[.int .i64 nm.s, .int .i64 nm.i, .int .i64 nm.t]) := by rw [hps]; rfl
            have q18 : keysOK ps 4 18 = true := by rw [hps]; rfl
            have k19 : slotOf ps 19 = some (5, .bool true) := by rw [hps]; rfl
            have q19 : keysOK ps 5 19 = true := by rw [hps]; rfl
            have k20 : slotOf ps 20 = some (6, .bool true) := by rw [hps]; rfl
            have q20 : keysOK ps 6 20 = true := by rw [hps]; rfl
            have k21 : slotOf ps 21 = some (7, .pointer (some ⟨b, off + q * 14, none⟩)) := by rw [hps]; rfl
            have q21 : keysOK ps 7 21 = true := by rw [hps]; rfl
            have k22 : slotOf ps 22 = some (8, .pointer (some ⟨b, off + q * 14, none⟩)) := by rw [hps]; rfl
            have q22 : keysOK ps 8 22 = true := by rw [hps]; rfl
            have k23 : slotOf ps 23 = some (9, .pointer (some ⟨b, off + q * 14, none⟩)) := by rw [hps]; rfl
            have q23 : keysOK ps 9 23 = true := by rw [hps]; rfl
            have k24 : slotOf ps 24 = some (10, .int .i8 x.k) := by rw [hps]; rfl
            have q24 : keysOK ps 10 24 = true := by rw [hps]; rfl
            have k25 : slotOf ps 25 = some (11, .bool false) := by rw [hps]; rfl
            have q25 : keysOK ps 11 25 = true := by rw [hps]; rfl
            have k26 : slotOf ps 26 = some (12, .bool false) := by rw [hps]; rfl
            have q26 : keysOK ps 12 26 = true := by rw [hps]; rfl
            have k27 : slotOf ps 27 = some (13, .pointer (some ⟨b, off + q * 14, none⟩)) := by rw [hps]; rfl
            have q27 : keysOK ps 13 27 = true := by rw [hps]; rfl
            have k28 : slotOf ps 28 = some (14, .pointer (some ⟨b, off + q * 14, none⟩)) := by rw [hps]; rfl
            have q28 : keysOK ps 14 28 = true := by rw [hps]; rfl
            have k29 : slotOf ps 29 = some (15, .pointer (some ⟨b, off + q * 14, none⟩)) := by rw [hps]; rfl
            have q29 : keysOK ps 15 29 = true := by rw [hps]; rfl
            have k30 : slotOf ps 30 = some (16, .int .i8 x.k) := by rw [hps]; rfl
            have q30 : keysOK ps 16 30 = true := by rw [hps]; rfl
            have k31 : slotOf ps 31 = some (17, .bool false) := by rw [hps]; rfl
            have q31 : keysOK ps 17 31 = true := by rw [hps]; rfl
            have k32 : slotOf ps 32 = some (18, .bool false) := by rw [hps]; rfl
            have q32 : keysOK ps 18 32 = true := by rw [hps]; rfl
            have k33 : slotOf ps 33 = some (19, .bool false) := by rw [hps]; rfl
            have q33 : keysOK ps 19 33 = true := by rw [hps]; rfl
            have k34 : slotOf ps 34 = some (20, .bool false) := by rw [hps]; rfl
            have q34 : keysOK ps 20 34 = true := by rw [hps]; rfl
            have k35 : slotOf ps 35 = some (21, undef) := by rw [hps]; rfl
            have q35 : keysOK ps 21 35 = true := by rw [hps]; rfl
            have k36 : slotOf ps 36 = some (22, undef) := by rw [hps]; rfl
            have q36 : keysOK ps 22 36 = true := by rw [hps]; rfl
            have k37 : slotOf ps 37 = some (23, undef) := by rw [hps]; rfl
            have q37 : keysOK ps 23 37 = true := by rw [hps]; rfl
            have k38 : slotOf ps 38 = some (24, undef) := by rw [hps]; rfl
            have q38 : keysOK ps 24 38 = true := by rw [hps]; rfl
            have k39 : slotOf ps 39 = some (25, undef) := by rw [hps]; rfl
            have q39 : keysOK ps 25 39 = true := by rw [hps]; rfl
            have k40 : slotOf ps 40 = some (26, undef) := by rw [hps]; rfl
            have q40 : keysOK ps 26 40 = true := by rw [hps]; rfl
            have k41 : slotOf ps 41 = some (27, undef) := by rw [hps]; rfl
            have q41 : keysOK ps 27 41 = true := by rw [hps]; rfl
            have k42 : slotOf ps 42 = some (28, undef) := by rw [hps]; rfl
            have q42 : keysOK ps 28 42 = true := by rw [hps]; rfl
            have k43 : slotOf ps 43 = some (29, undef) := by rw [hps]; rfl
            have q43 : keysOK ps 29 43 = true := by rw [hps]; rfl
            have k44 : slotOf ps 44 = some (30, undef) := by rw [hps]; rfl
            have q44 : keysOK ps 30 44 = true := by rw [hps]; rfl
            have k45 : slotOf ps 45 = some (31, undef) := by rw [hps]; rfl
            have q45 : keysOK ps 31 45 = true := by rw [hps]; rfl
            have k46 : slotOf ps 46 = some (32, undef) := by rw [hps]; rfl
            have q46 : keysOK ps 32 46 = true := by rw [hps]; rfl
            have k47 : slotOf ps 47 = some (33, .bool false) := by rw [hps]; rfl
            have q47 : keysOK ps 33 47 = true := by rw [hps]; rfl
            clear ha0 hps
            refine ⟨?_, ?_, ?_, ?_, ?_, ?_, ?_, ?_, ?_, ?_, ?_, ?_, ?_, ?_, ?_, ?_, ?_, ?_, ?_, ?_, ?_, ?_, ?_, ?_, ?_, ?_, ?_, ?_, ?_, ?_, ?_, ?_, ?_, ?_, trivial⟩
            · rintro L _ Wx ⟨rfl, hT⟩ hcl hk hd
              rw [if_pos (by simp [Region.wanted])]
              refine opIn_valueW (by intro c h; cases h) (v := .pointer (some ⟨b, off + q * 14, none⟩)) (w' := Wx) (by simp [execOp, go_sem, frame_tout (n5) u5]) ⟨frame_put (k14) (q14), ?_⟩
              simpa [upd] using hT
            · rintro L _ Wx ⟨rfl, hT⟩ hcl hk hd
              have hL0 : L 0 = true := by have h := hd; simp [Region.binds] at h; simp [h]
              rw [if_pos (by simp [Region.wanted])]
              refine opIn_valueW (by intro c h; cases h) (v := .pointer (some ⟨b, off + q * 14, none⟩)) (w' := Wx) (by simp [execOp, go_sem, frame_tmp (k14) hL0 (Nat.lt_of_lt_of_eq (by decide : 14 < 49) hsz.symm)]) ⟨frame_put (k15) (q15), ?_⟩
              simpa [upd] using hT
            · rintro L _ Wx ⟨rfl, hT⟩ hcl hk hd
              have hL1 : L 1 = true := by have h := hd; simp [Region.binds] at h; simp [h]
              rw [if_pos (by simp [Region.wanted])]
              refine opIn_valueW (by intro c h; cases h) (v := .pointer (some ⟨b, off + q * 14 + 1, none⟩)) (w' := Wx) (by simp [execOp, go_sem, frame_tmp (k15) hL1 (Nat.lt_of_lt_of_eq (by decide : 15 < 49) hsz.symm)]) ⟨frame_put (k16) (q16), ?_⟩
              simpa [upd] using hT
            · rintro L _ Wx ⟨rfl, hT⟩ hcl hk hd
              have hL2 : L 2 = true := by have h := hd; simp [Region.binds] at h; simp [h]
              rw [if_pos (by simp [Region.wanted])]
              refine opIn_valueW (by intro c h; cases h) (v := .agg #[.int .i64 x.n.s, .int .i64 x.n.i, .int .i64 x.n.t]) (w' := Wx) (by simp [execOp, go_sem, frame_tmp (k16) hL2 (Nat.lt_of_lt_of_eq (by decide : 16 < 49) hsz.symm), hT, c1, c2, c3]) ⟨frame_put (k17) (q17), ?_⟩
              simpa [upd] using hT
            · rintro L _ Wx ⟨rfl, hT⟩ hcl hk hd
              rw [if_pos (by simp [Region.wanted])]
              refine opIn_valueW (by intro c h; cases h) (v := .agg #[.int .i64 nm.s, .int .i64 nm.i, .int .i64 nm.t]) (w' := Wx) (by simp [execOp, go_sem, frame_tout (n2) u2, hT, m0, m1, m2]) ⟨frame_put (k18) (q18), ?_⟩
              simpa [upd] using hT
            · rintro L _ Wx ⟨rfl, hT⟩ hcl hk hd
              have hL3 : L 3 = true := by have h := hd; simp [Region.binds] at h; simp [h]
              have hL4 : L 4 = true := by have h := hd; simp [Region.binds] at h; simp [h]
              rw [if_pos (by simp [Region.wanted])]
              refine opIn_valueW (by intro c h; cases h) (v := .bool true) (w' := Wx) (by simp [execOp, go_sem, frame_tmp (k17) hL3 (Nat.lt_of_lt_of_eq (by decide : 17 < 49) hsz.symm), frame_tmp (k18) hL4 (Nat.lt_of_lt_of_eq (by decide : 18 < 49) hsz.symm), hEq]) ⟨frame_put (k19) (q19), ?_⟩
              simpa [upd] using hT
            · rintro L _ Wx ⟨rfl, hT⟩ hcl hk hd
              have hL5 : L 5 = true := by have h := hd; simp [Region.binds] at h; simp [h]
              rw [if_pos (by simp [Region.wanted])]
              refine opIn_valueW (by intro c h; cases h) (v := .bool true) (w' := Wx) (by simp [execOp, go_sem, frame_tmp (k19) hL5 (Nat.lt_of_lt_of_eq (by decide : 19 < 49) hsz.symm)]) ⟨frame_put (k20) (q20), ?_⟩
              simpa [upd] using hT
            · rintro L _ Wx ⟨rfl, hT⟩ hcl hk hd
              have hL6 : L 6 = true := by have h := hd; simp [Region.binds] at h; simp [h]
              rw [if_pos (by simp [Region.wanted, yielded, frame_tmp (k20) hL6 (Nat.lt_of_lt_of_eq (by decide : 20 < 49) hsz.symm)])]
              refine opIn_valueW (by intro c h; cases h) (v := .pointer (some ⟨b, off + q * 14, none⟩)) (w' := Wx) (by simp [execOp, go_sem, frame_tout (n5) u5]) ⟨frame_put (k21) (q21), ?_⟩
              simpa [upd] using hT
            · rintro L _ Wx ⟨rfl, hT⟩ hcl hk hd
              have hL6 : L 6 = true := by have h := hd; simp [Region.binds] at h; simp [h]
              have hL7 : L 7 = true := by have h := hd; simp [Region.binds] at h; simp [h]
              rw [if_pos (by simp [Region.wanted, yielded, frame_tmp (k20) hL6 (Nat.lt_of_lt_of_eq (by decide : 20 < 49) hsz.symm)])]
              refine opIn_valueW (by intro c h; cases h) (v := .pointer (some ⟨b, off + q * 14, none⟩)) (w' := Wx) (by simp [execOp, go_sem, frame_tmp (k21) hL7 (Nat.lt_of_lt_of_eq (by decide : 21 < 49) hsz.symm)]) ⟨frame_put (k22) (q22), ?_⟩
              simpa [upd] using hT
            · rintro L _ Wx ⟨rfl, hT⟩ hcl hk hd
              have hL6 : L 6 = true := by have h := hd; simp [Region.binds] at h; simp [h]
              have hL8 : L 8 = true := by have h := hd; simp [Region.binds] at h; simp [h]
              rw [if_pos (by simp [Region.wanted, yielded, frame_tmp (k20) hL6 (Nat.lt_of_lt_of_eq (by decide : 20 < 49) hsz.symm)])]
              refine opIn_valueW (by intro c h; cases h) (v := .pointer (some ⟨b, off + q * 14, none⟩)) (w' := Wx) (by simp [execOp, go_sem, frame_tmp (k22) hL8 (Nat.lt_of_lt_of_eq (by decide : 22 < 49) hsz.symm)]) ⟨frame_put (k23) (q23), ?_⟩
              simpa [upd] using hT
            · rintro L _ Wx ⟨rfl, hT⟩ hcl hk hd
              have hL6 : L 6 = true := by have h := hd; simp [Region.binds] at h; simp [h]
              have hL9 : L 9 = true := by have h := hd; simp [Region.binds] at h; simp [h]
              rw [if_pos (by simp [Region.wanted, yielded, frame_tmp (k20) hL6 (Nat.lt_of_lt_of_eq (by decide : 20 < 49) hsz.symm)])]
              refine opIn_valueW (by intro c h; cases h) (v := .int .i8 x.k) (w' := Wx) (by simp [execOp, go_sem, frame_tmp (k23) hL9 (Nat.lt_of_lt_of_eq (by decide : 23 < 49) hsz.symm), hT, c0]) ⟨frame_put (k24) (q24), ?_⟩
              simpa [upd] using hT
            · rintro L _ Wx ⟨rfl, hT⟩ hcl hk hd
              have hL6 : L 6 = true := by have h := hd; simp [Region.binds] at h; simp [h]
              have hL10 : L 10 = true := by have h := hd; simp [Region.binds] at h; simp [h]
              rw [if_pos (by simp [Region.wanted, yielded, frame_tmp (k20) hL6 (Nat.lt_of_lt_of_eq (by decide : 20 < 49) hsz.symm)])]
              refine opIn_valueW (by intro c h; cases h) (v := .bool false) (w' := Wx) (by simp [execOp, go_sem, frame_tmp (k24) hL10 (Nat.lt_of_lt_of_eq (by decide : 24 < 49) hsz.symm), e1]) ⟨frame_put (k25) (q25), ?_⟩
              simpa [upd] using hT
            · rintro L _ Wx ⟨rfl, hT⟩ hcl hk hd
              have hL6 : L 6 = true := by have h := hd; simp [Region.binds] at h; simp [h]
              have hL11 : L 11 = true := by have h := hd; simp [Region.binds] at h; simp [h]
              rw [if_pos (by simp [Region.wanted, yielded, frame_tmp (k20) hL6 (Nat.lt_of_lt_of_eq (by decide : 20 < 49) hsz.symm)])]
              refine opIn_valueW (by intro c h; cases h) (v := .bool false) (w' := Wx) (by simp [execOp, go_sem, frame_tmp (k25) hL11 (Nat.lt_of_lt_of_eq (by decide : 25 < 49) hsz.symm)]) ⟨frame_put (k26) (q26), ?_⟩
              simpa [upd] using hT
            · rintro L _ Wx ⟨rfl, hT⟩ hcl hk hd
              have hL12 : L 12 = true := by have h := hd; simp [Region.binds] at h; simp [h]
              rw [if_pos (by simp [Region.wanted, yielded, frame_tmp (k26) hL12 (Nat.lt_of_lt_of_eq (by decide : 26 < 49) hsz.symm)])]
              refine opIn_valueW (by intro c h; cases h) (v := .pointer (some ⟨b, off + q * 14, none⟩)) (w' := Wx) (by simp [execOp, go_sem, frame_tout (n5) u5]) ⟨frame_put (k27) (q27), ?_⟩
              simpa [upd] using hT
            · rintro L _ Wx ⟨rfl, hT⟩ hcl hk hd
              have hL12 : L 12 = true := by have h := hd; simp [Region.binds] at h; simp [h]
              have hL13 : L 13 = true := by have h := hd; simp [Region.binds] at h; simp [h]
              rw [if_pos (by simp [Region.wanted, yielded, frame_tmp (k26) hL12 (Nat.lt_of_lt_of_eq (by decide : 26 < 49) hsz.symm)])]
              refine opIn_valueW (by intro c h; cases h) (v := .pointer (some ⟨b, off + q * 14, none⟩)) (w' := Wx) (by simp [execOp, go_sem, frame_tmp (k27) hL13 (Nat.lt_of_lt_of_eq (by decide : 27 < 49) hsz.symm)]) ⟨frame_put (k28) (q28), ?_⟩
              simpa [upd] using hT
            · rintro L _ Wx ⟨rfl, hT⟩ hcl hk hd
              have hL12 : L 12 = true := by have h := hd; simp [Region.binds] at h; simp [h]
              have hL14 : L 14 = true := by have h := hd; simp [Region.binds] at h; simp [h]
              rw [if_pos (by simp [Region.wanted, yielded, frame_tmp (k26) hL12 (Nat.lt_of_lt_of_eq (by decide : 26 < 49) hsz.symm)])]
              refine opIn_valueW (by intro c h; cases h) (v := .pointer (some ⟨b, off + q * 14, none⟩)) (w' := Wx) (by simp [execOp, go_sem, frame_tmp (k28) hL14 (Nat.lt_of_lt_of_eq (by decide : 28 < 49) hsz.symm)]) ⟨frame_put (k29) (q29), ?_⟩
              simpa [upd] using hT
            · rintro L _ Wx ⟨rfl, hT⟩ hcl hk hd
              have hL12 : L 12 = true := by have h := hd; simp [Region.binds] at h; simp [h]
              have hL15 : L 15 = true := by have h := hd; simp [Region.binds] at h; simp [h]
              rw [if_pos (by simp [Region.wanted, yielded, frame_tmp (k26) hL12 (Nat.lt_of_lt_of_eq (by decide : 26 < 49) hsz.symm)])]
              refine opIn_valueW (by intro c h; cases h) (v := .int .i8 x.k) (w' := Wx) (by simp [execOp, go_sem, frame_tmp (k29) hL15 (Nat.lt_of_lt_of_eq (by decide : 29 < 49) hsz.symm), hT, c0]) ⟨frame_put (k30) (q30), ?_⟩
              simpa [upd] using hT
            · rintro L _ Wx ⟨rfl, hT⟩ hcl hk hd
              have hL12 : L 12 = true := by have h := hd; simp [Region.binds] at h; simp [h]
              have hL16 : L 16 = true := by have h := hd; simp [Region.binds] at h; simp [h]
              rw [if_pos (by simp [Region.wanted, yielded, frame_tmp (k26) hL12 (Nat.lt_of_lt_of_eq (by decide : 26 < 49) hsz.symm)])]
              refine opIn_valueW (by intro c h; cases h) (v := .bool false) (w' := Wx) (by simp [execOp, go_sem, frame_tmp (k30) hL16 (Nat.lt_of_lt_of_eq (by decide : 30 < 49) hsz.symm), e2]) ⟨frame_put (k31) (q31), ?_⟩
              simpa [upd] using hT
            · rintro L _ Wx ⟨rfl, hT⟩ hcl hk hd
              have hL6 : L 6 = true := by have h := hd; simp [Region.binds] at h; simp [h]
              have hL12 : L 12 = true := by have h := hd; simp [Region.binds] at h; simp [h]
              have hL17 : L 17 = true := by have h := hd; simp [Region.binds] at h; simp [h]
              rw [if_pos (by simp [Region.wanted, yielded, frame_tmp (k20) hL6 (Nat.lt_of_lt_of_eq (by decide : 20 < 49) hsz.symm)])]
              refine opIn_valueW (by intro c h; cases h) (v := .bool false) (w' := Wx) (by simp [execOp, go_sem, frame_tmp (k26) hL12 (Nat.lt_of_lt_of_eq (by decide : 26 < 49) hsz.symm), frame_tmp (k31) hL17 (Nat.lt_of_lt_of_eq (by decide : 31 < 49) hsz.symm)]) ⟨frame_put (k32) (q32), ?_⟩
              simpa [upd] using hT
            · rintro L _ Wx ⟨rfl, hT⟩ hcl hk hd
              have hL6 : L 6 = true := by have h := hd; simp [Region.binds] at h; simp [h]
              have hL18 : L 18 = true := by have h := hd; simp [Region.binds] at h; simp [h]
              rw [if_pos (by simp [Region.wanted])]
              refine opIn_valueW (by intro c h; cases h) (v := .bool false) (w' := Wx) (by simp [execOp, go_sem, frame_tmp (k20) hL6 (Nat.lt_of_lt_of_eq (by decide : 20 < 49) hsz.symm), frame_tmp (k32) hL18 (Nat.lt_of_lt_of_eq (by decide : 32 < 49) hsz.symm)]) ⟨frame_put (k33) (q33), ?_⟩
              simpa [upd] using hT
            · rintro L _ Wx ⟨rfl, hT⟩ hcl hk hd
              have hL19 : L 19 = true := by have h := hd; simp [Region.binds] at h; simp [h]
              rw [if_pos (by simp [Region.wanted])]
              refine opIn_valueW (by intro c h; cases h) (v := .bool false) (w' := Wx) (by simp [execOp, go_sem, frame_tmp (k33) hL19 (Nat.lt_of_lt_of_eq (by decide : 33 < 49) hsz.symm)]) ⟨frame_put (k34) (q34), ?_⟩
              simpa [upd] using hT
            · rintro L _ Wx ⟨rfl, hT⟩ hcl hk hd
              have hL20 : L 20 = true := by have h := hd; simp [Region.binds] at h; simp [h]
              rw [if_neg (by simp [Region.wanted, yielded, frame_tmp (k34) hL20 (Nat.lt_of_lt_of_eq (by decide : 34 < 49) hsz.symm)])]
              refine ⟨frame_put (k35) (q35), ?_⟩
              simpa [upd] using hT
            · rintro L _ Wx ⟨rfl, hT⟩ hcl hk hd
              have hL20 : L 20 = true := by have h := hd; simp [Region.binds] at h; simp [h]
              rw [if_neg (by simp [Region.wanted, yielded, frame_tmp (k34) hL20 (Nat.lt_of_lt_of_eq (by decide : 34 < 49) hsz.symm)])]
              refine ⟨frame_put (k36) (q36), ?_⟩
              simpa [upd] using hT
            · rintro L _ Wx ⟨rfl, hT⟩ hcl hk hd
              have hL20 : L 20 = true := by have h := hd; simp [Region.binds] at h; simp [h]
              rw [if_neg (by simp [Region.wanted, yielded, frame_tmp (k34) hL20 (Nat.lt_of_lt_of_eq (by decide : 34 < 49) hsz.symm)])]
              refine ⟨frame_put (k37) (q37), ?_⟩
              simpa [upd] using hT
            · rintro L _ Wx ⟨rfl, hT⟩ hcl hk hd
              have hL20 : L 20 = true := by have h := hd; simp [Region.binds] at h; simp [h]
              rw [if_neg (by simp [Region.wanted, yielded, frame_tmp (k34) hL20 (Nat.lt_of_lt_of_eq (by decide : 34 < 49) hsz.symm)])]
              refine ⟨frame_put (k38) (q38), ?_⟩
              simpa [upd] using hT
            · rintro L _ Wx ⟨rfl, hT⟩ hcl hk hd
              have hL20 : L 20 = true := by have h := hd; simp [Region.binds] at h; simp [h]
              rw [if_neg (by simp [Region.wanted, yielded, frame_tmp (k34) hL20 (Nat.lt_of_lt_of_eq (by decide : 34 < 49) hsz.symm)])]
              refine ⟨frame_put (k39) (q39), ?_⟩
              simpa [upd] using hT
            · rintro L _ Wx ⟨rfl, hT⟩ hcl hk hd
              have hL20 : L 20 = true := by have h := hd; simp [Region.binds] at h; simp [h]
              rw [if_neg (by simp [Region.wanted, yielded, frame_tmp (k34) hL20 (Nat.lt_of_lt_of_eq (by decide : 34 < 49) hsz.symm)])]
              refine ⟨frame_put (k40) (q40), ?_⟩
              simpa [upd] using hT
            · rintro L _ Wx ⟨rfl, hT⟩ hcl hk hd
              have hL20 : L 20 = true := by have h := hd; simp [Region.binds] at h; simp [h]
              rw [if_neg (by simp [Region.wanted, yielded, frame_tmp (k34) hL20 (Nat.lt_of_lt_of_eq (by decide : 34 < 49) hsz.symm)])]
              refine ⟨frame_put (k41) (q41), ?_⟩
              simpa [upd] using hT
            · rintro L _ Wx ⟨rfl, hT⟩ hcl hk hd
              have hL20 : L 20 = true := by have h := hd; simp [Region.binds] at h; simp [h]
              rw [if_neg (by simp [Region.wanted, yielded, frame_tmp (k34) hL20 (Nat.lt_of_lt_of_eq (by decide : 34 < 49) hsz.symm)])]
              refine ⟨frame_put (k42) (q42), ?_⟩
              simpa [upd] using hT
            · rintro L _ Wx ⟨rfl, hT⟩ hcl hk hd
              have hL20 : L 20 = true := by have h := hd; simp [Region.binds] at h; simp [h]
              rw [if_neg (by simp [Region.wanted, yielded, frame_tmp (k34) hL20 (Nat.lt_of_lt_of_eq (by decide : 34 < 49) hsz.symm)])]
              refine ⟨frame_put (k43) (q43), ?_⟩
              simpa [upd] using hT
            · rintro L _ Wx ⟨rfl, hT⟩ hcl hk hd
              have hL20 : L 20 = true := by have h := hd; simp [Region.binds] at h; simp [h]
              rw [if_neg (by simp [Region.wanted, yielded, frame_tmp (k34) hL20 (Nat.lt_of_lt_of_eq (by decide : 34 < 49) hsz.symm)])]
              refine ⟨frame_put (k44) (q44), ?_⟩
              simpa [upd] using hT
            · rintro L _ Wx ⟨rfl, hT⟩ hcl hk hd
              have hL20 : L 20 = true := by have h := hd; simp [Region.binds] at h; simp [h]
              rw [if_neg (by simp [Region.wanted, yielded, frame_tmp (k34) hL20 (Nat.lt_of_lt_of_eq (by decide : 34 < 49) hsz.symm)])]
              refine ⟨frame_put (k45) (q45), ?_⟩
              simpa [upd] using hT
            · rintro L _ Wx ⟨rfl, hT⟩ hcl hk hd
              have hL20 : L 20 = true := by have h := hd; simp [Region.binds] at h; simp [h]
              rw [if_neg (by simp [Region.wanted, yielded, frame_tmp (k34) hL20 (Nat.lt_of_lt_of_eq (by decide : 34 < 49) hsz.symm)])]
              refine ⟨frame_put (k46) (q46), ?_⟩
              simpa [upd] using hT
            · rintro L _ Wx ⟨rfl, hT⟩ hcl hk hd
              have hL20 : L 20 = true := by have h := hd; simp [Region.binds] at h; simp [h]
              rw [if_pos (by simp [Region.wanted])]
              refine opIn_valueW (by intro c h; cases h) (v := .bool false) (w' := Wx) (by simp [execOp, go_sem, frame_tmp (k34) hL20 (Nat.lt_of_lt_of_eq (by decide : 34 < 49) hsz.symm)]) ⟨frame_put (k47) (q47), ?_⟩
              simpa [upd] using hT
          · rintro L W' hT hall
            simp only [putAll, Act.put, List.setIfInBounds_toArray, List.set_cons_succ, List.set_cons_zero]
            obtain rfl : W' = w0 := hT
            clear hall
            gi_wp2
            go_roundw
            case rel => exact ⟨q + 1, _, by omega, by go_num, HJD.out, HKD.out, HS.out ▸ HP.out⟩
            case measure => simp [intOf]; omega
          -- END NC
      · have hEq : ∀ w, (binOp .eql 34 (.agg #[.int .i64 x.n.s, .int .i64 x.n.i, .int .i64 x.n.t]) (.agg #[.int .i64 nm.s, .int .i64 nm.i, .int .i64 nm.t])).run Try.prog w = .ok (.bool false) w := fun w => by rw [hen, decide_eq_false hit]
        have HS : Hid (nmSteps nm (l.drop q) q = nmSteps nm (l.drop (q + 1)) (q + 1)) := by show _ = _; rw [drop_cons HX.out]; simp [nmSteps, hit]
        clear hen
        -- BEGIN ND
        refine wpIn_region_frame mixed (fun _ => trivial) (by kernel_rfl) [(0, 14, .pointer (some ⟨b, off + q * 14, none⟩)), (1, 15, .pointer (some ⟨b, off + q * 14, none⟩)), (2, 16, .pointer (some ⟨b, off + q * 14 + 1, none⟩)), (3, 17, .agg #[.int .i64 x.n.s, .int .i64 x.n.i, .int .i64 x.n.t]), (4, 18, .agg #[.int .i64 nm.s, .int .i64 nm.i, .int .i64 nm.t]), (5, 19, .bool false), (6, 20, .bool false), (7, 21, undef), (8, 22, undef), (9, 23, undef), (10, 24, undef), (11, 25, undef), (12, 26, undef), (13, 27, undef), (14, 28, undef), (15, 29, undef), (16, 30, undef), (17, 31, undef), (18, 32, undef), (19, 33, .bool false), (20, 34, .bool false), (21, 35, undef), (22, 36, undef), (23, 37, undef), (24, 38, undef), (25, 39, undef), (26, 40, undef), (27, 41, undef), (28, 42, undef), (29, 43, undef), (30, 44, undef), (31, 45, undef), (32, 46, undef), (33, 47, .bool false)] (fun L Wx => Wx = w0) ?_ ?_ (by rfl) (by rfl) ?_
        · exact HW0.out
        · intro a0 ps ha0 hps
          have hsz : a0.tmps.size = 49 := by rw [ha0]; rfl
          have u0 : a0.tmps[0]? = some (.func (.yield lp) #[] #[]) := by rw [ha0]; rfl
          have u2 : a0.tmps[2]? = some (.pointer (some ⟨Bn, 0, none⟩)) := by rw [ha0]; rfl
          have u4 : a0.tmps[4]? = some (.int .i64 (q : Int)) := by rw [ha0]; rfl
          have u5 : a0.tmps[5]? = some (.pointer (some ⟨b, off + q * 14, none⟩)) := by rw [ha0]; rfl
          have n0 : slotOf ps 0 = none := by rw [hps]; rfl
          have n2 : slotOf ps 2 = none := by rw [hps]; rfl
          have n4 : slotOf ps 4 = none := by rw [hps]; rfl
          have n5 : slotOf ps 5 = none := by rw [hps]; rfl
          have k14 : slotOf ps 14 = some (0, .pointer (some ⟨b, off + q * 14, none⟩)) := by rw [hps]; rfl
          have q14 : keysOK ps 0 14 = true := by rw [hps]; rfl
          have k15 : slotOf ps 15 = some (1, .pointer (some ⟨b, off + q * 14, none⟩)) := by rw [hps]; rfl
          have q15 : keysOK ps 1 15 = true := by rw [hps]; rfl
          have k16 : slotOf ps 16 = some (2, .pointer (some ⟨b, off + q * 14 + 1, none⟩)) := by rw [hps]; rfl
          have q16 : keysOK ps 2 16 = true := by rw [hps]; rfl
          have k17 : slotOf ps 17 = some (3, .agg #[.int .i64 x.n.s, .int .i64 x.n.i, .int .i64 x.n.t]) := by rw [hps]; rfl
          have q17 : keysOK ps 3 17 = true := by rw [hps]; rfl
          have k18 : slotOf ps 18 = some (4, .agg #[.int .i64 nm.s, .int .i64 nm.i, .int .i64 nm.t]) := by rw [hps]; rfl
          have q18 : keysOK ps 4 18 = true := by rw [hps]; rfl
          have k19 : slotOf ps 19 = some (5, .bool false) := by rw [hps]; rfl
          have q19 : keysOK ps 5 19 = true := by rw [hps]; rfl
          have k20 : slotOf ps 20 = some (6, .bool false) := by rw [hps]; rfl
          have q20 : keysOK ps 6 20 = true := by rw [hps]; rfl
          have k21 : slotOf ps 21 = some (7, undef) := by rw [hps]; rfl
          have q21 : keysOK ps 7 21 = true := by rw [hps]; rfl
          have k22 : slotOf ps 22 = some (8, undef) := by rw [hps]; rfl
          have q22 : keysOK ps 8 22 = true := by rw [hps]; rfl
          have k23 : slotOf ps 23 = some (9, undef) := by rw [hps]; rfl
          have q23 : keysOK ps 9 23 = true := by rw [hps]; rfl
          have k24 : slotOf ps 24 = some (10, undef) := by rw [hps]; rfl
          have q24 : keysOK ps 10 24 = true := by rw [hps]; rfl
          have k25 : slotOf ps 25 = some (11, undef) := by rw [hps]; rfl
          have q25 : keysOK ps 11 25 = true := by rw [hps]; rfl
          have k26 : slotOf ps 26 = some (12, undef) := by rw [hps]; rfl
          have q26 : keysOK ps 12 26 = true := by rw [hps]; rfl
          have k27 : slotOf ps 27 = some (13, undef) := by rw [hps]; rfl
          have q27 : keysOK ps 13 27 = true := by rw [hps]; rfl
          have k28 : slotOf ps 28 = some (14, undef) := by rw [hps]; rfl
          have q28 : keysOK ps 14 28 = true := by rw [hps]; rfl
          have k29 : slotOf ps 29 = some (15, undef) := by rw [hps]; rfl
          have q29 : keysOK ps 15 29 = true := by rw [hps]; rfl
          have k30 : slotOf ps 30 = some (16, undef) := by rw [hps]; rfl
          have q30 : keysOK ps 16 30 = true := by rw [hps]; rfl
          have k31 : slotOf ps 31 = some (17, undef) := by rw [hps]; rfl
          have q31 : keysOK ps 17 31 = true := by rw [hps]; rfl
          have k32 : slotOf ps 32 = some (18, undef) := by rw [hps]; rfl
          have q32 : keysOK ps 18 32 = true := by rw [hps]; rfl
          have k33 : slotOf ps 33 = some (19, .bool false) := by rw [hps]; rfl
          have q33 : keysOK ps 19 33 = true := by rw [hps]; rfl
          have k34 : slotOf ps 34 = some (20, .bool false) := by rw [hps]; rfl
          have q34 : keysOK ps 20 34 = true := by rw [hps]; rfl
          have k35 : slotOf ps 35 = some (21, undef) := by rw [hps]; rfl
          have q35 : keysOK ps 21 35 = true := by rw [hps]; rfl
          have k36 : slotOf ps 36 = some (22, undef) := by rw [hps]; rfl
          have q36 : keysOK ps 22 36 = true := by rw [hps]; rfl
          have k37 : slotOf ps 37 = some (23, undef) := by rw [hps]; rfl
          have q37 : keysOK ps 23 37 = true := by rw [hps]; rfl
          have k38 : slotOf ps 38 = some (24, undef) := by rw [hps]; rfl
          have q38 : keysOK ps 24 38 = true := by rw [hps]; rfl
          have k39 : slotOf ps 39 = some (25, undef) := by rw [hps]; rfl
          have q39 : keysOK ps 25 39 = true := by rw [hps]; rfl
          have k40 : slotOf ps 40 = some (26, undef) := by rw [hps]; rfl
          have q40 : keysOK ps 26 40 = true := by rw [hps]; rfl
          have k41 : slotOf ps 41 = some (27, undef) := by rw [hps]; rfl
          have q41 : keysOK ps 27 41 = true := by rw [hps]; rfl
          have k42 : slotOf ps 42 = some (28, undef) := by rw [hps]; rfl
          have q42 : keysOK ps 28 42 = true := by rw [hps]; rfl
          have k43 : slotOf ps 43 = some (29, undef) := by rw [hps]; rfl
          have q43 : keysOK ps 29 43 = true := by rw [hps]; rfl
          have k44 : slotOf ps 44 = some (30, undef) := by rw [hps]; rfl
          have q44 : keysOK ps 30 44 = true := by rw [hps]; rfl
          have k45 : slotOf ps 45 = some (31, undef) := by rw [hps]; rfl
          have q45 : keysOK ps 31 45 = true := by rw [hps]; rfl
          have k46 : slotOf ps 46 = some (32, undef) := by rw [hps]; rfl
          have q46 : keysOK ps 32 46 = true := by rw [hps]; rfl
          have k47 : slotOf ps 47 = some (33, .bool false) := by rw [hps]; rfl
          have q47 : keysOK ps 33 47 = true := by rw [hps]; rfl
          clear ha0 hps
          refine ⟨?_, ?_, ?_, ?_, ?_, ?_, ?_, ?_, ?_, ?_, ?_, ?_, ?_, ?_, ?_, ?_, ?_, ?_, ?_, ?_, ?_, ?_, ?_, ?_, ?_, ?_, ?_, ?_, ?_, ?_, ?_, ?_, ?_, ?_, trivial⟩
          · rintro L _ Wx ⟨rfl, hT⟩ hcl hk hd
            rw [if_pos (by simp [Region.wanted])]
            refine opIn_valueW (by intro c h; cases h) (v := .pointer (some ⟨b, off + q * 14, none⟩)) (w' := Wx) (by simp [execOp, go_sem, frame_tout (n5) u5]) ⟨frame_put (k14) (q14), ?_⟩
            simpa [upd] using hT
          · rintro L _ Wx ⟨rfl, hT⟩ hcl hk hd
            have hL0 : L 0 = true := by have h := hd; simp [Region.binds] at h; simp [h]
            rw [if_pos (by simp [Region.wanted])]
            refine opIn_valueW (by intro c h; cases h) (v := .pointer (some ⟨b, off + q * 14, none⟩)) (w' := Wx) (by simp [execOp, go_sem, frame_tmp (k14) hL0 (Nat.lt_of_lt_of_eq (by decide : 14 < 49) hsz.symm)]) ⟨frame_put (k15) (q15), ?_⟩
            simpa [upd] using hT
          · rintro L _ Wx ⟨rfl, hT⟩ hcl hk hd
            have hL1 : L 1 = true := by have h := hd; simp [Region.binds] at h; simp [h]
            rw [if_pos (by simp [Region.wanted])]
            refine opIn_valueW (by intro c h; cases h) (v := .pointer (some ⟨b, off + q * 14 + 1, none⟩)) (w' := Wx) (by simp [execOp, go_sem, frame_tmp (k15) hL1 (Nat.lt_of_lt_of_eq (by decide : 15 < 49) hsz.symm)]) ⟨frame_put (k16) (q16), ?_⟩
            simpa [upd] using hT
          · rintro L _ Wx ⟨rfl, hT⟩ hcl hk hd
            have hL2 : L 2 = true := by have h := hd; simp [Region.binds] at h; simp [h]
            rw [if_pos (by simp [Region.wanted])]
            refine opIn_valueW (by intro c h; cases h) (v := .agg #[.int .i64 x.n.s, .int .i64 x.n.i, .int .i64 x.n.t]) (w' := Wx) (by simp [execOp, go_sem, frame_tmp (k16) hL2 (Nat.lt_of_lt_of_eq (by decide : 16 < 49) hsz.symm), hT, c1, c2, c3]) ⟨frame_put (k17) (q17), ?_⟩
            simpa [upd] using hT
          · rintro L _ Wx ⟨rfl, hT⟩ hcl hk hd
            rw [if_pos (by simp [Region.wanted])]
            refine opIn_valueW (by intro c h; cases h) (v := .agg #[.int .i64 nm.s, .int .i64 nm.i, .int .i64 nm.t]) (w' := Wx) (by simp [execOp, go_sem, frame_tout (n2) u2, hT, m0, m1, m2]) ⟨frame_put (k18) (q18), ?_⟩
            simpa [upd] using hT
          · rintro L _ Wx ⟨rfl, hT⟩ hcl hk hd
            have hL3 : L 3 = true := by have h := hd; simp [Region.binds] at h; simp [h]
            have hL4 : L 4 = true := by have h := hd; simp [Region.binds] at h; simp [h]
            rw [if_pos (by simp [Region.wanted])]
            refine opIn_valueW (by intro c h; cases h) (v := .bool false) (w' := Wx) (by simp [execOp, go_sem, frame_tmp (k17) hL3 (Nat.lt_of_lt_of_eq (by decide : 17 < 49) hsz.symm), frame_tmp (k18) hL4 (Nat.lt_of_lt_of_eq (by decide : 18 < 49) hsz.symm), hEq]) ⟨frame_put (k19) (q19), ?_⟩
            simpa [upd] using hT
          · rintro L _ Wx ⟨rfl, hT⟩ hcl hk hd
            have hL5 : L 5 = true := by have h := hd; simp [Region.binds] at h; simp [h]
            rw [if_pos (by simp [Region.wanted])]
            refine opIn_valueW (by intro c h; cases h) (v := .bool false) (w' := Wx) (by simp [execOp, go_sem, frame_tmp (k19) hL5 (Nat.lt_of_lt_of_eq (by decide : 19 < 49) hsz.symm)]) ⟨frame_put (k20) (q20), ?_⟩
            simpa [upd] using hT
          · rintro L _ Wx ⟨rfl, hT⟩ hcl hk hd
            have hL6 : L 6 = true := by have h := hd; simp [Region.binds] at h; simp [h]
            rw [if_neg (by simp [Region.wanted, yielded, frame_tmp (k20) hL6 (Nat.lt_of_lt_of_eq (by decide : 20 < 49) hsz.symm)])]
            refine ⟨frame_put (k21) (q21), ?_⟩
            simpa [upd] using hT
          · rintro L _ Wx ⟨rfl, hT⟩ hcl hk hd
            have hL6 : L 6 = true := by have h := hd; simp [Region.binds] at h; simp [h]
            rw [if_neg (by simp [Region.wanted, yielded, frame_tmp (k20) hL6 (Nat.lt_of_lt_of_eq (by decide : 20 < 49) hsz.symm)])]
            refine ⟨frame_put (k22) (q22), ?_⟩
            simpa [upd] using hT
          · rintro L _ Wx ⟨rfl, hT⟩ hcl hk hd
            have hL6 : L 6 = true := by have h := hd; simp [Region.binds] at h; simp [h]
            rw [if_neg (by simp [Region.wanted, yielded, frame_tmp (k20) hL6 (Nat.lt_of_lt_of_eq (by decide : 20 < 49) hsz.symm)])]
            refine ⟨frame_put (k23) (q23), ?_⟩
            simpa [upd] using hT
          · rintro L _ Wx ⟨rfl, hT⟩ hcl hk hd
            have hL6 : L 6 = true := by have h := hd; simp [Region.binds] at h; simp [h]
            rw [if_neg (by simp [Region.wanted, yielded, frame_tmp (k20) hL6 (Nat.lt_of_lt_of_eq (by decide : 20 < 49) hsz.symm)])]
            refine ⟨frame_put (k24) (q24), ?_⟩
            simpa [upd] using hT
          · rintro L _ Wx ⟨rfl, hT⟩ hcl hk hd
            have hL6 : L 6 = true := by have h := hd; simp [Region.binds] at h; simp [h]
            rw [if_neg (by simp [Region.wanted, yielded, frame_tmp (k20) hL6 (Nat.lt_of_lt_of_eq (by decide : 20 < 49) hsz.symm)])]
            refine ⟨frame_put (k25) (q25), ?_⟩
            simpa [upd] using hT
          · rintro L _ Wx ⟨rfl, hT⟩ hcl hk hd
            have hL6 : L 6 = true := by have h := hd; simp [Region.binds] at h; simp [h]
            rw [if_neg (by simp [Region.wanted, yielded, frame_tmp (k20) hL6 (Nat.lt_of_lt_of_eq (by decide : 20 < 49) hsz.symm)])]
            refine ⟨frame_put (k26) (q26), ?_⟩
            simpa [upd] using hT
          · rintro L _ Wx ⟨rfl, hT⟩ hcl hk hd
            have hL12 : L 12 = true := by have h := hd; simp [Region.binds] at h; simp [h]
            rw [if_neg (by simp [Region.wanted, yielded, frame_tmp (k26) hL12 (Nat.lt_of_lt_of_eq (by decide : 26 < 49) hsz.symm), undef])]
            refine ⟨frame_put (k27) (q27), ?_⟩
            simpa [upd] using hT
          · rintro L _ Wx ⟨rfl, hT⟩ hcl hk hd
            have hL12 : L 12 = true := by have h := hd; simp [Region.binds] at h; simp [h]
            rw [if_neg (by simp [Region.wanted, yielded, frame_tmp (k26) hL12 (Nat.lt_of_lt_of_eq (by decide : 26 < 49) hsz.symm), undef])]
            refine ⟨frame_put (k28) (q28), ?_⟩
            simpa [upd] using hT
          · rintro L _ Wx ⟨rfl, hT⟩ hcl hk hd
            have hL12 : L 12 = true := by have h := hd; simp [Region.binds] at h; simp [h]
            rw [if_neg (by simp [Region.wanted, yielded, frame_tmp (k26) hL12 (Nat.lt_of_lt_of_eq (by decide : 26 < 49) hsz.symm), undef])]
            refine ⟨frame_put (k29) (q29), ?_⟩
            simpa [upd] using hT
          · rintro L _ Wx ⟨rfl, hT⟩ hcl hk hd
            have hL12 : L 12 = true := by have h := hd; simp [Region.binds] at h; simp [h]
            rw [if_neg (by simp [Region.wanted, yielded, frame_tmp (k26) hL12 (Nat.lt_of_lt_of_eq (by decide : 26 < 49) hsz.symm), undef])]
            refine ⟨frame_put (k30) (q30), ?_⟩
            simpa [upd] using hT
          · rintro L _ Wx ⟨rfl, hT⟩ hcl hk hd
            have hL12 : L 12 = true := by have h := hd; simp [Region.binds] at h; simp [h]
            rw [if_neg (by simp [Region.wanted, yielded, frame_tmp (k26) hL12 (Nat.lt_of_lt_of_eq (by decide : 26 < 49) hsz.symm), undef])]
            refine ⟨frame_put (k31) (q31), ?_⟩
            simpa [upd] using hT
          · rintro L _ Wx ⟨rfl, hT⟩ hcl hk hd
            have hL6 : L 6 = true := by have h := hd; simp [Region.binds] at h; simp [h]
            rw [if_neg (by simp [Region.wanted, yielded, frame_tmp (k20) hL6 (Nat.lt_of_lt_of_eq (by decide : 20 < 49) hsz.symm)])]
            refine ⟨frame_put (k32) (q32), ?_⟩
            simpa [upd] using hT
          · rintro L _ Wx ⟨rfl, hT⟩ hcl hk hd
            have hL6 : L 6 = true := by have h := hd; simp [Region.binds] at h; simp [h]
            rw [if_pos (by simp [Region.wanted])]
            refine opIn_valueW (by intro c h; cases h) (v := .bool false) (w' := Wx) (by simp [execOp, go_sem, frame_tmp (k20) hL6 (Nat.lt_of_lt_of_eq (by decide : 20 < 49) hsz.symm)]) ⟨frame_put (k33) (q33), ?_⟩
            simpa [upd] using hT
          · rintro L _ Wx ⟨rfl, hT⟩ hcl hk hd
            have hL19 : L 19 = true := by have h := hd; simp [Region.binds] at h; simp [h]
            rw [if_pos (by simp [Region.wanted])]
            refine opIn_valueW (by intro c h; cases h) (v := .bool false) (w' := Wx) (by simp [execOp, go_sem, frame_tmp (k33) hL19 (Nat.lt_of_lt_of_eq (by decide : 33 < 49) hsz.symm)]) ⟨frame_put (k34) (q34), ?_⟩
            simpa [upd] using hT
          · rintro L _ Wx ⟨rfl, hT⟩ hcl hk hd
            have hL20 : L 20 = true := by have h := hd; simp [Region.binds] at h; simp [h]
            rw [if_neg (by simp [Region.wanted, yielded, frame_tmp (k34) hL20 (Nat.lt_of_lt_of_eq (by decide : 34 < 49) hsz.symm)])]
            refine ⟨frame_put (k35) (q35), ?_⟩
            simpa [upd] using hT
          · rintro L _ Wx ⟨rfl, hT⟩ hcl hk hd
            have hL20 : L 20 = true := by have h := hd; simp [Region.binds] at h; simp [h]
            rw [if_neg (by simp [Region.wanted, yielded, frame_tmp (k34) hL20 (Nat.lt_of_lt_of_eq (by decide : 34 < 49) hsz.symm)])]
            refine ⟨frame_put (k36) (q36), ?_⟩
            simpa [upd] using hT
          · rintro L _ Wx ⟨rfl, hT⟩ hcl hk hd
            have hL20 : L 20 = true := by have h := hd; simp [Region.binds] at h; simp [h]
            rw [if_neg (by simp [Region.wanted, yielded, frame_tmp (k34) hL20 (Nat.lt_of_lt_of_eq (by decide : 34 < 49) hsz.symm)])]
            refine ⟨frame_put (k37) (q37), ?_⟩
            simpa [upd] using hT
          · rintro L _ Wx ⟨rfl, hT⟩ hcl hk hd
            have hL20 : L 20 = true := by have h := hd; simp [Region.binds] at h; simp [h]
            rw [if_neg (by simp [Region.wanted, yielded, frame_tmp (k34) hL20 (Nat.lt_of_lt_of_eq (by decide : 34 < 49) hsz.symm)])]
            refine ⟨frame_put (k38) (q38), ?_⟩
            simpa [upd] using hT
          · rintro L _ Wx ⟨rfl, hT⟩ hcl hk hd
            have hL20 : L 20 = true := by have h := hd; simp [Region.binds] at h; simp [h]
            rw [if_neg (by simp [Region.wanted, yielded, frame_tmp (k34) hL20 (Nat.lt_of_lt_of_eq (by decide : 34 < 49) hsz.symm)])]
            refine ⟨frame_put (k39) (q39), ?_⟩
            simpa [upd] using hT
          · rintro L _ Wx ⟨rfl, hT⟩ hcl hk hd
            have hL20 : L 20 = true := by have h := hd; simp [Region.binds] at h; simp [h]
            rw [if_neg (by simp [Region.wanted, yielded, frame_tmp (k34) hL20 (Nat.lt_of_lt_of_eq (by decide : 34 < 49) hsz.symm)])]
            refine ⟨frame_put (k40) (q40), ?_⟩
            simpa [upd] using hT
          · rintro L _ Wx ⟨rfl, hT⟩ hcl hk hd
            have hL20 : L 20 = true := by have h := hd; simp [Region.binds] at h; simp [h]
            rw [if_neg (by simp [Region.wanted, yielded, frame_tmp (k34) hL20 (Nat.lt_of_lt_of_eq (by decide : 34 < 49) hsz.symm)])]
            refine ⟨frame_put (k41) (q41), ?_⟩
            simpa [upd] using hT
          · rintro L _ Wx ⟨rfl, hT⟩ hcl hk hd
            have hL20 : L 20 = true := by have h := hd; simp [Region.binds] at h; simp [h]
            rw [if_neg (by simp [Region.wanted, yielded, frame_tmp (k34) hL20 (Nat.lt_of_lt_of_eq (by decide : 34 < 49) hsz.symm)])]
            refine ⟨frame_put (k42) (q42), ?_⟩
            simpa [upd] using hT
          · rintro L _ Wx ⟨rfl, hT⟩ hcl hk hd
            have hL20 : L 20 = true := by have h := hd; simp [Region.binds] at h; simp [h]
            rw [if_neg (by simp [Region.wanted, yielded, frame_tmp (k34) hL20 (Nat.lt_of_lt_of_eq (by decide : 34 < 49) hsz.symm)])]
            refine ⟨frame_put (k43) (q43), ?_⟩
            simpa [upd] using hT
          · rintro L _ Wx ⟨rfl, hT⟩ hcl hk hd
            have hL20 : L 20 = true := by have h := hd; simp [Region.binds] at h; simp [h]
            rw [if_neg (by simp [Region.wanted, yielded, frame_tmp (k34) hL20 (Nat.lt_of_lt_of_eq (by decide : 34 < 49) hsz.symm)])]
            refine ⟨frame_put (k44) (q44), ?_⟩
            simpa [upd] using hT
          · rintro L _ Wx ⟨rfl, hT⟩ hcl hk hd
            have hL20 : L 20 = true := by have h := hd; simp [Region.binds] at h; simp [h]
            rw [if_neg (by simp [Region.wanted, yielded, frame_tmp (k34) hL20 (Nat.lt_of_lt_of_eq (by decide : 34 < 49) hsz.symm)])]
            refine ⟨frame_put (k45) (q45), ?_⟩
            simpa [upd] using hT
          · rintro L _ Wx ⟨rfl, hT⟩ hcl hk hd
            have hL20 : L 20 = true := by have h := hd; simp [Region.binds] at h; simp [h]
            rw [if_neg (by simp [Region.wanted, yielded, frame_tmp (k34) hL20 (Nat.lt_of_lt_of_eq (by decide : 34 < 49) hsz.symm)])]
            refine ⟨frame_put (k46) (q46), ?_⟩
            simpa [upd] using hT
          · rintro L _ Wx ⟨rfl, hT⟩ hcl hk hd
            have hL20 : L 20 = true := by have h := hd; simp [Region.binds] at h; simp [h]
            rw [if_pos (by simp [Region.wanted])]
            refine opIn_valueW (by intro c h; cases h) (v := .bool false) (w' := Wx) (by simp [execOp, go_sem, frame_tmp (k34) hL20 (Nat.lt_of_lt_of_eq (by decide : 34 < 49) hsz.symm)]) ⟨frame_put (k47) (q47), ?_⟩
            simpa [upd] using hT
        · rintro L W' hT hall
          simp only [putAll, Act.put, List.setIfInBounds_toArray, List.set_cons_succ, List.set_cons_zero]
          obtain rfl : W' = w0 := hT
          clear hall
          gi_wp2
          go_roundw
          case rel => exact ⟨q + 1, _, by omega, by go_num, HJD.out, HKD.out, HS.out ▸ HP.out⟩
          case measure => simp [intOf]; omega
        -- END ND
    · gi_wp2
      go_end0
      exact ⟨⟨_, rfl⟩, .inl ⟨pre, by have := HP.out; rw [drop_end hlt] at this; simpa [nmSteps] using this, hJs⟩⟩

end Go.Proofs.Ytgdmgeihgkbjaaa
