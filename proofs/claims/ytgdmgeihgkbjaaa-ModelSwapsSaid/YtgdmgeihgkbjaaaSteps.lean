/- 'model.steps': the iterator over a row's steps that are reads or writes of a block that is. -/
import Derived.Test.YtgdmgeihgkbjaaaIter
import Derived.Test.YtgdmgeihgkbjaaaMay
namespace Go.Proofs.Ytgdmgeihgkbjaaa
open Go.RowKit Go.Shelf
attribute [local go_sem] Oper.semAt_some

def Sn.ok (x : Sn) : Bool := x.rw && x.inB
def stepsOf : List Sn → Nat → List (Nat × Sn)
  | [], _ => []
  | x :: r, i => if x.ok then (i, x) :: stepsOf r (i + 1) else stepsOf r (i + 1)

def snVal (x : Sn) : Value := .agg #[.int .i8 x.k, .int .i64 x.n.s, .int .i64 x.n.i, .int .i64 x.n.t, .int .i64 x.b, .int .u8 x.v.a, .int .u8 x.v.b, .int .u8 x.v.c, .int .u8 x.v.d, .int .u8 x.v.e, .int .u8 x.v.f, .int .u8 x.v.g, .int .u8 x.v.h, .int .i64 x.e]

def encIS (p : Nat × Sn) : Array Value := #[.int .i64 (p.1 : Int), snVal p.2]

set_option maxRecDepth 100000 in
set_option maxHeartbeats 2000000 in
theorem steps1_in (n : Nat) (hn : 1 ≤ n) (Bs n₀ : Nat) (a : Option Addr) (cap : Nat) (l : List Sn) (hl : l.length ≤ 100000) (w : World)
    (hnil : a = none → l = [] ∧ cap = 0) (ha : ∀ b off s, a = some ⟨b, off, s⟩ → 0 < l.length → s = none ∧ b < n₀ ∧ RowsAt Sn.cells 14 w b off l) (hn₀ : n₀ ≤ w.heap.size)
    (hBs : w.cell? ⟨Bs, 0, none⟩ = some (.slice a l.length cap)) :
    SeqC n 66 #[.pointer (some ⟨Bs, 0, none⟩)] encIS (Below n₀) (stepsOf l 0) w := by
  intro lp J Jx W hW hJ hJx hY h0
  have hBsW : W.cell? ⟨Bs, 0, none⟩ = some (.slice a l.length cap) := (hW.cell (p := ⟨Bs, 0, none⟩) (block_lt_of_cell hBs)).trans hBs
  have haW : ∀ b off s, a = some ⟨b, off, s⟩ → 0 < l.length → s = none ∧ b < n₀ ∧ RowsAt Sn.cells 14 W b off l := fun b off s e h => ⟨(ha b off s e h).1, (ha b off s e h).2.1, (ha b off s e h).2.2.below (Nat.lt_of_lt_of_le (ha b off s e h).2.1 hn₀) hW⟩
  have HN := Lib.hid hnil
  have HA := Lib.hid haW
  have HY := Lib.hid hY
  have HJ := Lib.hid hJ
  clear hnil ha haW hY hJ hJx hBs
  refine callsIn_of_wp Try.func66 rfl trivial ?_ rfl
  simp only [Try.ntmps66, List.size_toArray, List.length_cons, List.length_nil, Nat.reduceAdd, Nat.reduceSub, Array.replicate_succ, Array.replicate_zero, List.push_toArray, List.append_toArray, List.nil_append, List.cons_append]
  gi_wp2
  gi_loopw [7] (fun i wr => ∃ (q : Nat) (pre : List { b // b ∈ stepsOf l 0 }), q ≤ l.length ∧ i = .int .i64 q ∧ J pre wr ∧ Below n₀ W wr ∧ pre.map (·.1) ++ stepsOf (l.drop q) q = stepsOf l 0)
    (fun i _ => l.length - (intOf i).toNat)
  case atStart => exact ⟨0, [], Nat.zero_le _, rfl, h0, Below.refl _ _, rfl⟩
  case round =>
    obtain ⟨q, pre, hq, rfl, hJs, hK, hpre⟩ := hrel
    have HP := Lib.hid hpre
    have HK := Lib.hid hK
    clear hpre hK
    by_cases hlt : q < l.length
    · obtain ⟨x, hx⟩ : ∃ x, l[q]? = some x := ⟨_, List.getElem?_eq_getElem hlt⟩
      obtain ⟨b, off, rfl, hb, hr⟩ := rows_some HN.out HA.out hlt
      obtain ⟨c0, c1, c2, c3, c4, c5, c6, c7, c8, c9, c10, c11, c12, c13⟩ := (hr.below hb HK.out).sn hx
      have HX := Lib.hid hx
      have hJa := fun o => abides_alloc HJ.out o hJs
      have HJa := Lib.hid hJa
      have HKa : Hid (∀ o, Below n₀ W (wr.alloc o)) := fun o => HK.out.alloc (Nat.le_trans (Nat.le_trans hn₀ hW.size) HK.out.size) o
      clear hr hx hJa hJs
      by_cases hok : x.ok = true
      · have hcons : stepsOf (l.drop q) q = (q, x) :: stepsOf (l.drop (q + 1)) (q + 1) := by rw [drop_cons HX.out]; simp [stepsOf, hok]
        have he := HP.out
        rw [hcons] at he
        have hmem : (q, x) ∈ stepsOf l 0 := by
          have : (q, x) ∈ pre.map (·.1) ++ (q, x) :: stepsOf (l.drop (q + 1)) (q + 1) := by simp
          exact he ▸ this
        have hlen : pre.length < (stepsOf l 0).length := by
          have := congrArg List.length he
          simp at this
          omega
        have hnext : (pre ++ [(⟨(q, x), hmem⟩ : { b // b ∈ stepsOf l 0 })]).map (·.1) ++ stepsOf (l.drop (q + 1)) (q + 1) = stepsOf l 0 := by simpa using he
        clear he
        obtain ⟨fn, tmps, assign, body, hy, hR⟩ := HY.out pre ⟨(q, x), hmem⟩ (wr.alloc (.cells #[.int .i8 x.k, .int .i64 x.n.s, .int .i64 x.n.i, .int .i64 x.n.t, .int .i64 x.b, .int .u8 x.v.a, .int .u8 x.v.b, .int .u8 x.v.c, .int .u8 x.v.d, .int .u8 x.v.e, .int .u8 x.v.f, .int .u8 x.v.g, .int .u8 x.v.h, .int .i64 x.e] 36)) (HJa.out _) hlen
        simp only [encIS, snVal] at hy
        have HNX := Lib.hid hnext
        have HR := Lib.hid hR
        have HC := Lib.hid hcons
        clear hnext hR hcons hlen
        obtain ⟨hok1, hok2⟩ : x.rw = true ∧ x.inB = true := by simpa [Sn.ok] using hok
        have hb0 : 0 ≤ x.b := by simp [Sn.inB] at hok2; exact hok2.1
        have hb1 : x.b < 32 := by simp [Sn.inB] at hok2; exact hok2.2
        clear hok hok2
        by_cases hk : x.k = 1
        · have e1 : (x.k == 1) = true := by simp [hk]
          clear hk hok1
          gi_wp2
          refine HR.out.mono ?_
          rintro e W3 (⟨rfl, hJ3, hk3⟩ | ⟨rfl, hJx3⟩)
          · gi_wp2
            go_roundw
            case rel => exact ⟨q + 1, _, by omega, by go_num, hJ3, (HKa.out _).trans hk3, HNX.out⟩
            case measure => simp [intOf]; omega
          · gi_wp2
            refine bodyPost_ret (results_none rfl _ _ _) rfl ?_
            exact ⟨⟨_, rfl⟩, .inr ⟨_, ⟨_, HNX.out⟩, hJx3⟩⟩
        · have e1 : (x.k == 1) = false := by simp [hk]
          have e2 : (x.k == 2) = true := by simpa [Sn.rw, e1] using hok1
          clear hk hok1
          gi_wp2
          refine HR.out.mono ?_
          rintro e W3 (⟨rfl, hJ3, hk3⟩ | ⟨rfl, hJx3⟩)
          · gi_wp2
            go_roundw
            case rel => exact ⟨q + 1, _, by omega, by go_num, hJ3, (HKa.out _).trans hk3, HNX.out⟩
            case measure => simp [intOf]; omega
          · gi_wp2
            refine bodyPost_ret (results_none rfl _ _ _) rfl ?_
            exact ⟨⟨_, rfl⟩, .inr ⟨_, ⟨_, HNX.out⟩, hJx3⟩⟩
      · have hskip : stepsOf (l.drop q) q = stepsOf (l.drop (q + 1)) (q + 1) := by rw [drop_cons HX.out]; simp [stepsOf, hok]
        have HS := Lib.hid hskip
        clear hskip
        by_cases hr : x.rw = true
        · have hi : x.inB = false := by simpa [Sn.ok, hr] using hok
          have hb0 : x.b < 0 ∨ 32 ≤ x.b := by simp [Sn.inB] at hi; omega
          clear hok hi
          by_cases hk : x.k = 1
          · have e1 : (x.k == 1) = true := by simp [hk]
            clear hk hr
            rcases hb0 with hb0 | hb0
            all_goals
              gi_wp2
              refine ⟨fun _ h => (by cases h), ?_⟩
              gi_wp2
              go_roundw
              case rel => exact ⟨q + 1, _, by omega, by go_num, HJa.out _, HKa.out _, HS.out ▸ HP.out⟩
              case measure => simp [intOf]; omega
          · have e1 : (x.k == 1) = false := by simp [hk]
            have e2 : (x.k == 2) = true := by simpa [Sn.rw, e1] using hr
            clear hk hr
            rcases hb0 with hb0 | hb0
            all_goals
              gi_wp2
              refine ⟨fun _ h => (by cases h), ?_⟩
              gi_wp2
              go_roundw
              case rel => exact ⟨q + 1, _, by omega, by go_num, HJa.out _, HKa.out _, HS.out ▸ HP.out⟩
              case measure => simp [intOf]; omega
        · have e1 : (x.k == 1) = false := by simp [Sn.rw] at hr; simpa using hr.1
          have e2 : (x.k == 2) = false := by simp [Sn.rw] at hr; simpa using hr.2
          clear hok hr
          gi_wp2
          refine ⟨fun _ h => (by cases h), ?_⟩
          gi_wp2
          go_roundw
          case rel => exact ⟨q + 1, _, by omega, by go_num, HJa.out _, HKa.out _, HS.out ▸ HP.out⟩
          case measure => simp [intOf]; omega
    · gi_wp2
      go_end0
      exact ⟨⟨_, rfl⟩, .inl ⟨pre, by have := HP.out; rw [drop_end hlt] at this; simpa [stepsOf] using this, hJs⟩⟩

end Go.Proofs.Ytgdmgeihgkbjaaa
