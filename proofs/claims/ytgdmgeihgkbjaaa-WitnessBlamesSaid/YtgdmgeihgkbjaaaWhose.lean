/- 'witness.whose': of each step that reads, whose value it tells -/
import Derived.Test.YtgdmgeihgkbjaaaLook
namespace Go.Proofs.Ytgdmgeihgkbjaaa
open Go.RowKit Go.Shelf
attribute [local go_sem] run_makeMap_plain

def putV (p : Int × V8) : Value := .agg #[.int .i64 p.1, .int .u8 p.2.a, .int .u8 p.2.b, .int .u8 p.2.c, .int .u8 p.2.d, .int .u8 p.2.e, .int .u8 p.2.f, .int .u8 p.2.g, .int .u8 p.2.h]

theorem eqIn_put (d : Nat) (a b : Int × V8) (w : World) : (Op.equalIn (d + 3) 145 (putV a) (putV b)).run Try.prog w = .ok (decide (a = b)) w := by
  have e : decide (a = b) = (a.1 == b.1 && (decide (a.2 = b.2) && true)) := by
    obtain ⟨a1, a2⟩ := a
    obtain ⟨b1, b2⟩ := b
    simp only [Prod.mk.injEq, Bool.decide_and, Bool.and_true]
    rfl
  have hv := eqIn_v8 d a.2 b.2 w
  rw [e]
  unfold putV
  rw [run_equalIn_agg _ _ _ _ _ (by simp [go_sem]) (by simp [go_sem])]
  simp only [Program.fieldsOf, Try.underlying145]
  refine eqFields_cons (by decide) (a := .int .i64 a.1) (b := .int .i64 b.1) (by simp [go_sem]) (by simp [go_sem]) (by simp [go_sem]) ?_
  exact eqFields_cons (by decide) (by simp [go_sem]) (by simp [go_sem]) hv eqFields_nil

theorem equal_put (a b : Int × V8) (w : World) : (Op.equal 145 (putV a) (putV b)).run Try.prog w = .ok (decide (a = b)) w := eqIn_put 9997 a b w

theorem asking_put (a : Int × V8) : ∀ (es : List MapEntry) (m : List (Int × V8)) (i : Nat) (w : World), es.map (·.key) = m.map putV →
    (Instr.findAsking 145 (putV a) es i).run Try.prog w = .ok ((m.findIdx? (· = a)).bind fun j => (es[j]?).map fun e => (i + j, e.val)) w
  | [], [], _, _, _ => rfl
  | [], _ :: _, _, _, h => by simp at h
  | _ :: _, [], _, _, h => by simp at h
  | e :: es, x :: m, i, w, h => by
    simp only [List.map_cons, List.cons.injEq] at h
    unfold Instr.findAsking
    simp only [h.1, Sem.run_bind, equal_put, Result.andThen_ok]
    by_cases hx : x = a
    · subst hx
      simp [List.findIdx?_cons]
    · have hne : ¬ a = x := fun e => hx e.symm
      simp only [hne, decide_false, Bool.false_eq_true, if_false]
      rw [asking_put a es m (i + 1) w h.2]
      simp only [List.findIdx?_cons, hx, decide_false, Bool.false_eq_true, if_false]
      cases m.findIdx? (· = a) with
      | none => rfl
      | some j => simp; congr 1; funext e; congr 1; omega

theorem putKey : KeyOK 145 putV where
  chk e a w := by
    have hi : ∀ (d : Nat) (n : Int), (Instr.checkKey e (d + 1) 3 (.int .i64 n)).run Try.prog w = .ok () w := fun d n => by
      unfold Instr.checkKey; simp [go_sem]
    have hb : ∀ (d : Nat) (n : Int), (Instr.checkKey e (d + 1) 5 (.int .u8 n)).run Try.prog w = .ok () w := fun d n => by
      unfold Instr.checkKey; simp [go_sem]
    have ha : ∀ (d : Nat) (v : V8), (Instr.checkKey e (d + 2) 23 (v8Val v)).run Try.prog w = .ok () w := fun d v => by
      unfold Instr.checkKey v8Val
      simp [go_sem, Std.Legacy.Range.forIn_eq_forIn_range', Std.Legacy.Range.size, List.range', hb]
    unfold Instr.checkKey putV
    simp [go_sem, hi]
    have := ha 9997 a.2
    unfold v8Val at this
    simp [this]
  find a es m w h := by
    unfold Instr.findKey
    simp only [Sem.run_bind, Try.runUnderlying145, Result.andThen_ok]
    cases es with
    | nil =>
      cases m with
      | nil => rfl
      | cons x m => simp at h
    | cons e es =>
      cases m with
      | nil => simp at h
      | cons x m =>
        have hk : e.key = putV x := by simpa using (List.cons.inj h).1
        have hn : ∀ t, Instr.findNow (.struct t) (putV a) (e :: es) 0 = none := by
          intro t
          unfold Instr.findNow
          rw [hk]
          rfl
        rw [hn]
        have := asking_put a (e :: es) (x :: m) 0 w h
        simpa using this
  same a := by simp [putV, Instr.sameBits]

theorem zero34 (w : World) : (zeroValue 34).run Try.prog w = .ok (nmV nz) w := by
  simp [go_sem, nmV, nz]

/-- What the two maps hold behind q steps. -/
def WhI (l : List Sn) (q : Nat) (lm : List ((Int × V8) × Nm)) (om : List (Int × Nm)) : Prop :=
  (∀ b v, (look lm (b, v)).getD nz = lastW (l.take q) b v) ∧ ∀ (i : Nat) x, i < q → l[i]? = some x → x.k = 1 → look om (i : Int) = some (lastW (l.take i) x.b x.v)

theorem take_snoc1 {l : List Sn} {q : Nat} {x : Sn} (hx : l[q]? = some x) : l.take (q + 1) = l.take q ++ [x] := by
  rw [List.take_add_one, hx]; rfl

theorem WhI.read {l : List Sn} {q : Nat} {lm : List ((Int × V8) × Nm)} {om : List (Int × Nm)} (h : WhI l q lm om) {x : Sn} (hx : l[q]? = some x) (hk : x.k = 1) : WhI l (q + 1) lm (put om (q : Int) (lastW (l.take q) x.b x.v)) := by
  refine ⟨fun b v => ?_, fun i y hi hy hyk => ?_⟩
  · rw [take_snoc1 hx, lastW_snoc, if_neg (by omega)]; exact h.1 b v
  · rw [look_put]
    by_cases e : i = q
    · subst e
      rw [hx] at hy; cases hy
      simp
    · rw [if_neg (by omega)]
      exact h.2 i y (by omega) hy hyk

theorem WhI.write {l : List Sn} {q : Nat} {lm : List ((Int × V8) × Nm)} {om : List (Int × Nm)} (h : WhI l q lm om) {x : Sn} (hx : l[q]? = some x) (hk : x.k = 2) : WhI l (q + 1) (put lm (x.b, x.v) x.n) om := by
  refine ⟨fun b v => ?_, fun i y hi hy hyk => ?_⟩
  · rw [take_snoc1 hx, lastW_snoc, look_put]
    by_cases e : (x.b, x.v) = (b, v)
    · rw [if_pos e]
      obtain ⟨rfl, rfl⟩ := Prod.mk.inj e
      rw [if_pos ⟨hk, rfl, rfl⟩]; rfl
    · rw [if_neg e, if_neg (fun h => e (by rw [h.2.1, h.2.2]))]
      exact h.1 b v
  · have : i ≠ q := fun e => by subst e; rw [hx] at hy; cases hy; omega
    exact h.2 i y (by omega) hy hyk

theorem WhI.skip {l : List Sn} {q : Nat} {lm : List ((Int × V8) × Nm)} {om : List (Int × Nm)} (h : WhI l q lm om) {x : Sn} (hx : l[q]? = some x) (h1 : x.k ≠ 1) (h2 : x.k ≠ 2) : WhI l (q + 1) lm om := by
  refine ⟨fun b v => ?_, fun i y hi hy hyk => ?_⟩
  · rw [take_snoc1 hx, lastW_snoc, if_neg (fun h => h2 h.1)]; exact h.1 b v
  · have : i ≠ q := fun e => by subst e; rw [hx] at hy; cases hy; exact h1 hyk
    exact h.2 i y (by omega) hy hyk

set_option maxRecDepth 100000 in
set_option maxHeartbeats 4000000 in
theorem whose_any (l : List Sn) (a : Option Addr) (cap Bv : Nat) (y z : Value) (w : World) (hl : l.length ≤ 100000) (hv : Sns w.heap.size w (.slice a l.length cap) l) (hb : w.heap[Bv]? = some (.cells #[.slice a l.length cap, y, z] 119 (0, 0))) :
    Calls Try.prog 75 #[.pointer (some ⟨Bv, 0, none⟩)] w fun e w' => (∃ Mo om, e = .returned (.map (some Mo)) ∧ w.heap.size ≤ Mo ∧ MapIs intV nmV w' Mo om ∧ ∀ (i : Nat) x, l[i]? = some x → x.k = 1 → look om (i : Int) = some (lastW (l.take i) x.b x.v)) ∧ Below w.heap.size w w' := by
  obtain ⟨a', cap', hav, hn, ha⟩ := hv
  cases hav
  have HN := Lib.hid hn
  have HA := Lib.hid ha
  have hml : MapIs putV nmV ((w.alloc (.map #[] 0)).alloc (.map #[] 0)) w.heap.size [] := (MapIs.new w).kept (Below.heap_alloc _ _ _ (by simp))
  have hmo : MapIs intV nmV ((w.alloc (.map #[] 0)).alloc (.map #[] 0)) (w.heap.size + 1) [] := by
    have e : (w.alloc (.map #[] 0)).heap.size = w.heap.size + 1 := by simp
    have := MapIs.new (kenc := intV) (venc := nmV) (w.alloc (.map #[] 0))
    rwa [e] at this
  have hb2 : Below w.heap.size w ((w.alloc (.map #[] 0)).alloc (.map #[] 0)) := (below_alloc1 _).trans ((below_alloc1 _).mono (by simp))
  have hcb : ((w.alloc (.map #[] 0)).alloc (.map #[] 0)).cell? ⟨Bv, 0, none⟩ = some (.slice a l.length cap) := by
    rw [cell_of_row _ _ _ _ 119 (0, 0) ((hb2.block _ (lt_of_heap hb)).trans hb)]; rfl
  obtain ⟨w2, hw2⟩ : ∃ w2, (w.alloc (.map #[] 0)).alloc (.map #[] 0) = w2 := ⟨_, rfl⟩
  rw [hw2] at hml hmo hb2 hcb
  have HML := Lib.hid hml
  have HMO := Lib.hid hmo
  have HB2 := Lib.hid hb2
  have HW2 := Lib.hid hw2
  have HCB := Lib.hid hcb
  clear hml hmo hb2 hw2 hn ha hb hcb
  go_enter Try.func75, Try.ntmps75
  go_upto_region 2 with (fail)
  rw [HW2.out]
  have hcb := HCB.out
  go_wp2_with fail
  clear hcb
  obtain ⟨Ml, hMl⟩ : ∃ Ml, Ml = w.heap.size := ⟨_, rfl⟩
  obtain ⟨Mo, hMo⟩ : ∃ Mo, Mo = w.heap.size + 1 := ⟨_, rfl⟩
  rw [← hMo, ← hMl]
  rw [← hMo] at HMO
  rw [← hMl] at HML
  have hne : Ml ≠ Mo := by omega
  have hl1 : w.heap.size ≤ Ml := by omega
  have ho1 : w.heap.size ≤ Mo := by omega
  clear hMo hMl
  go_loopw [15] (fun io wr => ∃ (q : Nat) (lm : List ((Int × V8) × Nm)) (om : List (Int × Nm)), q ≤ l.length ∧ io = .int .i64 q ∧ MapIs putV nmV wr Ml lm ∧ MapIs intV nmV wr Mo om ∧ WhI l q lm om ∧ Below w.heap.size w wr) (fun io _ => l.length - (intOf io).toNat)
  case atStart => exact ⟨0, [], [], Nat.zero_le _, rfl, HML.out, HMO.out, ⟨fun _ _ => rfl, fun i _ h => by omega⟩, HB2.out⟩
  case round =>
    obtain ⟨q, lm, om, hq, rfl, hml, hmo, hI, hB⟩ := hrel
    have HMLr := Lib.hid hml
    have HMOr := Lib.hid hmo
    have HIr := Lib.hid hI
    have HBr := Lib.hid hB
    clear hml hmo hI hB
    by_cases hlt : q < l.length
    · obtain ⟨x, hx⟩ : ∃ x, l[q]? = some x := ⟨_, List.getElem?_eq_getElem hlt⟩
      obtain ⟨b, off, rfl, hb, hr⟩ := rows_some HN.out HA.out hlt
      obtain ⟨c0, c1, c2, c3, c4, c5, c6, c7, c8, c9, c10, c11, c12, c13⟩ := (hr.below hb HBr.out).sn hx
      have HX := Lib.hid hx
      have HLT := Lib.hid hlt
      have hmlr := HMLr.out.lt
      have hmor := HMOr.out.lt
      have KL : Hid (∀ o o', MapIs putV nmV ((wr.alloc o).alloc o') Ml lm) := fun o o' => (HMLr.out.kept (Below.heap_alloc _ _ _ hmlr)).kept (Below.heap_alloc _ _ _ (by simp; omega))
      have KO : Hid (∀ o o', MapIs intV nmV ((wr.alloc o).alloc o') Mo om) := fun o o' => (HMOr.out.kept (Below.heap_alloc _ _ _ hmor)).kept (Below.heap_alloc _ _ _ (by simp; omega))
      have KB : Hid (∀ o o', Below w.heap.size w ((wr.alloc o).alloc o')) := fun o o' => (HBr.out.alloc HBr.out.size o).alloc (by have := HBr.out.size; simp; omega) o'
      clear hr hx hlt
      by_cases hk1 : x.k = 1
      · have e1 : (x.k == 1) = true := by simp [hk1]
        have hz : (((look lm (x.b, x.v)).map nmV).getD (nmV nz)) = nmV (lastW (l.take q) x.b x.v) := by
          rw [← HIr.out.1]
          cases look lm (x.b, x.v) <;> rfl
        have HNX := Lib.hid (HIr.out.read HX.out hk1)
        have HZ := Lib.hid hz
        clear hk1 hz
        go_wp2_with (first | (refine wpList_look Try.underlying143 putKey zero34 (KL.out _ _) rfl (.tmp 31) (.tmp 32) rfl rfl (x.b, x.v) rfl ?_; rw [HZ.out]) | (refine wpList_put (venc := nmV) Try.underlying122 intKey (KO.out _ _) rfl (.tmp 29) (.tmp 30) (.tmp 33) rfl rfl (q : Int) rfl (lastW (l.take q) x.b x.v) rfl ?_; intro w3 hg3 hm3; have HG3 := Lib.hid hg3; have HM3 := Lib.hid hm3; clear hg3 hm3))
        go_roundw
        case rel => exact ⟨q + 1, lm, _, by have := HLT.out; omega, by go_num, (KL.out _ _).kept (HG3.out.block _ (KL.out _ _).lt (fun e => hne (by cases e; rfl))), HM3.out, HNX.out, (KB.out _ _).grown HG3.out (KB.out _ _).size (fun k e => by cases e; exact ho1)⟩
        case measure => have := HLT.out; simp [intOf]; omega
      · have e1 : (x.k == 1) = false := by simp [hk1]
        by_cases hk2 : x.k = 2
        · have e2 : (x.k == 2) = true := by simp [hk2]
          have HNX := Lib.hid (HIr.out.write HX.out hk2)
          clear hk1 hk2
          go_wp2_with (refine wpList_put (venc := nmV) Try.underlying143 putKey (KL.out _ _) rfl (.tmp 36) (.tmp 37) (.tmp 39) rfl rfl (x.b, x.v) rfl x.n rfl ?_; intro w3 hg3 hm3; have HG3 := Lib.hid hg3; have HM3 := Lib.hid hm3; clear hg3 hm3)
          go_roundw
          case rel => exact ⟨q + 1, _, om, by have := HLT.out; omega, by go_num, HM3.out, (KO.out _ _).kept (HG3.out.block _ (KO.out _ _).lt (fun e => hne (by cases e; rfl))), HNX.out, (KB.out _ _).grown HG3.out (KB.out _ _).size (fun k e => by cases e; exact hl1)⟩
          case measure => have := HLT.out; simp [intOf]; omega
        · have e2 : (x.k == 2) = false := by simp [hk2]
          have HNX := Lib.hid (HIr.out.skip HX.out hk1 hk2)
          clear hk1 hk2
          go_wp2_with fail
          go_roundw
          case rel => exact ⟨q + 1, lm, om, by have := HLT.out; omega, by go_num, KL.out _ _, KO.out _ _, HNX.out, KB.out _ _⟩
          case measure => have := HLT.out; simp [intOf]; omega
    · go_wp2_with fail
      go_ret
      refine ⟨⟨Mo, om, rfl, ho1, HMOr.out, fun i x hx hk => HIr.out.2 i x ?_ hx hk⟩, HBr.out⟩
      have := (List.getElem?_eq_some_iff.1 hx).1
      omega

end Go.Proofs.Ytgdmgeihgkbjaaa
