/- Several texts in one: Whose, Kind, Groups, RangeX, Hold, Emit, Reads, Wrong, Wake32, Wrote, BlameLaw, Blames, MinFt, FirstF, MendRow, Mend, SerialLaw, Sim -/
import Derived.Test.YtgdmgeihgkbjaaaPb
import Derived.Deep.WholeRow
import Derived.Deep.MidRow
import Derived.BigQuiet
/- 'witness.whose': of each step that reads, whose value it tells -/
namespace Go.Proofs.Ytgdmgeihgkbjaaa
open Go.RowKit Go.Shelf
attribute [local go_sem] run_makeMap_plain

def putV (p : Int × V8) : Value := .agg #[.int .i64 p.1, .int .u8 p.2.a, .int .u8 p.2.b, .int .u8 p.2.c, .int .u8 p.2.d, .int .u8 p.2.e, .int .u8 p.2.f, .int .u8 p.2.g, .int .u8 p.2.h]

theorem eqIn_put (d : Nat) (a b : Int × V8) (w : World) : (Op.equalIn (d + 3) 145 (putV a) (putV b)).run Try.prog w = .ok (decide (a = b)) w := by
  have e : decide (a = b) = (a.1 == b.1 && (decide (a.2 = b.2) && true)) := by
    obtain ⟨a1, a2⟩ := a
    obtain ⟨b1, b2⟩ := b
    simp only [Prod.mk.injEq, Bool.decide_and, Bool.and_true]
    rfl
  have hv := eqIn_v8 d a.2 b.2 w
  rw [e]
  unfold putV
  rw [run_equalIn_agg _ _ _ _ _ (by simp [go_sem]) (by simp [go_sem])]
  simp only [Program.fieldsOf, Try.underlying145]
  refine eqFields_cons (by decide) (a := .int .i64 a.1) (b := .int .i64 b.1) (by simp [go_sem]) (by simp [go_sem]) (by simp [go_sem]) ?_
  exact eqFields_cons (by decide) (by simp [go_sem]) (by simp [go_sem]) hv eqFields_nil

theorem equal_put (a b : Int × V8) (w : World) : (Op.equal 145 (putV a) (putV b)).run Try.prog w = .ok (decide (a = b)) w := eqIn_put 9997 a b w

theorem asking_put (a : Int × V8) : ∀ (es : List MapEntry) (m : List (Int × V8)) (i : Nat) (w : World), es.map (·.key) = m.map putV →
    (Instr.findAsking 145 (putV a) es i).run Try.prog w = .ok ((m.findIdx? (· = a)).bind fun j => (es[j]?).map fun e => (i + j, e.val)) w
  | [], [], _, _, _ => rfl
  | [], _ :: _, _, _, h => by simp at h
  | _ :: _, [], _, _, h => by simp at h
  | e :: es, x :: m, i, w, h => by
    simp only [List.map_cons, List.cons.injEq] at h
    unfold Instr.findAsking
    simp only [h.1, Sem.run_bind, equal_put, Result.andThen_ok]
    by_cases hx : x = a
    · subst hx
      simp [List.findIdx?_cons]
    · have hne : ¬ a = x := fun e => hx e.symm
      simp only [hne, decide_false, Bool.false_eq_true, if_false]
      rw [asking_put a es m (i + 1) w h.2]
      simp only [List.findIdx?_cons, hx, decide_false, Bool.false_eq_true, if_false]
      cases m.findIdx? (· = a) with
      | none => rfl
      | some j => simp; congr 1; funext e; congr 1; omega

theorem putKey : KeyOK 145 putV where
  chk e a w := by
    have hi : ∀ (d : Nat) (n : Int), (Instr.checkKey e (d + 1) 3 (.int .i64 n)).run Try.prog w = .ok () w := fun d n => by
      unfold Instr.checkKey; simp [go_sem]
    have hb : ∀ (d : Nat) (n : Int), (Instr.checkKey e (d + 1) 5 (.int .u8 n)).run Try.prog w = .ok () w := fun d n => by
      unfold Instr.checkKey; simp [go_sem]
    have ha : ∀ (d : Nat) (v : V8), (Instr.checkKey e (d + 2) 23 (v8Val v)).run Try.prog w = .ok () w := fun d v => by
      unfold Instr.checkKey v8Val
      simp [go_sem, Std.Legacy.Range.forIn_eq_forIn_range', Std.Legacy.Range.size, List.range', hb]
    unfold Instr.checkKey putV
    simp [go_sem, hi]
    have := ha 9997 a.2
    unfold v8Val at this
    simp [this]
  find a es m w h := by
    unfold Instr.findKey
    simp only [Sem.run_bind, Try.runUnderlying145, Result.andThen_ok]
    cases es with
    | nil =>
      cases m with
      | nil => rfl
      | cons x m => simp at h
    | cons e es =>
      cases m with
      | nil => simp at h
      | cons x m =>
        have hk : e.key = putV x := by simpa using (List.cons.inj h).1
        have hn : ∀ t, Instr.findNow (.struct t) (putV a) (e :: es) 0 = none := by
          intro t
          unfold Instr.findNow
          rw [hk]
          rfl
        rw [hn]
        have := asking_put a (e :: es) (x :: m) 0 w h
        simpa using this
  same a := by simp [putV, Instr.sameBits]

theorem zero34 (w : World) : (zeroValue 34).run Try.prog w = .ok (nmV nz) w := by
  simp [go_sem, nmV, nz]

/-- What the two maps hold behind q steps. -/
def WhI (l : List Sn) (q : Nat) (lm : List ((Int × V8) × Nm)) (om : List (Int × Nm)) : Prop :=
  (∀ b v, (look lm (b, v)).getD nz = lastW (l.take q) b v) ∧ ∀ (i : Nat) x, i < q → l[i]? = some x → x.k = 1 → look om (i : Int) = some (lastW (l.take i) x.b x.v)

theorem take_snoc1 {l : List Sn} {q : Nat} {x : Sn} (hx : l[q]? = some x) : l.take (q + 1) = l.take q ++ [x] := by
  rw [List.take_add_one, hx]; rfl

theorem WhI.read {l : List Sn} {q : Nat} {lm : List ((Int × V8) × Nm)} {om : List (Int × Nm)} (h : WhI l q lm om) {x : Sn} (hx : l[q]? = some x) (hk : x.k = 1) : WhI l (q + 1) lm (put om (q : Int) (lastW (l.take q) x.b x.v)) := by
  refine ⟨fun b v => ?_, fun i y hi hy hyk => ?_⟩
  · rw [take_snoc1 hx, lastW_snoc, if_neg (by omega)]; exact h.1 b v
  · rw [look_put]
    by_cases e : i = q
    · subst e
      rw [hx] at hy; cases hy
      simp
    · rw [if_neg (by omega)]
      exact h.2 i y (by omega) hy hyk

theorem WhI.write {l : List Sn} {q : Nat} {lm : List ((Int × V8) × Nm)} {om : List (Int × Nm)} (h : WhI l q lm om) {x : Sn} (hx : l[q]? = some x) (hk : x.k = 2) : WhI l (q + 1) (put lm (x.b, x.v) x.n) om := by
  refine ⟨fun b v => ?_, fun i y hi hy hyk => ?_⟩
  · rw [take_snoc1 hx, lastW_snoc, look_put]
    by_cases e : (x.b, x.v) = (b, v)
    · rw [if_pos e]
      obtain ⟨rfl, rfl⟩ := Prod.mk.inj e
      rw [if_pos ⟨hk, rfl, rfl⟩]; rfl
    · rw [if_neg e, if_neg (fun h => e (by rw [h.2.1, h.2.2]))]
      exact h.1 b v
  · have : i ≠ q := fun e => by subst e; rw [hx] at hy; cases hy; omega
    exact h.2 i y (by omega) hy hyk

theorem WhI.skip {l : List Sn} {q : Nat} {lm : List ((Int × V8) × Nm)} {om : List (Int × Nm)} (h : WhI l q lm om) {x : Sn} (hx : l[q]? = some x) (h1 : x.k ≠ 1) (h2 : x.k ≠ 2) : WhI l (q + 1) lm om := by
  refine ⟨fun b v => ?_, fun i y hi hy hyk => ?_⟩
  · rw [take_snoc1 hx, lastW_snoc, if_neg (fun h => h2 h.1)]; exact h.1 b v
  · have : i ≠ q := fun e => by subst e; rw [hx] at hy; cases hy; exact h1 hyk
    exact h.2 i y (by omega) hy hyk

set_option maxRecDepth 100000 in
set_option maxHeartbeats 4000000 in
theorem whose_any (l : List Sn) (a : Option Addr) (cap Bv : Nat) (y z : Value) (w : World) (hl : l.length ≤ 100000) (hv : Sns w.heap.size w (.slice a l.length cap) l) (hb : w.heap[Bv]? = some (.cells #[.slice a l.length cap, y, z] 119 (0, 0))) :
    Calls Try.prog 75 #[.pointer (some ⟨Bv, 0, none⟩)] w fun e w' => (∃ Mo om, e = .returned (.map (some Mo)) ∧ w.heap.size ≤ Mo ∧ MapIs intV nmV w' Mo om ∧ ∀ (i : Nat) x, l[i]? = some x → x.k = 1 → look om (i : Int) = some (lastW (l.take i) x.b x.v)) ∧ Below w.heap.size w w' := by
  obtain ⟨a', cap', hav, hn, ha⟩ := hv
  cases hav
  have HN := Lib.hid hn
  have HA := Lib.hid ha
  have hml : MapIs putV nmV ((w.alloc (.map #[] 0)).alloc (.map #[] 0)) w.heap.size [] := (MapIs.new w).kept (Below.heap_alloc _ _ _ (by simp))
  have hmo : MapIs intV nmV ((w.alloc (.map #[] 0)).alloc (.map #[] 0)) (w.heap.size + 1) [] := by
    have e : (w.alloc (.map #[] 0)).heap.size = w.heap.size + 1 := by simp
    have := MapIs.new (kenc := intV) (venc := nmV) (w.alloc (.map #[] 0))
    rwa [e] at this
  have hb2 : Below w.heap.size w ((w.alloc (.map #[] 0)).alloc (.map #[] 0)) := (below_alloc1 _).trans ((below_alloc1 _).mono (by simp))
  have hcb : ((w.alloc (.map #[] 0)).alloc (.map #[] 0)).cell? ⟨Bv, 0, none⟩ = some (.slice a l.length cap) := by
    rw [cell_of_row _ _ _ _ 119 (0, 0) ((hb2.block _ (lt_of_heap hb)).trans hb)]; rfl
  obtain ⟨w2, hw2⟩ : ∃ w2, (w.alloc (.map #[] 0)).alloc (.map #[] 0) = w2 := ⟨_, rfl⟩
  rw [hw2] at hml hmo hb2 hcb
  have HML := Lib.hid hml
  have HMO := Lib.hid hmo
  have HB2 := Lib.hid hb2
  have HW2 := Lib.hid hw2
  have HCB := Lib.hid hcb
  clear hml hmo hb2 hw2 hn ha hb hcb
  go_enter Try.func75, Try.ntmps75
  go_upto_region 2 with (fail)
  rw [HW2.out]
  have hcb := HCB.out
  go_wp2_with fail
  clear hcb
  obtain ⟨Ml, hMl⟩ : ∃ Ml, Ml = w.heap.size := ⟨_, rfl⟩
  obtain ⟨Mo, hMo⟩ : ∃ Mo, Mo = w.heap.size + 1 := ⟨_, rfl⟩
  rw [← hMo, ← hMl]
  rw [← hMo] at HMO
  rw [← hMl] at HML
  have hne : Ml ≠ Mo := by omega
  have hl1 : w.heap.size ≤ Ml := by omega
  have ho1 : w.heap.size ≤ Mo := by omega
  clear hMo hMl
  go_loopw [15] (fun io wr => ∃ (q : Nat) (lm : List ((Int × V8) × Nm)) (om : List (Int × Nm)), q ≤ l.length ∧ io = .int .i64 q ∧ MapIs putV nmV wr Ml lm ∧ MapIs intV nmV wr Mo om ∧ WhI l q lm om ∧ Below w.heap.size w wr) (fun io _ => l.length - (intOf io).toNat)
  case atStart => exact ⟨0, [], [], Nat.zero_le _, rfl, HML.out, HMO.out, ⟨fun _ _ => rfl, fun i _ h => by omega⟩, HB2.out⟩
  case round =>
    obtain ⟨q, lm, om, hq, rfl, hml, hmo, hI, hB⟩ := hrel
    have HMLr := Lib.hid hml
    have HMOr := Lib.hid hmo
    have HIr := Lib.hid hI
    have HBr := Lib.hid hB
    clear hml hmo hI hB
    by_cases hlt : q < l.length
    · obtain ⟨x, hx⟩ : ∃ x, l[q]? = some x := ⟨_, List.getElem?_eq_getElem hlt⟩
      obtain ⟨b, off, rfl, hb, hr⟩ := rows_some HN.out HA.out hlt
      obtain ⟨c0, c1, c2, c3, c4, c5, c6, c7, c8, c9, c10, c11, c12, c13⟩ := (hr.below hb HBr.out).sn hx
      have HX := Lib.hid hx
      have HLT := Lib.hid hlt
      have hmlr := HMLr.out.lt
      have hmor := HMOr.out.lt
      have KL : Hid (∀ o o', MapIs putV nmV ((wr.alloc o).alloc o') Ml lm) := fun o o' => (HMLr.out.kept (Below.heap_alloc _ _ _ hmlr)).kept (Below.heap_alloc _ _ _ (by simp; omega))
      have KO : Hid (∀ o o', MapIs intV nmV ((wr.alloc o).alloc o') Mo om) := fun o o' => (HMOr.out.kept (Below.heap_alloc _ _ _ hmor)).kept (Below.heap_alloc _ _ _ (by simp; omega))
      have KB : Hid (∀ o o', Below w.heap.size w ((wr.alloc o).alloc o')) := fun o o' => (HBr.out.alloc HBr.out.size o).alloc (by have := HBr.out.size; simp; omega) o'
      clear hr hx hlt
      by_cases hk1 : x.k = 1
      · have e1 : (x.k == 1) = true := by simp [hk1]
        have hz : (((look lm (x.b, x.v)).map nmV).getD (nmV nz)) = nmV (lastW (l.take q) x.b x.v) := by
          rw [← HIr.out.1]
          cases look lm (x.b, x.v) <;> rfl
        have HNX := Lib.hid (HIr.out.read HX.out hk1)
        have HZ := Lib.hid hz
        clear hk1 hz
        go_wp2_with (first | (refine wpList_look Try.underlying143 putKey zero34 (KL.out _ _) rfl (.tmp 31) (.tmp 32) rfl rfl (x.b, x.v) rfl ?_; rw [HZ.out]) | (refine wpList_put (venc := nmV) Try.underlying122 intKey (KO.out _ _) rfl (.tmp 29) (.tmp 30) (.tmp 33) rfl rfl (q : Int) rfl (lastW (l.take q) x.b x.v) rfl ?_; intro w3 hg3 hm3; have HG3 := Lib.hid hg3; have HM3 := Lib.hid hm3; clear hg3 hm3))
        go_roundw
        case rel => exact ⟨q + 1, lm, _, by have := HLT.out; omega, by go_num, (KL.out _ _).kept (HG3.out.block _ (KL.out _ _).lt (fun e => hne (by cases e; rfl))), HM3.out, HNX.out, (KB.out _ _).grown HG3.out (KB.out _ _).size (fun k e => by cases e; exact ho1)⟩
        case measure => have := HLT.out; simp [intOf]; omega
      · have e1 : (x.k == 1) = false := by simp [hk1]
        by_cases hk2 : x.k = 2
        · have e2 : (x.k == 2) = true := by simp [hk2]
          have HNX := Lib.hid (HIr.out.write HX.out hk2)
          clear hk1 hk2
          go_wp2_with (refine wpList_put (venc := nmV) Try.underlying143 putKey (KL.out _ _) rfl (.tmp 36) (.tmp 37) (.tmp 39) rfl rfl (x.b, x.v) rfl x.n rfl ?_; intro w3 hg3 hm3; have HG3 := Lib.hid hg3; have HM3 := Lib.hid hm3; clear hg3 hm3)
          go_roundw
          case rel => exact ⟨q + 1, _, om, by have := HLT.out; omega, by go_num, HM3.out, (KO.out _ _).kept (HG3.out.block _ (KO.out _ _).lt (fun e => hne (by cases e; rfl))), HNX.out, (KB.out _ _).grown HG3.out (KB.out _ _).size (fun k e => by cases e; exact hl1)⟩
          case measure => have := HLT.out; simp [intOf]; omega
        · have e2 : (x.k == 2) = false := by simp [hk2]
          have HNX := Lib.hid (HIr.out.skip HX.out hk1 hk2)
          clear hk1 hk2
          go_wp2_with fail
          go_roundw
          case rel => exact ⟨q + 1, lm, om, by have := HLT.out; omega, by go_num, KL.out _ _, KO.out _ _, HNX.out, KB.out _ _⟩
          case measure => have := HLT.out; simp [intOf]; omega
    · go_wp2_with fail
      go_ret
      refine ⟨⟨Mo, om, rfl, ho1, HMOr.out, fun i x hx hk => HIr.out.2 i x ?_ hx hk⟩, HBr.out⟩
      have := (List.getElem?_eq_some_iff.1 hx).1
      omega

end Go.Proofs.Ytgdmgeihgkbjaaa
/- 'witness.kind' -/
namespace Go.Proofs.Ytgdmgeihgkbjaaa
open Go.RowKit Go.Shelf

theorem zero3 (w : World) : (zeroValue 3).run Try.prog w = .ok (.int .i64 0) w := by simp [go_sem]

theorem drewn1 (w : World) (n : Nat) : ∃ k, w.drewN n = w.drewN k := ⟨n, rfl⟩
theorem drewn2 (w : World) (n m : Nat) : ∃ k, (w.drewN n).drewN m = w.drewN k := ⟨n + m, World.drewN_drewN _ _ _⟩
theorem drewn3 (w : World) (n m r : Nat) : ∃ k, ((w.drewN n).drewN m).drewN r = w.drewN k := ⟨n + (m + r), by rw [World.drewN_drewN, World.drewN_drewN]⟩

theorem lookup_place {W : World} {Mp : Nat} {ns : List Nm} (hn : ns.Nodup) (hm : MapIs nmV intV W Mp (plF [] ns 0)) (n : Nm) (k : Nat) :
    (Instr.lookup 117 (.map (some Mp)) (.agg #[.int .i64 n.s, .int .i64 n.i, .int .i64 n.t]) false).run Try.prog (W.drewN k) = .ok (.int .i64 (placeOf ns n)) (W.drewN k) := by
  have h := run_look (w := W.drewN k) Try.underlying117 nmKey zero3 (hm.kept (w' := W.drewN k) (show (W.drewN k).heap[Mp]? = W.heap[Mp]? from rfl)) n
  have e : (((look (plF [] ns 0) n).map intV).getD (.int .i64 0)) = .int .i64 (placeOf ns n) := by
    rw [← look_place ns hn n]
    cases look (plF [] ns 0) n <;> rfl
  rw [e] at h
  exact h

set_option maxRecDepth 100000 in
set_option maxHeartbeats 4000000 in
theorem kind_any (f : Ft) (ns : List Nm) (hn : ns.Nodup) (Bv Bf Mp : Nat) (y z : Value) (w : World) (hb : w.heap[Bv]? = some (.cells #[y, z, .map (some Mp)] 119 (0, 0))) (hf : w.heap[Bf]? = some (.cells (ftArr f) 59 (0, 0))) (hm : MapIs nmV intV w Mp (plF [] ns 0)) :
    Calls Try.prog 76 #[.pointer (some ⟨Bv, 0, none⟩), .pointer (some ⟨Bf, 0, none⟩)] w fun e w' => e = .returned (.int .i8 (kindP ns f.n f.was f.got)) ∧ ∃ k, w' = w.drewN k := by
  have cv : w.cell? ⟨Bv, 2, none⟩ = some (.map (some Mp)) := by rw [cell_of_row w _ _ _ 119 (0, 0) hb]; rfl
  have hc : ∀ j u, (ftArr f)[j]? = some u → w.cell? ⟨Bf, j, none⟩ = some u := fun j u hu => by rw [cell_of_row w _ _ _ 59 (0, 0) hf]; exact hu
  have n0 : w.cell? ⟨Bf, 1, none⟩ = some (.int .i64 f.n.s) := hc 1 _ rfl
  have n1 : w.cell? ⟨Bf, 2, none⟩ = some (.int .i64 f.n.i) := hc 2 _ rfl
  have n2 : w.cell? ⟨Bf, 3, none⟩ = some (.int .i64 f.n.t) := hc 3 _ rfl
  have g0 : w.cell? ⟨Bf, 13, none⟩ = some (.int .u8 f.got.a) := hc 13 _ rfl
  have g1 : w.cell? ⟨Bf, 14, none⟩ = some (.int .u8 f.got.b) := hc 14 _ rfl
  have g2 : w.cell? ⟨Bf, 15, none⟩ = some (.int .u8 f.got.c) := hc 15 _ rfl
  have g3 : w.cell? ⟨Bf, 16, none⟩ = some (.int .u8 f.got.d) := hc 16 _ rfl
  have g4 : w.cell? ⟨Bf, 17, none⟩ = some (.int .u8 f.got.e) := hc 17 _ rfl
  have g5 : w.cell? ⟨Bf, 18, none⟩ = some (.int .u8 f.got.f) := hc 18 _ rfl
  have g6 : w.cell? ⟨Bf, 19, none⟩ = some (.int .u8 f.got.g) := hc 19 _ rfl
  have g7 : w.cell? ⟨Bf, 20, none⟩ = some (.int .u8 f.got.h) := hc 20 _ rfl
  have w0 : w.cell? ⟨Bf, 24, none⟩ = some (.int .i64 f.was.s) := hc 24 _ rfl
  have w1 : w.cell? ⟨Bf, 25, none⟩ = some (.int .i64 f.was.i) := hc 25 _ rfl
  have w2 : w.cell? ⟨Bf, 26, none⟩ = some (.int .i64 f.was.t) := hc 26 _ rfl
  have lw := fun k => lookup_place hn hm f.was k
  have ln := fun k => lookup_place hn hm f.n k
  have ez := eql_nm_z f.was
  have eg := neq_v8_z f.got
  have en := eql_nm f.was f.n
  have HK : Hid (kindP ns f.n f.was f.got = if f.was = nz ∧ f.got ≠ z0 then 4 else if f.was = f.n then 3 else if f.was ≠ nz ∧ placeOf ns f.was = 0 then 2 else if placeOf ns f.was > placeOf ns f.n then 1 else 0) := rfl
  clear hb hf hm hc hn
  generalize placeOf ns f.was = pw at *
  generalize placeOf ns f.n = pn at *
  have fin : ∀ r : Int, kindP ns f.n f.was f.got = r → Hid (kindP ns f.n f.was f.got = r) := fun _ h => h
  by_cases hz : f.was = nz
  · have d1 : decide (f.was = ⟨0, 0, 0⟩) = true := by simpa [nz] using hz
    by_cases hg : f.got = z0
    · have d2 : decide (f.got = ⟨0, 0, 0, 0, 0, 0, 0, 0⟩) = true := by simpa [z0] using hg
      by_cases hs : f.was = f.n
      · have d3 : decide (f.was = f.n) = true := by simpa using hs
        have HR := fin 3 (by rw [HK.out, if_neg (fun h => h.2 hg), if_pos hs])
        clear hz hg hs fin
        go_enter Try.func76, Try.ntmps76
        go_wp2_with fail
        go_step3
        go_wp2_with fail
        go_step3
        go_wp2_with fail
        go_quiet (fail)
        go_wp2_with fail
        try rw [Exit.noGoto_ret]
        go_ret
        exact ⟨by rw [HR.out]; rfl, by first | exact drewn1 _ _ | exact drewn2 _ _ _ | exact drewn3 _ _ _ _⟩
      · have d3 : decide (f.was = f.n) = false := by simpa using hs
        by_cases hp : pw > pn
        · have d4 : decide (pw > pn) = true := by simpa using hp
          have HR := fin 1 (by rw [HK.out, if_neg (fun h => h.2 hg), if_neg hs, if_neg (fun h => h.1 hz), if_pos hp])
          clear hz hg hs hp fin
          go_enter Try.func76, Try.ntmps76
          go_wp2_with fail
          go_step3
          go_wp2_with fail
          go_step3
          go_wp2_with fail
          go_quiet (fail)
          go_wp2_with fail
          go_quiet (fail)
          go_wp2_with fail
          go_quiet (fail)
          go_wp2_with fail
          try rw [Exit.noGoto_ret]
          go_ret
          exact ⟨by rw [HR.out]; rfl, by first | exact drewn1 _ _ | exact drewn2 _ _ _ | exact drewn3 _ _ _ _⟩
        · have d4 : decide (pw > pn) = false := by simpa using hp
          have HR := fin 0 (by rw [HK.out, if_neg (fun h => h.2 hg), if_neg hs, if_neg (fun h => h.1 hz), if_neg hp])
          clear hz hg hs hp fin
          go_enter Try.func76, Try.ntmps76
          go_wp2_with fail
          go_step3
          go_wp2_with fail
          go_step3
          go_wp2_with fail
          go_quiet (fail)
          go_wp2_with fail
          go_quiet (fail)
          go_wp2_with fail
          go_quiet (fail)
          go_wp2_with fail
          try rw [Exit.noGoto_ret]
          go_ret
          exact ⟨by rw [HR.out]; rfl, by first | exact drewn1 _ _ | exact drewn2 _ _ _ | exact drewn3 _ _ _ _⟩
    · have d2 : decide (f.got = ⟨0, 0, 0, 0, 0, 0, 0, 0⟩) = false := by simpa [z0] using hg
      have HR := fin 4 (by rw [HK.out, if_pos ⟨hz, hg⟩])
      clear hz hg fin
      go_enter Try.func76, Try.ntmps76
      go_wp2_with fail
      go_step3
      go_wp2_with fail
      go_step3
      go_wp2_with fail
      try rw [Exit.noGoto_ret]
      go_ret
      exact ⟨by rw [HR.out]; rfl, 0, rfl⟩
  · have d1 : decide (f.was = ⟨0, 0, 0⟩) = false := by simpa [nz] using hz
    by_cases hs : f.was = f.n
    · have d3 : decide (f.was = f.n) = true := by simpa using hs
      have HR := fin 3 (by rw [HK.out, if_neg (fun h => hz h.1), if_pos hs])
      clear hz hs fin
      go_enter Try.func76, Try.ntmps76
      go_wp2_with fail
      go_step3
      go_wp2_with fail
      go_step3
      go_wp2_with fail
      go_quiet (fail)
      go_wp2_with fail
      try rw [Exit.noGoto_ret]
      go_ret
      exact ⟨by rw [HR.out]; rfl, by first | exact drewn1 _ _ | exact drewn2 _ _ _ | exact drewn3 _ _ _ _⟩
    · have d3 : decide (f.was = f.n) = false := by simpa using hs
      by_cases h0 : pw = 0
      · have d5 : (pw == 0) = true := by simpa using h0
        have HR := fin 2 (by rw [HK.out, if_neg (fun h => hz h.1), if_neg hs, if_pos ⟨hz, h0⟩])
        clear hz hs h0 fin
        go_enter Try.func76, Try.ntmps76
        go_wp2_with fail
        go_step3
        go_wp2_with fail
        go_step3
        go_wp2_with fail
        go_quiet (fail)
        go_wp2_with fail
        go_quiet (fail)
        go_wp2_with fail
        try rw [Exit.noGoto_ret]
        go_ret
        exact ⟨by rw [HR.out]; rfl, by first | exact drewn1 _ _ | exact drewn2 _ _ _ | exact drewn3 _ _ _ _⟩
      · have d5 : (pw == 0) = false := by simpa using h0
        by_cases hp : pw > pn
        · have d4 : decide (pw > pn) = true := by simpa using hp
          have HR := fin 1 (by rw [HK.out, if_neg (fun h => hz h.1), if_neg hs, if_neg (fun h => h0 h.2), if_pos hp])
          clear hz hs hp h0 fin
          go_enter Try.func76, Try.ntmps76
          go_wp2_with fail
          go_step3
          go_wp2_with fail
          go_step3
          go_wp2_with fail
          go_quiet (fail)
          go_wp2_with fail
          go_quiet (fail)
          go_wp2_with fail
          go_quiet (fail)
          go_wp2_with fail
          try rw [Exit.noGoto_ret]
          go_ret
          exact ⟨by rw [HR.out]; rfl, by first | exact drewn1 _ _ | exact drewn2 _ _ _ | exact drewn3 _ _ _ _⟩
        · have d4 : decide (pw > pn) = false := by simpa using hp
          have HR := fin 0 (by rw [HK.out, if_neg (fun h => hz h.1), if_neg hs, if_neg (fun h => h0 h.2), if_neg hp])
          clear hz hs hp h0 fin
          go_enter Try.func76, Try.ntmps76
          go_wp2_with fail
          go_step3
          go_wp2_with fail
          go_step3
          go_wp2_with fail
          go_quiet (fail)
          go_wp2_with fail
          go_quiet (fail)
          go_wp2_with fail
          go_quiet (fail)
          go_wp2_with fail
          try rw [Exit.noGoto_ret]
          go_ret
          exact ⟨by rw [HR.out]; rfl, by first | exact drewn1 _ _ | exact drewn2 _ _ _ | exact drewn3 _ _ _ _⟩

end Go.Proofs.Ytgdmgeihgkbjaaa
/- A map from names to rows of places that the call makes: m[n] = append(m[n], i) -/
namespace Go.Proofs.Ytgdmgeihgkbjaaa
open Go.RowKit Go.Shelf

section
variable {κ β : Type} [DecidableEq κ] {kenc : κ → Value} {venc : β → Value} {F : Fence} {n : Nat}

theorem wpListIn_entry {T K E : TypeId} (hT : Try.prog.underlying T = some (.map K E)) (hk : KeyOK K kenc) {z : β} (hz : ∀ w, (zeroValue E).run Try.prog w = .ok (venc z) w) {w : World} {b : Nat} {m : List (κ × β)} (hm : MapIs kenc venc w b m)
    {ops : Array Oper} {rest : List Oper} {o : Oper} {a : Act} {Q : Exit → Act → World → Prop} (hg : o.guard = none) (x y : Operand) (ho : o.op = .mapEntry T x y) (hx : a.eval x = .map (some b)) (k : κ) (hy : a.eval y = kenc k)
    (h : ∀ w' (st : Nat), w.grownBy w' (some b) → w'.heap.size = w.heap.size → EntryIs kenc venc w' b (withKey m k z) k st → wpListIn F n Try.prog ops Q rest (a.put o.dst (.tuple #[venc ((look m k).getD z), .int .i64 (st : Int)])) w') : wpListIn F n Try.prog ops Q (o :: rest) a w := by
  refine wpListIn_plain hg fun K' hK' => ?_
  obtain ⟨w', st, hr, h1, h2, h3⟩ := run_entry_m hT hk hz hm k
  unfold Oper.wpIn
  refine ⟨by simp [Oper.about, ho], ?_⟩
  rw [Oper.semAt_plain F _ _ (by rw [ho]; intro c hc'; cases hc')]
  simp only [execOp, ho, hx, hy, Sem.run_bind, hr, Result.andThen_ok, Sem.run_pure]
  exact hK' _ _ (h w' st h1 h2 h3)

theorem wpListIn_estore {T : TypeId} {w : World} {b : Nat} {m : List (κ × β)} {k : κ} {st : Nat} (hm : EntryIs kenc venc w b m k st)
    {ops : Array Oper} {rest : List Oper} {o : Oper} {a : Act} {Q : Exit → Act → World → Prop} (hg : o.guard = none) (x y z : Operand) (ho : o.op = .entryStore T x y z) (hx : a.eval x = .map (some b)) (hy : a.eval y = .int .i64 (st : Int)) (v : β) (hz : a.eval z = venc v)
    (h : ∀ w', w.grownBy w' (some b) → w'.heap.size = w.heap.size → MapIs kenc venc w' b (put m k v) → wpListIn F n Try.prog ops Q rest (a.put o.dst undef) w') : wpListIn F n Try.prog ops Q (o :: rest) a w := by
  refine wpListIn_plain hg fun K' hK' => ?_
  obtain ⟨w', hr, h1, h2, h3⟩ := run_store_m (T := T) hm v
  have hr' : (Instr.entryStore T (.map (some b)) (.int .i64 (st : Int)) (venc v)).run Try.prog w = .ok () w' := hr
  unfold Oper.wpIn
  refine ⟨by simp [Oper.about, ho], ?_⟩
  rw [Oper.semAt_plain F _ _ (by rw [ho]; intro c hc'; cases hc')]
  simp only [execOp, ho, hx, hy, hz, Sem.run_bind, hr', Result.andThen_ok, Sem.run_pure]
  exact hK' _ _ (h w' h1 h2 h3)

end

def slNil : Value := .slice none 0 0
theorem zero30 (w : World) : (zeroValue 30).run Try.prog w = .ok (id slNil) w := by simp [go_sem, slNil]

def natV (i : Nat) : Value := .int .i64 (i : Int)

/-- The map Ms holds, of each name with steps in p, the row of their places; the rows lie in blocks of their own. -/
structure GroupI (base : Nat) (W : World) (Ms : Nat) (m : List (Nm × Value)) (p : List Sn) : Prop where
  map : MapIs nmV id W Ms m
  own : ∀ n v, look m n = some v → W.ownsRow base 3 1 v (idxN n p 0).length ((idxN n p 0).map natV)
  non : ∀ n, look m n = none → idxN n p 0 = []
  apart : ∀ n n' v v' g, look m n = some v → look m n' = some v' → v.ownBlock = some g → v'.ownBlock = some g → n = n'
  low : Ms < base

theorem GroupI.new (W : World) (base : Nat) (h : W.heap.size < base) : GroupI base (W.alloc (.map #[] 0)) W.heap.size [] [] :=
  ⟨MapIs.new W, fun _ _ h => by simp [look] at h, fun _ _ => rfl, fun _ _ _ _ _ h => by simp [look] at h, h⟩

theorem GroupI.kept {base : Nat} {W W' : World} {Ms : Nat} {m : List (Nm × Value)} {p : List Sn} (h : GroupI base W Ms m p) (hm : W'.heap[Ms]? = W.heap[Ms]?) (hb : ∀ k c t f, base ≤ k → W.heap[k]? = some (.cells c t f) → W'.heap[k]? = some (.cells c t f)) : GroupI base W' Ms m p := by
  refine ⟨h.map.kept hm, fun n v hl => ?_, h.non, h.apart, h.low⟩
  obtain ⟨h1, h2⟩ := h.own n v hl
  refine ⟨h1, ?_⟩
  rcases h2 with h2 | ⟨g, cap, cur, e1, e2, e3, e4⟩
  · exact .inl h2
  · exact .inr ⟨g, cap, cur, e1, e2, hb g _ _ _ e2 e3, e4⟩

theorem GroupI.alloc {base : Nat} {W : World} {Ms : Nat} {m : List (Nm × Value)} {p : List Sn} (h : GroupI base W Ms m p) (o : Obj) : GroupI base (W.alloc o) Ms m p :=
  h.kept (Below.heap_alloc W o _ h.map.lt) (fun _ _ _ _ _ hk => (Below.heap_alloc W o _ (lt_of_heap hk)).trans hk)

/-- The value that the entry holds ahead of the append. -/
theorem GroupI.old {base : Nat} {W : World} {Ms : Nat} {m : List (Nm × Value)} {p : List Sn} (h : GroupI base W Ms m p) (n : Nm) : W.ownsRow base 3 1 ((look m n).getD slNil) (idxN n p 0).length ((idxN n p 0).map natV) := by
  cases hl : look m n with
  | none => rw [h.non n hl]; exact World.ownsRow_nil _ _ _ _
  | some v => exact h.own n v hl

theorem look_withKey (m : List (Nm × Value)) (n n' : Nm) : look (withKey m n slNil) n' = if n = n' then some ((look m n).getD slNil) else look m n' := by
  unfold withKey
  cases hl : look m n with
  | none =>
    rw [look_put]
    by_cases e : n = n'
    · simp [e]
    · simp [e]
  | some v =>
    by_cases e : n = n'
    · subst e; simp [hl]
    · simp [e]

theorem look_put_with (m : List (Nm × Value)) (n n' : Nm) (v : Value) : look (put (withKey m n slNil) n v) n' = if n = n' then some v else look m n' := by
  rw [look_put]
  by_cases e : n = n'
  · simp [e]
  · rw [if_neg e, look_withKey, if_neg e, if_neg e]

/-- One step more. -/
theorem GroupI.snoc {base : Nat} {W W3 : World} {Ms : Nat} {m : List (Nm × Value)} {p : List Sn} {x : Sn} (h : GroupI base W Ms m p) {v' : Value} (hm : MapIs nmV id W3 Ms (put (withKey m x.n slNil) x.n v'))
    (hown : W3.ownsRow base 3 1 v' ((idxN x.n p 0).length + 1) ((idxN x.n p 0).map natV ++ [natV p.length]))
    (hkeep : ∀ k c t f, base ≤ k → ((look m x.n).getD slNil).ownBlock ≠ some k → W.heap[k]? = some (.cells c t f) → W3.heap[k]? = some (.cells c t f))
    (hloc : v'.ownBlock = ((look m x.n).getD slNil).ownBlock ∨ ∃ g, v'.ownBlock = some g ∧ W.heap.size ≤ g) : GroupI base W3 Ms (put (withKey m x.n slNil) x.n v') (p ++ [x]) := by
  have hnew : ∀ n v g, look m n = some v → n ≠ x.n → v.ownBlock = some g → v'.ownBlock ≠ some g := by
    intro n v g hl hne hg hg'
    rcases hloc with e | ⟨g', e, hlt⟩
    · rw [e] at hg'
      cases hlx : look m x.n with
      | none => rw [hlx] at hg'; cases hg'
      | some u =>
        rw [hlx] at hg'
        exact hne (h.apart n x.n v u g hl hlx hg hg')
    · rw [e] at hg'
      cases hg'
      have := ((h.own n v hl).lt g hg).2
      omega
  refine ⟨hm, fun n v hl => ?_, fun n hl => ?_, fun n n' v u g hl hl' hg hg' => ?_, h.low⟩
  · rw [look_put_with] at hl
    rw [idxN_snoc]
    by_cases e : x.n = n
    · subst e
      rw [if_pos rfl] at hl
      cases hl
      rw [if_pos rfl]
      simpa using hown
    · rw [if_neg e] at hl
      rw [if_neg e]
      obtain ⟨h1, h2⟩ := h.own n v hl
      refine ⟨h1, ?_⟩
      rcases h2 with h2 | ⟨g, cap, cur, e1, e2, e3, e4⟩
      · exact .inl h2
      · refine .inr ⟨g, cap, cur, e1, e2, hkeep g _ _ _ e2 (fun hh => ?_) e3, e4⟩
        cases hlx : look m x.n with
        | none => rw [hlx] at hh; cases hh
        | some u =>
          rw [hlx] at hh
          exact e (h.apart x.n n u v g hlx hl hh (by rw [e1]; rfl))
  · rw [look_put_with] at hl
    by_cases e : x.n = n
    · rw [if_pos e] at hl; cases hl
    · rw [if_neg e] at hl
      rw [idxN_snoc, if_neg e]
      exact h.non n hl
  · rw [look_put_with] at hl hl'
    by_cases e : x.n = n
    · by_cases e' : x.n = n'
      · rw [← e, ← e']
      · rw [if_pos e] at hl
        rw [if_neg e'] at hl'
        cases hl
        exact absurd hg (hnew n' u g hl' (fun h => e' h.symm) hg')
    · rw [if_neg e] at hl
      by_cases e' : x.n = n'
      · rw [if_pos e'] at hl'
        cases hl'
        exact absurd hg' (hnew n v g hl (fun h => e h.symm) hg)
      · rw [if_neg e'] at hl'
        exact h.apart n n' v u g hl hl' hg hg'

end Go.Proofs.Ytgdmgeihgkbjaaa
/- A range over a function whose iterator writes cells that it has made itself between its calls of yield: what the caller may ask. The body never leaves the loop. -/
namespace Go.Proofs.Ytgdmgeihgkbjaaa
open Go.RowKit Go.Shelf

/-- A world one step on: of what lay, only a block from lo on and below hi has turned. -/
def OwnTurn (lo hi : Nat) (A A' : World) : Prop := ∃ row, A.grownBy A' row ∧ ∀ r, row = some r → lo ≤ r ∧ r < hi

/-- The iterator g hands out ys, one by one. I b k: k have been handed out; the iterator's own blocks lie below b (and not below its start): it may turn those, and lay new ones. -/
def SeqX {α : Type} (n g : Nat) (lb : Array Value) (encs : α → Array Value) (Kp : World → World → Prop) (ys : List α) (w : World) : Prop :=
  ∀ (l : Nat) (I : Nat → Nat → World → Prop) (W : World), Below w.heap.size w W →
    (∀ W1, Below W.heap.size W W1 → I W1.heap.size 0 W1) → (∀ b k A A', I b k A → OwnTurn W.heap.size b A A' → I b k A') →
    (∀ b k x A, I b k A → ys[k]? = some x → YieldAt Fence.wide (n - 1) Try.prog l (encs x) A fun e A' => e = .returned (.bool true) ∧ I b (k + 1) A' ∧ Kp A A') →
    CallsIn Fence.wide n Try.prog g (#[.func (.yield l) #[] #[]] ++ lb) W fun e W' => (∃ v, e = .returned v) ∧ ∃ b, I b ys.length W'

/-- What a round's body owes. -/
def bodyPostX (D : Nat) (Kp : World → World → Prop) (G : World → Prop) (A : World) : Exit → Act → World → Prop
  | .normal, _, A' => (∀ j, j = D ∨ j = D + 1 → A'.heap[j]? = A.heap[j]?) ∧ Kp A A' ∧ G A'
  | _, _, _ => False

theorem own_putObj {lo hi l : Nat} (A : World) (o : Obj) (h1 : lo ≤ l) (h2 : l < hi) : OwnTurn lo hi A (A.putObj l o) := ⟨some l, grownBy_putObj A l o, fun r e => by cases e; exact ⟨h1, h2⟩⟩

theorem wpIn_rangeX {α : Type} {n : Nat} {g : Operand} {ps : Array Tmp} {assign body : Code} {Q : Exit → Act → World → Prop} {a : Act} {w w0 : World} (h1 : 1 ≤ n) {gf : Nat} {lb : Array Value} (hg : a.eval g = .func (.func gf) #[] lb)
    (eg : ∀ args w, (callFunc gf args).run Try.prog w = .ok (.enter gf args) w) {encs : α → Array Value} {Kp : World → World → Prop} {ys : List α} (hseq : SeqX (n - 1) gf lb encs Kp ys w0) (hb0 : Below w0.heap.size w0 w) (hps : ∀ x, (encs x).size = ps.size)
    (hKt : ∀ {A B C : World}, Kp A B → Kp B C → Kp A C) (hKb : ∀ A r r', A.heap[w.heap.size + 1]? = some (.loop r) → Kp A (A.putObj (w.heap.size + 1) (.loop r')))
    (G : Nat → Nat → World → Prop) (hG0 : ∀ W1, Below w.heap.size w W1 → w.heap.size + 2 ≤ W1.heap.size → G W1.heap.size 0 W1) (hGab : ∀ b k A A', G b k A → OwnTurn w.heap.size b A A' → G b k A') (Ax : α → Act → World → Prop) (hAx : ∀ x a' A r, Ax x a' A → Ax x a' (A.putObj (w.heap.size + 1) (.loop r)))
    (hassign : ∀ l b k x A K, ys[k]? = some x → G b k A → (∀ a' A', (∀ j, j = w.heap.size ∨ j = w.heap.size + 1 → A'.heap[j]? = A.heap[j]?) → Kp A A' → G b k A' → Ax x a' A' → K a' A') → w.heap.size + 1 < A.heap.size →
      assign.wpIn (Fence.wide.inRound l) (n - 1 - 1) Try.prog (Exit.then K (fun _ _ _ => False)) { tmps := (ps.zip (encs x)).foldl (fun t (p, v) => t.setIfInBounds p v) a.tmps, defers := [] } A)
    (hbody : ∀ l b k x a' A, ys[k]? = some x → G b k A → Ax x a' A → w.heap.size + 1 < A.heap.size → w.heap.size + 1 < b → body.wpIn (Fence.wide.inRound l) (n - 1 - 1) Try.prog (bodyPostX w.heap.size Kp (G b (k + 1)) A) a' A)
    (hdone : ∀ b W, G b ys.length W → W.heap[w.heap.size]? = some (.deferred (some [])) → Q .normal { a with defers := { target := .collected w.heap.size, args := #[] } :: a.defers } W) :
    (Code.rangeFunc g ps assign body).wpIn Fence.wide n Try.prog Q a w := by
  refine wpIn_rangeFunc ?_
  intro fn hfn
  let R : LoopState → Loop := fun st => { state := st, pending := none, fn := fn, tmps := a.tmps, params := ps, assign := assign, body := body, defers := w.heap.size }
  obtain ⟨W1, hW1⟩ : ∃ W1, (w.alloc (.deferred (some []))).alloc (.loop (R .ready)) = W1 := ⟨_, rfl⟩
  have hs1 : W1.heap.size = w.heap.size + 2 := by rw [← hW1]; simp
  have hbw : Below w.heap.size w W1 := by rw [← hW1]; exact (below_alloc1 _).trans ((below_alloc1 _).mono (by simp))
  have hl1 : W1.heap[w.heap.size + 1]? = some (.loop (R .ready)) := by rw [← hW1]; exact heap_alloc2_new w _ _
  have hd1 : W1.heap[w.heap.size]? = some (.deferred (some [])) := by rw [← hW1]; exact heap_alloc2_old w _ _
  refine ⟨w.heap.size + 1, [{ target := .collected w.heap.size, args := #[] }], W1, { target := .fn (.func gf) lb, args := #[.func (.yield (w.heap.size + 1)) #[] #[]] }, W1, gf, #[.func (.yield (w.heap.size + 1)) #[] #[]] ++ lb, W1, ?_, ?_, fun _ _ => trivial, ?_, fun _ => h1, ?_⟩
  · exact (run_enterLoop_outer fn a.tmps ps assign body).trans (by rw [← hW1])
  · simp only [resolve, hg]
    simp [go_sem]
  · simp [invoke, go_sem, eg]
  -- the iterator's contract, at the caller's invariant and the two blocks of the loop's own
  let I : Nat → Nat → World → Prop := fun b k A => G b k A ∧ A.heap[w.heap.size + 1]? = some (.loop (R .ready)) ∧ A.heap[w.heap.size]? = some (.deferred (some [])) ∧ w.heap.size + 1 < b
  have hit := hseq (w.heap.size + 1) I W1 (hb0.trans (hbw.mono hb0.size)) (fun W2 hb2 => ?_) (fun b k A A' hI ht => ?_) (fun b k x A hI hx => ?_)
  · refine hit.mono ?_
    rintro e W2 ⟨⟨v, rfl⟩, b, hG, hl, hd, hlt⟩
    have hend := run_endLoop (P := Try.prog) hl (by simp [R])
    refine ⟨none, _, hend, hdone b _ (hGab b _ _ _ hG (own_putObj W2 _ (by omega) hlt)) ((World.putObj_heap_other (by omega)).trans hd)⟩
  · exact ⟨hG0 W2 (hbw.trans (hb2.mono (by omega))) (by have := hb2.size; omega), (hb2.block _ (by omega)).trans hl1, (hb2.block _ (by omega)).trans hd1, by have := hb2.size; omega⟩
  · obtain ⟨hG, hl, hd, hlt⟩ := hI
    obtain ⟨row, hgr, hr⟩ := ht
    refine ⟨hGab b k A A' hG ⟨row, hgr, fun r e => ⟨by have := (hr r e).1; omega, (hr r e).2⟩⟩, ?_, ?_, hlt⟩
    · exact (hgr.block _ (lt_of_heap hl) (fun e => by have := (hr _ e.symm).1; omega)).trans hl
    · exact (hgr.block _ (lt_of_heap hd) (fun e => by have := (hr _ e.symm).1; omega)).trans hd
  · obtain ⟨hG, hl, hd, hlt⟩ := hI
    have hy := run_yield (P := Try.prog) (args := encs x) hl (hps x)
    refine ⟨fn, _, assign, body, hy, roundIn_of_wpIn hfn (hassign (w.heap.size + 1) b k x A _ hx hG ?_ (lt_of_heap hl))⟩
    intro a' A1 hk1 hp1 hG1 hA1
    have hl2 := (hk1 _ (.inr rfl)).trans hl
    have hd2 := (hk1 _ (.inl rfl)).trans hd
    refine ⟨_, run_beginRound hl2 rfl, ?_⟩
    have hlt2 := lt_of_heap hl2
    generalize hA2 : A1.putObj (w.heap.size + 1) (.loop { R .ready with state := .busy }) = A2
    have hl3 : A2.heap[w.heap.size + 1]? = some (.loop (R .busy)) := by rw [← hA2]; exact World.putObj_heap_same hlt2
    have hd3 : A2.heap[w.heap.size]? = some (.deferred (some [])) := by rw [← hA2]; exact (World.putObj_heap_other (by omega)).trans hd2
    have hp2 : Kp A1 A2 := hA2 ▸ hKb A1 _ _ hl2
    have hG2 : G b k A2 := hA2 ▸ hGab b k _ _ hG1 (own_putObj A1 _ (by omega) hlt)
    have hX2 : Ax x a' A2 := hA2 ▸ hAx x a' A1 _ hA1
    refine wpIn_mono (hbody (w.heap.size + 1) b k x a' A2 hx hG2 hX2 (lt_of_heap hl3) hlt) ?_
    rintro e a3 A3 hp
    cases e with
    | normal =>
      obtain ⟨hk3, hp3, hG3⟩ := hp
      have hl4 := (hk3 _ (.inr rfl)).trans hl3
      have hd4 := (hk3 _ (.inl rfl)).trans hd3
      have hend := run_endRound (P := Try.prog) none hl4
      refine ⟨_, _, hend, rfl, ⟨hGab b _ _ _ hG3 (own_putObj A3 _ (by omega) hlt), World.putObj_heap_same (lt_of_heap hl4), (World.putObj_heap_other (by omega)).trans hd4, hlt⟩, ?_⟩
      exact hKt hp1 (hKt (hKt hp2 hp3) (hKb A3 _ _ hl4))
    | _ => exact hp.elim

end Go.Proofs.Ytgdmgeihgkbjaaa
/- What 'reads' writes of its own: the steps that the blocks hold. -/
namespace Go.Proofs.Ytgdmgeihgkbjaaa
open Go.RowKit Go.Shelf

def hdArr (h : List Sn) : Array Value := (h.flatMap Sn.cells).toArray
theorem zero124 : Try.zeroCells124 = hdArr h0 := by kernel_rfl
theorem Sn.cells_len (x : Sn) : x.cells.length = 14 := rfl

theorem hd_cell {w : World} {B i : Nat} {h : List Sn} {y : Sn} {t : TypeId} {fr : Nat × Nat} (hB : w.heap[B]? = some (.cells (hdArr h) t fr)) (hi : h[i]? = some y) (j : Nat) (c : Value) (hj : y.cells[j]? = some c) : w.cell? ⟨B, i * 14 + j, none⟩ = some c := by
  have hj8 : j < 14 := by
    have := (List.getElem?_eq_some_iff.1 hj).1
    simpa [Sn.cells_len] using this
  rw [cell_of_row w B _ _ t fr hB]
  simp only [hdArr, List.getElem?_toArray]
  rw [flat_get Sn.cells_len h i y hi j hj8]
  exact hj

theorem st_hd {w : World} {B i : Nat} {h : List Sn} (x : Sn) {t : TypeId} (hB : w.heap[B]? = some (.cells (hdArr h) t (0, 0))) (hi : i < h.length) :
    (storeVar 36 ⟨B, i * 14, none⟩ (.agg (snArr x))).run Try.prog w = .ok () (w.setRow B (hdArr (h.set i x))) := by
  have h' := run_storeCells_row (P := Try.prog) w B (i * 14) (h.flatMap Sn.cells) t x.cells hB (by rw [Sn.cells_len]; simp only [flat_length Sn.cells_len]; omega) x.cells_one
  rw [flat_set Sn.cells_len h i x hi] at h'
  have hs : ((Value.agg (snArr x)).cells.size ≠ 14) = False := by simp [snArr, Value.cells]
  simp only [storeVar, Sem.run_bind, Try.sizeOf36, Result.andThen_ok, hs, if_false]
  exact h'

theorem wpListIn_store_hd {F : Fence} {n : Nat} {ops : Array Oper} {rest : List Oper} {o : Oper} {a : Act} {w : World} {Q : Exit → Act → World → Prop} (hgd : o.guard = none) (x y : Operand) (ho : o.op = .store 36 x y)
    (B i : Nat) (hx : a.eval x = .pointer (some ⟨B, i * 14, none⟩)) (v : Sn) (hy : a.eval y = .agg (snArr v)) {s : List Sn} {t : TypeId} (hB : w.heap[B]? = some (.cells (hdArr s) t (0, 0))) (hi : i < s.length)
    (h : ∀ w', w.grownBy w' (some B) → w'.heap[B]? = some (.cells (hdArr (s.set i v)) t (0, 0)) → wpListIn F n Try.prog ops Q rest (a.put o.dst undef) w') : wpListIn F n Try.prog ops Q (o :: rest) a w :=
  wpListIn_store hgd 36 x y ho ⟨B, i * 14, none⟩ hx (.agg (snArr v)) hy (st_hd v hB hi) (h _ (grownBy_setRow _ _ _) (setRow_heap w B _ _ t _ hB))

/-- Cells and maps, all but those of the blocks from n₀ to n₁, lie as they lay. -/
def DK (n₀ n₁ : Nat) (W W' : World) : Prop := ∀ k o, (k < n₀ ∨ n₁ ≤ k) → isData o → W.heap[k]? = some o → W'.heap[k]? = some o

section
variable {n₀ n₁ : Nat} {A B C : World}
theorem DK.refl (n₀ n₁ : Nat) (W : World) : DK n₀ n₁ W W := fun _ _ _ _ h => h
theorem DK.trans (h : DK n₀ n₁ A B) (k : DK n₀ n₁ B C) : DK n₀ n₁ A C := fun j o hj ho hA => k j o hj ho (h j o hj ho hA)
theorem DK.ck (h : DK n₀ n₁ A B) : CK n₀ n₁ A B := fun k o hk ho hA => h k o hk (.inl ho) hA
theorem dk_alloc (W : World) (o : Obj) : DK n₀ n₁ W (W.alloc o) := fun k _ _ _ h => (Below.heap_alloc W o k (lt_of_heap h)).trans h
theorem DK.grown (h : DK n₀ n₁ A B) {row : Option Nat} (hg : B.grownBy C row) (hr : ∀ r, row = some r → A.heap.size ≤ r) : DK n₀ n₁ A C := fun k o hk ho hA => by
  have hB := h k o hk ho hA
  refine (hg.block k (lt_of_heap hB) (fun e => ?_)).trans hB
  have := hr k e.symm
  have := lt_of_heap hA
  omega
/-- Over a yield. -/
theorem DK.keep (h : DK n₀ n₁ A B) {bo : Option Nat} {b : Nat} (hk : Keep n₀ n₁ bo B C) (hA : A.heap.size ≤ b) (hr : ∀ k, k < b → rowOf bo B k → n₀ ≤ k ∧ k < n₁) : DK n₀ n₁ A C := fun k o hj ho hA' => by
  have := lt_of_heap hA'
  refine hk.same k o (hj.imp id fun h1 => ⟨h1, fun hr' => ?_⟩) (h k o hj ho hA') ho
  have := hr k (by omega) hr'
  omega
theorem DK.mapIs {κ β : Type} [DecidableEq κ] {kenc : κ → Value} {venc : β → Value} {M : Nat} {m : List (κ × β)} (h : DK n₀ n₁ A B) (hm : MapIs kenc venc A M m) (hM : M < n₀ ∨ n₁ ≤ M) : MapIs kenc venc B M m := by
  obtain ⟨es, clock, h1, h2⟩ := hm
  exact ⟨es, clock, h M _ hM (.inr rfl) h1, h2⟩
theorem DK.sns (h : DK n₀ n₁ A B) {v : Value} {l : List Sn} (hv : Sns n₀ A v l) : Sns n₀ B v l := by
  obtain ⟨a, cap, e, hn, hr⟩ := hv
  refine ⟨a, cap, e, hn, fun b off s ha hl => ?_⟩
  obtain ⟨h1, h2, h3⟩ := hr b off s ha hl
  exact ⟨h1, h2, h3.ck h.ck (.inl h2)⟩
theorem DK.group (h : DK n₀ n₁ A B) {base Ms : Nat} {m : List (Nm × Value)} {p : List Sn} (hg : GroupI base A Ms m p) (h1 : n₁ ≤ Ms) : GroupI base B Ms m p := by
  refine hg.kept ?_ (fun k c t f hk hc => h k _ (.inr (by have := hg.low; omega)) (.inl rfl) hc)
  obtain ⟨es, clock, hm, _⟩ := hg.map
  exact (h Ms _ (.inr h1) (.inr rfl) hm).trans hm.symm
end

/-- m[n] = append(m[n], i), all of it. -/
theorem GroupI.step {base Ms : Nat} {W W2 W3 W4 : World} {m : List (Nm × Value)} {p : List Sn} {x : Sn} (h : GroupI base W Ms m p) {v' : Value} (h2 : W.grownBy W2 (some Ms)) (s2 : W2.heap.size = W.heap.size)
    (hown : W3.ownsRow base 3 1 v' ((idxN x.n p 0).length + 1) ((idxN x.n p 0).map natV ++ [natV p.length])) (h3 : W2.grownBy W3 ((look m x.n).getD slNil).ownBlock) (hloc : v'.ownBlock = ((look m x.n).getD slNil).ownBlock ∨ v'.ownBlock = some W2.heap.size)
    (h4 : W3.grownBy W4 (some Ms)) (hm : MapIs nmV id W4 Ms (put (withKey m x.n slNil) x.n v')) : GroupI base W4 Ms (put (withKey m x.n slNil) x.n v') (p ++ [x]) := by
  have hlow := h.low
  have hblk : ∀ k c t f, base ≤ k → ((look m x.n).getD slNil).ownBlock ≠ some k → W.heap[k]? = some (.cells c t f) → W4.heap[k]? = some (.cells c t f) := by
    intro k c t f hk hne hW
    have a2 := cells_turn hW h2 (by omega)
    have a3 := (h3.block k (lt_of_heap a2) (fun e => hne e.symm)).trans a2
    exact cells_turn a3 h4 (by omega)
  refine h.snoc hm ?_ hblk ?_
  · obtain ⟨h1, hr⟩ := hown
    refine ⟨h1, ?_⟩
    rcases hr with hr | ⟨g, cap, cur, e1, e2, e3, e4⟩
    · exact .inl hr
    · exact .inr ⟨g, cap, cur, e1, e2, cells_turn e3 h4 (by omega), e4⟩
  · rcases hloc with e | e
    · exact .inl e
    · exact .inr ⟨_, e, by omega⟩

theorem news_far {W W' : World} {r g : Nat} {xs : List Value} (hg : W.grownBy W' (some r)) (h : ∀ j u, xs[j]? = some u → W.cell? ((⟨g, 0, none⟩ : Addr).add j) = some u) (hne : g ≠ r) :
    ∀ j u, xs[j]? = some u → W'.cell? ((⟨g, 0, none⟩ : Addr).add j) = some u := fun j u hu => hg.cell (h j u hu) (fun e => hne (by unfold Addr.add at e; split at e <;> simpa using e))

/-- The entry stands until it is stored. -/
theorem GroupI.entry {base Ms : Nat} {W W2 W3 : World} {m : List (Nm × Value)} {p : List Sn} {n : Nm} {st : Nat} (h : GroupI base W Ms m p) (he : EntryIs nmV id W2 Ms (withKey m n slNil) n st) (h3 : W2.grownBy W3 ((look m n).getD slNil).ownBlock) : EntryIs nmV id W3 Ms (withKey m n slNil) n st :=
  he.kept (h3.block Ms he.lt (fun e => by
    have := ((h.old n).lt Ms e.symm).1
    have := h.low
    omega))

/-- The old row lies as it lay behind the entry's making. -/
theorem GroupI.row2 {base Ms : Nat} {W W2 : World} {m : List (Nm × Value)} {p : List Sn} (n : Nm) (h : GroupI base W Ms m p) (h2 : W.grownBy W2 (some Ms)) : W2.ownsRow base 3 1 ((look m n).getD slNil) (idxN n p 0).length ((idxN n p 0).map natV) := by
  obtain ⟨h1, hr⟩ := h.old n
  refine ⟨h1, ?_⟩
  have := h.low
  rcases hr with hr | ⟨g, cap, cur, e1, e2, e3, e4⟩
  · exact .inl hr
  · exact .inr ⟨g, cap, cur, e1, e2, cells_turn e3 h2 (by omega), e4⟩

/-- What the loop over the names has yet to hand out. -/
def todo (l : List Sn) (ns : List Nm) (q j : Nat) : List (Nm × Nat) := match ns[q]? with | none => [] | some n => ((idxN n l 0).drop j).map (fun i => (n, i)) ++ pairsP l (ns.drop (q + 1))

theorem pairs_drop (l : List Sn) (ns : List Nm) (q : Nat) : pairsP l (ns.drop q) = todo l ns q 0 := by
  unfold todo
  cases h : ns[q]? with
  | none => rw [List.drop_eq_nil_of_le (by simpa using h)]; rfl
  | some n =>
    obtain ⟨hlt, rfl⟩ := List.getElem?_eq_some_iff.1 h
    simp only [pairsP, List.drop_zero]
    rw [List.drop_eq_getElem_cons hlt, List.flatMap_cons]

theorem todo_next {l : List Sn} {ns : List Nm} {q j i : Nat} {n : Nm} (hn : ns[q]? = some n) (hi : (idxN n l 0)[j]? = some i) : todo l ns q j = (n, i) :: todo l ns q (j + 1) := by
  unfold todo
  rw [hn]
  obtain ⟨hlt, rfl⟩ := List.getElem?_eq_some_iff.1 hi
  simp only
  rw [List.drop_eq_getElem_cons hlt]
  rfl

theorem todo_end {l : List Sn} {ns : List Nm} {q j : Nat} {n : Nm} (hn : ns[q]? = some n) (hj : (idxN n l 0).length ≤ j) : todo l ns q j = pairsP l (ns.drop (q + 1)) := by
  unfold todo
  rw [hn]
  simp only
  rw [List.drop_eq_nil_of_le hj]
  rfl

theorem emit_nil (l : List Sn) (ns : List Nm) (h : List Sn) : emit l ns [] h = [] := rfl
theorem emit_skip {l : List Sn} {ns : List Nm} {n : Nm} {i : Nat} {x : Sn} (hx : l[i]? = some x) (h2 : x.k ≠ 2) (h1 : x.k ≠ 1) (r : List (Nm × Nat)) (h : List Sn) : emit l ns ((n, i) :: r) h = emit l ns r h := by
  simp [emit, hx, h1, h2]
theorem emit_write {l : List Sn} {ns : List Nm} {n : Nm} {i : Nat} {x : Sn} (hx : l[i]? = some x) (h2 : x.k = 2) (r : List (Nm × Nat)) (h : List Sn) : emit l ns ((n, i) :: r) h = emit l ns r (h.set x.b.toNat x) := by
  simp [emit, hx, h2]
theorem emit_read {l : List Sn} {ns : List Nm} {n : Nm} {i : Nat} {x : Sn} (hx : l[i]? = some x) (h1 : x.k = 1) (r : List (Nm × Nat)) (h : List Sn) : emit l ns ((n, i) :: r) h = ftOf l ns h n i x :: emit l ns r h := by
  simp [emit, hx, h1]

/-- What is left is what it was, less the one handed out. -/
theorem drop_of_cons {α : Type} {ys r : List α} {k : Nat} {y : α} (h : ys.drop k = y :: r) : ys[k]? = some y ∧ ys.drop (k + 1) = r := by
  have h1 : ys[k]? = some y := by
    have := congrArg (fun l => l[0]?) h
    simpa [List.getElem?_drop] using this
  refine ⟨h1, ?_⟩
  have h2 := congrArg (List.drop 1) h
  rw [List.drop_drop] at h2
  simpa [Nat.add_comm] using h2

end Go.Proofs.Ytgdmgeihgkbjaaa
/- What stands in the loops of 'reads': the caller's invariant, the holds, what lies as it lay, the box of a name. -/
namespace Go.Proofs.Ytgdmgeihgkbjaaa
open Go.RowKit Go.Shelf

/-- A row that bo holds lies in the heap. -/
def RowIn (bo : Option Nat) (A : World) : Prop := ∀ k, rowOf bo A k → k < A.heap.size
/-- What an iterator asks of a round that may hand a box on. -/
def KeepR (n₀ n₁ : Nat) (bo : Option Nat) (A B : World) : Prop := Keep n₀ n₁ bo A B ∧ (RowIn bo A → RowIn bo B)

/-- What does not change over the loops. -/
structure EmC (n₀ n₁ : Nat) (bo : Option Nat) (lo : Nat) (w2 : World) (I : Nat → Nat → World → Prop) : Prop where
  it : ∀ b k A A', I b k A → OwnTurn lo b A A' → I b k A'
  nn : n₁ ≤ w2.heap.size
  lo : lo ≤ w2.heap.size
  bo : ∀ b, bo = some b → b < w2.heap.size

structure EmI (n₀ n₁ : Nat) (bo : Option Nat) (w2 : World) (I : Nat → Nat → World → Prop) (h : List Sn) (k : Nat) (A : World) : Prop where
  inv : I (w2.heap.size + 1) k A
  hold : A.heap[w2.heap.size]? = some (.cells (hdArr h) 124 (0, 0))
  len : h.length = 32
  dk : DK n₀ n₁ w2 A
  rows : ∀ j, j < w2.heap.size + 1 → rowOf bo A j → n₀ ≤ j ∧ j < n₁
  size : w2.heap.size + 1 ≤ A.heap.size
  rin : RowIn bo A

section
variable {n₀ n₁ lo k : Nat} {bo : Option Nat} {w2 A A' : World} {I : Nat → Nat → World → Prop} {h : List Sn}

theorem EmI.alloc (e : EmI n₀ n₁ bo w2 I h k A) (c : EmC n₀ n₁ bo lo w2 I) (o : Obj) : EmI n₀ n₁ bo w2 I h k (A.alloc o) := by
  have hs := e.size
  have hro : ∀ j, rowOf bo (A.alloc o) j → rowOf bo A j := fun j hr => rowOf_of_block (fun b hb => Below.heap_alloc A o b (by have := c.bo b hb; omega)) hr
  refine ⟨c.it _ _ _ _ e.inv ⟨none, World.grownBy_alloc A o none, fun r hr => by cases hr⟩, (Below.heap_alloc A o _ (lt_of_heap e.hold)).trans e.hold, e.len, e.dk.trans (dk_alloc A o), fun j hj hr => e.rows j hj (hro j hr), by simp; omega, fun j hr => by have := e.rin j (hro j hr); simp; omega⟩

theorem EmI.drew (e : EmI n₀ n₁ bo w2 I h k A) (c : EmC n₀ n₁ bo lo w2 I) (m : Nat) : EmI n₀ n₁ bo w2 I h k (A.drewN m) := by
  refine ⟨c.it _ _ _ _ e.inv ⟨none, ?_, fun r hr => by cases hr⟩, e.hold, e.len, e.dk, fun j hj hr => e.rows j hj hr, e.size, e.rin⟩
  exact ⟨rfl, rfl, rfl, Nat.le_refl _, fun _ _ _ => rfl⟩

theorem EmI.set (e : EmI n₀ n₁ bo w2 I h k A) (c : EmC n₀ n₁ bo lo w2 I) {i : Nat} {x : Sn} (hg : A.grownBy A' (some w2.heap.size)) (hh : A'.heap[w2.heap.size]? = some (.cells (hdArr (h.set i x)) 124 (0, 0))) : EmI n₀ n₁ bo w2 I (h.set i x) k A' := by
  have hs := e.size
  have hz := hg.size
  have hro : ∀ j, rowOf bo A' j → rowOf bo A j := fun j hr => rowOf_of_block (fun b hb => hg.block b (by have := c.bo b hb; omega) (fun e2 => by have := c.bo b hb; cases e2; omega)) hr
  refine ⟨c.it _ _ _ _ e.inv ⟨_, hg, fun r hr => by cases hr; exact ⟨c.lo, by omega⟩⟩, hh, by simp [e.len], e.dk.grown hg (fun r hr => by cases hr; exact Nat.le_refl _), fun j hj hr => e.rows j hj (hro j hr), by omega, fun j hr => by have := e.rin j (hro j hr); omega⟩

theorem EmI.yield (e : EmI n₀ n₁ bo w2 I h k A) (c : EmC n₀ n₁ bo lo w2 I) (hi : I (w2.heap.size + 1) (k + 1) A') (hkr : KeepR n₀ n₁ bo A A') : EmI n₀ n₁ bo w2 I h (k + 1) A' := by
  have hs := e.size
  have hk := hkr.1
  have hz := hk.size
  have hnn := c.nn
  refine ⟨hi, hk.same _ _ (.inr ⟨hnn, fun hr => ?_⟩) e.hold (.inl rfl), e.len, e.dk.keep (b := w2.heap.size + 1) hk (by omega) e.rows, fun j hj hr => ?_, by omega, hkr.2 e.rin⟩
  · have := (e.rows _ (by omega) hr).2
    omega
  · rcases hk.row j hr with h1 | h1
    · exact e.rows j hj h1
    · omega
end

/-- A box behind n₁ that is no row of the caller's. -/
structure FarBox (n₁ : Nat) (bo : Option Nat) (B : Nat) (o : Obj) (A : World) : Prop where
  far : n₁ ≤ B
  row : ¬ rowOf bo A B
  box : A.heap[B]? = some o

section
variable {n₀ n₁ B : Nat} {bo : Option Nat} {A A' : World} {o : Obj}
theorem FarBox.new (hn : n₁ ≤ A.heap.size) (hbo : ∀ b, bo = some b → b < A.heap.size) (hr : ¬ rowOf bo A A.heap.size) (o : Obj) : FarBox n₁ bo A.heap.size o (A.alloc o) :=
  ⟨hn, fun h => hr (rowOf_of_block (fun b hb => Below.heap_alloc A o b (hbo b hb)) h), heap_alloc_new A o⟩
theorem FarBox.grown (f : FarBox n₁ bo B o A) {row : Option Nat} (hg : A.grownBy A' row) (hbo : ∀ b, bo = some b → b < A.heap.size ∧ some b ≠ row) (hB : some B ≠ row) : FarBox n₁ bo B o A' :=
  ⟨f.far, fun h => f.row (rowOf_of_block (fun b hb => hg.block b (hbo b hb).1 (hbo b hb).2) h), (hg.block B (lt_of_heap f.box) hB).trans f.box⟩
theorem FarBox.alloc (f : FarBox n₁ bo B o A) (hbo : ∀ b, bo = some b → b < A.heap.size) (o' : Obj) : FarBox n₁ bo B o (A.alloc o') :=
  f.grown (World.grownBy_alloc A o' none) (fun b hb => ⟨hbo b hb, by simp⟩) (by simp)
theorem FarBox.drew (f : FarBox n₁ bo B o A) (m : Nat) : FarBox n₁ bo B o (A.drewN m) := ⟨f.far, f.row, f.box⟩
theorem FarBox.yield (f : FarBox n₁ bo B o A) (ho : isData o) (hk : Keep n₀ n₁ bo A A') : FarBox n₁ bo B o A' :=
  ⟨f.far, fun h => (hk.row B h).elim f.row (fun h1 => by have := lt_of_heap f.box; omega), hk.same _ _ (.inr ⟨f.far, f.row⟩) f.box ho⟩
end

theorem DK.cell {n₀ n₁ : Nat} {A B : World} (h : DK n₀ n₁ A B) {ad : Addr} {v : Value} (hk : ad.block < n₀ ∨ n₁ ≤ ad.block) (hc : A.cell? ad = some v) : B.cell? ad = some v := by
  have hc' := hc
  unfold World.cell? at hc'
  cases ho : A.heap[ad.block]? with
  | none => rw [ho] at hc'; cases hc'
  | some o =>
    have hd : isData o := by rw [ho] at hc'; cases o <;> first | exact .inl rfl | cases hc'
    exact (World.cell?_of_block ((h _ _ hk hd ho).trans ho.symm)).trans hc

/-- The row of a name's places. -/
theorem GroupI.rows {base Ms : Nat} {W : World} {m : List (Nm × Value)} {p : List Sn} (h : GroupI base W Ms m p) (n : Nm) : ∃ ga gc, (look m n).getD slNil = .slice ga (idxN n p 0).length gc ∧
    ∀ (j i : Nat), (idxN n p 0)[j]? = some i → ∃ g, ga = some ⟨g, 0, none⟩ ∧ base ≤ g ∧ W.cell? ⟨g, j, none⟩ = some (.int .i64 (i : Int)) := by
  have ho := h.old n
  obtain ⟨_, hr⟩ := ho
  rcases hr with ⟨e1, e2⟩ | ⟨g, cap, cur, e1, e2, e3, e4, e5, e6, e7⟩
  · refine ⟨none, 0, by rw [e1, e2], fun j i hj => ?_⟩
    rw [List.length_eq_zero_iff.1 e2] at hj
    simp at hj
  · refine ⟨_, cap, e1, fun j i hj => ⟨g, rfl, e2, ?_⟩⟩
    have hlt := (List.getElem?_eq_some_iff.1 hj).1
    rw [cell_of_row W g j cur 3 (0, 0) e3]
    have h7 := congrArg (fun l => l[j]?) e7
    simp only [List.getElem?_take, List.getElem?_map, hj, Option.map_some] at h7
    rw [if_pos (by omega)] at h7
    simpa [natV] using h7

/-- What a fault's making reads. -/
def EmF (w2 A : World) (kn Bx i : Nat) (nm : Nm) (x y : Sn) : Prop := A.cell? ⟨kn, 0, none⟩ = some (.int .i64 nm.s) ∧ A.cell? ⟨kn, 1, none⟩ = some (.int .i64 nm.i) ∧ A.cell? ⟨kn, 2, none⟩ = some (.int .i64 nm.t) ∧ A.cell? ⟨Bx, 4, none⟩ = some (.int .i64 x.b) ∧ A.cell? ⟨Bx, 5, none⟩ = some (.int .u8 x.v.a) ∧ A.cell? ⟨Bx, 6, none⟩ = some (.int .u8 x.v.b) ∧ A.cell? ⟨Bx, 7, none⟩ = some (.int .u8 x.v.c) ∧ A.cell? ⟨Bx, 8, none⟩ = some (.int .u8 x.v.d) ∧ A.cell? ⟨Bx, 9, none⟩ = some (.int .u8 x.v.e) ∧ A.cell? ⟨Bx, 10, none⟩ = some (.int .u8 x.v.f) ∧ A.cell? ⟨Bx, 11, none⟩ = some (.int .u8 x.v.g) ∧ A.cell? ⟨Bx, 12, none⟩ = some (.int .u8 x.v.h) ∧ A.cell? ⟨w2.heap.size, i * 14 + 5, none⟩ = some (.int .u8 y.v.a) ∧ A.cell? ⟨w2.heap.size, i * 14 + 6, none⟩ = some (.int .u8 y.v.b) ∧ A.cell? ⟨w2.heap.size, i * 14 + 7, none⟩ = some (.int .u8 y.v.c) ∧ A.cell? ⟨w2.heap.size, i * 14 + 8, none⟩ = some (.int .u8 y.v.d) ∧ A.cell? ⟨w2.heap.size, i * 14 + 9, none⟩ = some (.int .u8 y.v.e) ∧ A.cell? ⟨w2.heap.size, i * 14 + 10, none⟩ = some (.int .u8 y.v.f) ∧ A.cell? ⟨w2.heap.size, i * 14 + 11, none⟩ = some (.int .u8 y.v.g) ∧ A.cell? ⟨w2.heap.size, i * 14 + 12, none⟩ = some (.int .u8 y.v.h) ∧ A.cell? ⟨w2.heap.size, i * 14 + 1, none⟩ = some (.int .i64 y.n.s) ∧ A.cell? ⟨w2.heap.size, i * 14 + 2, none⟩ = some (.int .i64 y.n.i) ∧ A.cell? ⟨w2.heap.size, i * 14 + 3, none⟩ = some (.int .i64 y.n.t)

theorem emit_facts {n₀ n₁ k kn Bx i : Nat} {bo : Option Nat} {w2 A : World} {I : Nat → Nat → World → Prop} {h : List Sn} {nm : Nm} {x y : Sn} (e : EmI n₀ n₁ bo w2 I h k A)
    (f : FarBox n₁ bo kn (.cells #[.int .i64 nm.s, .int .i64 nm.i, .int .i64 nm.t] 34) A) (hx : A.heap[Bx]? = some (.cells (snArr x) 36 (0, 0))) (hy : h[i]? = some y) :
    EmF w2 A kn Bx i nm x y := by
  refine ⟨?_, ?_, ?_, ?_, ?_, ?_, ?_, ?_, ?_, ?_, ?_, ?_, ?_, ?_, ?_, ?_, ?_, ?_, ?_, ?_, ?_, ?_, ?_⟩
  · rw [cell_of_row A _ _ _ 34 (0, 0) f.box]; rfl
  · rw [cell_of_row A _ _ _ 34 (0, 0) f.box]; rfl
  · rw [cell_of_row A _ _ _ 34 (0, 0) f.box]; rfl
  · rw [cell_of_row A _ _ _ 36 (0, 0) hx]; rfl
  · rw [cell_of_row A _ _ _ 36 (0, 0) hx]; rfl
  · rw [cell_of_row A _ _ _ 36 (0, 0) hx]; rfl
  · rw [cell_of_row A _ _ _ 36 (0, 0) hx]; rfl
  · rw [cell_of_row A _ _ _ 36 (0, 0) hx]; rfl
  · rw [cell_of_row A _ _ _ 36 (0, 0) hx]; rfl
  · rw [cell_of_row A _ _ _ 36 (0, 0) hx]; rfl
  · rw [cell_of_row A _ _ _ 36 (0, 0) hx]; rfl
  · rw [cell_of_row A _ _ _ 36 (0, 0) hx]; rfl
  · exact hd_cell e.hold hy 5 _ rfl
  · exact hd_cell e.hold hy 6 _ rfl
  · exact hd_cell e.hold hy 7 _ rfl
  · exact hd_cell e.hold hy 8 _ rfl
  · exact hd_cell e.hold hy 9 _ rfl
  · exact hd_cell e.hold hy 10 _ rfl
  · exact hd_cell e.hold hy 11 _ rfl
  · exact hd_cell e.hold hy 12 _ rfl
  · exact hd_cell e.hold hy 1 _ rfl
  · exact hd_cell e.hold hy 2 _ rfl
  · exact hd_cell e.hold hy 3 _ rfl

theorem info59 : (Try.prog.info? 59).map (·.size) = some 28 := by kernel_rfl
def ftz : Ft := ⟨0, nz, 0, z0, z0, nz, nz, 0⟩
theorem ftArr_one (f : Ft) : (ftArr f).all (·.oneCell') = true := by kernel_rfl

theorem st_ft (w0 : World) (f : Ft) : (storeVar 59 ⟨w0.heap.size, 0, none⟩ (.agg (ftArr f))).run Try.prog (w0.alloc (.cells (ftArr ftz) 59)) = .ok () (w0.alloc (.cells (ftArr f) 59)) := by
  have h := run_storeVar_row (P := Try.prog) (w0.alloc (.cells (ftArr ftz) 59)) w0.heap.size 59 59 (ftArr ftz) (ftArr f) (heap_alloc_new w0 _) info59 rfl (ftArr_one f)
  rwa [World.setRow_alloc_new] at h

theorem ld_ft {w : World} {B : Nat} {f : Ft} {t : TypeId} {fr : Nat × Nat} (hB : w.heap[B]? = some (.cells (ftArr f) t fr)) : (loadVar 59 ⟨B, 0, none⟩).run Try.prog w = .ok (.agg (ftArr f)) w :=
  run_loadVar_row w B t 59 (ftArr f) fr _ hB Try.underlying59 rfl info59

/-- A fault's kind laid down. -/
theorem st_kind (w0 : World) (i : Int) (n : Nm) (b : Int) (u v : V8) (m r : Nm) (k0 k : Int) : (storeVar 32 ⟨w0.heap.size, 27, none⟩ (.int .i8 k)).run Try.prog (w0.alloc (.cells (ftArr ⟨i, n, b, u, v, m, r, k0⟩) 59)) = .ok () (w0.alloc (.cells (ftArr ⟨i, n, b, u, v, m, r, k⟩) 59)) := by
  have h := run_storeCells_row (P := Try.prog) (w0.alloc (.cells (ftArr ⟨i, n, b, u, v, m, r, k0⟩) 59)) w0.heap.size 27 (ftArr ⟨i, n, b, u, v, m, r, k0⟩).toList 59 [.int .i8 k] (by simpa using heap_alloc_new w0 (.cells (ftArr ⟨i, n, b, u, v, m, r, k0⟩) 59)) (by simp [ftArr]) (by intro c hc; simp at hc; subst hc; rfl)
  rw [World.setRow_alloc_new] at h
  have hs : ((Value.int .i8 k).cells.size ≠ 1) = False := by simp [Value.cells]
  simp only [storeVar, Sem.run_bind, Try.sizeOf32, Result.andThen_ok, hs, if_false]
  exact h

theorem lookup_was {W : World} {Mo : Nat} {om : List (Int × Nm)} (hm : MapIs intV nmV W Mo om) {i : Int} {n : Nm} (h : look om i = some n) :
    (Instr.lookup 122 (.map (some Mo)) (.int .i64 i) false).run Try.prog W = .ok (.agg #[.int .i64 n.s, .int .i64 n.i, .int .i64 n.t]) W := by
  have h' := run_look (w := W) Try.underlying122 intKey zero34 hm i
  rw [h] at h'
  exact h'

/-- The world over a region that lays one block and fills it. -/
def RdT (w0 A1 A2 : World) (d1 d2 : Bool) (W : World) : Prop := (d1 = false → d2 = false → W = w0) ∧ (d1 = true → d2 = false → W = A1) ∧ (d2 = true → W = A2)
theorem RdT.start {w0 A1 A2 : World} : RdT w0 A1 A2 false false w0 := ⟨fun _ _ => rfl, (fun h => by cases h), (fun h => by cases h)⟩
theorem RdT.laid {w0 A1 A2 : World} : RdT w0 A1 A2 true false A1 := ⟨(fun h => by cases h), fun _ _ => rfl, (fun h => by cases h)⟩
theorem RdT.full {w0 A1 A2 : World} {d : Bool} : RdT w0 A1 A2 d true A2 := ⟨(fun _ h => by cases h), (fun _ h => by cases h), fun _ => rfl⟩

end Go.Proofs.Ytgdmgeihgkbjaaa
/- 'reads': the iterator over the reads that count -/
namespace Go.Proofs.Ytgdmgeihgkbjaaa
open Go.RowKit Go.Shelf
attribute [local go_sem] run_makeMap_plain

set_option maxRecDepth 100000 in
set_option maxHeartbeats 6000000 in
theorem reads74_in (n Bb Bv n₀ n₁ : Nat) (bo : Option Nat) (lv : Value) (l : List Sn) (hl : l.length ≤ 100000) (hm : mayP l = true) (w : World) (hv : Sns n₀ w lv l) (hn : n₀ ≤ n₁) (hn1 : n₁ ≤ w.heap.size)
    (hbo : ∀ b, bo = some b → b < w.heap.size) (hrow : ∀ k, rowOf bo w k → n₀ ≤ k ∧ k < n₁) (hBb : n₁ ≤ Bb) (hb : w.heap[Bb]? = some (.cells #[.pointer (some ⟨Bv, 0, none⟩)] 98 (0, 0))) (hview : ViewAt n₁ w Bv lv (ordR l)) :
    SeqX (n + 9) 74 #[.pointer (some ⟨Bb, 0, none⟩)] (fun f => #[.agg (ftArr f)]) (KeepR n₀ n₁ bo) (readsP l) w := by
  intro lp I W hW hI0 hIt hY
  obtain ⟨va, vc, rfl, hvn, hva⟩ := hv
  obtain ⟨na, nc, Mp, hBv, hMp, hbv, hmp, hnn, hnr⟩ := hview
  -- where all lies at the start
  have hbW : W.heap[Bb]? = some (.cells #[.pointer (some ⟨Bv, 0, none⟩)] 98 (0, 0)) := (hW.block _ (lt_of_heap hb)).trans hb
  have hbvW : W.heap[Bv]? = some (.cells #[.slice va l.length vc, .slice na (ordR l).length nc, .map (some Mp)] 119 (0, 0)) := (hW.block _ (lt_of_heap hbv)).trans hbv
  have HVN := Lib.hid hvn
  have HVA : Hid (∀ b off s, va = some ⟨b, off, s⟩ → 0 < l.length → s = none ∧ b < n₀ ∧ RowsAt Sn.cells 14 W b off l) := fun b off s e h => ⟨(hva b off s e h).1, (hva b off s e h).2.1, (hva b off s e h).2.2.below (B := w.heap.size) (by have := (hva b off s e h).2.1; omega) hW⟩
  obtain ⟨w1, hw1⟩ : ∃ w1, W.alloc (.map #[] 0) = w1 := ⟨_, rfl⟩
  obtain ⟨base, hbase⟩ : ∃ base, base = W.heap.size + 1 := ⟨_, rfl⟩
  have hg1 : GroupI base w1 W.heap.size [] [] := hw1 ▸ GroupI.new W base (by omega)
  have hB1 : Below W.heap.size W w1 := hw1 ▸ below_alloc1 _
  have hs1 : W.heap.size + 1 ≤ w1.heap.size := by rw [← hw1]; simp
  have cb : w1.cell? ⟨Bb, 0, none⟩ = some (.pointer (some ⟨Bv, 0, none⟩)) := by rw [cell_of_row w1 _ _ _ 98 (0, 0) ((hB1.block _ (lt_of_heap hbW)).trans hbW)]; rfl
  have cv : w1.cell? ⟨Bv, 0, none⟩ = some (.slice va l.length vc) := by rw [cell_of_row w1 _ _ _ 119 (0, 0) ((hB1.block _ (lt_of_heap hbvW)).trans hbvW)]; rfl
  rw [← hw1] at cb cv
  have HW1 := Lib.hid hw1
  have HG1 := Lib.hid hg1
  have HB1 := Lib.hid hB1
  have HS1 := Lib.hid hs1
  have HI0 := Lib.hid hI0
  have HIT := Lib.hid hIt
  have HY := Lib.hid hY
  have HBW := Lib.hid hbW
  have HBV := Lib.hid hbvW
  have HM := Lib.hid hm
  have HWW := Lib.hid hW
  have HNV := Lib.hid (And.intro hMp (And.intro hmp (And.intro hnn hnr)))
  have HRW := Lib.hid hrow
  have HBO := Lib.hid hbo
  obtain ⟨Ms, hMs⟩ : ∃ Ms, Ms = W.heap.size := ⟨_, rfl⟩
  clear hw1 hg1 hB1 hs1 hI0 hIt hY hbW hbvW hm hva hvn hb hbv hmp hnn hnr hMp hW hrow hbo
  refine callsIn_of_wp Try.func74 rfl trivial ?_ rfl
  simp only [Try.ntmps74, List.size_toArray, List.length_cons, List.length_nil, Nat.reduceAdd, Nat.reduceSub, Array.replicate_succ, Array.replicate_zero, List.push_toArray, List.append_toArray, List.nil_append, List.cons_append]
  gi_wp2_with fail
  rw [HW1.out]
  clear cb cv
  rw [← hMs] at HG1 ⊢
  have HMS := Lib.hid hMs
  have HBA := Lib.hid hbase
  clear hMs hbase
  obtain ⟨i0, hi, hz0, hz1, hz2⟩ := info_parts info3z
  gi_loopw [21] (fun io wr => ∃ (q : Nat) (m : List (Nm × Value)), q ≤ l.length ∧ io = .int .i64 q ∧ GroupI base wr Ms m (l.take q) ∧ Below W.heap.size W wr ∧ W.heap.size + 1 ≤ wr.heap.size) (fun io _ => l.length - (intOf io).toNat)
  case atStart => exact ⟨0, [], Nat.zero_le _, rfl, HG1.out, HB1.out, HS1.out⟩
  case round =>
    obtain ⟨q, m, hq, rfl, hg, hB, hsz⟩ := hrel
    have HG := Lib.hid hg
    have HB := Lib.hid hB
    clear hg hB
    by_cases hlt : q < l.length
    · obtain ⟨x, hx⟩ : ∃ x, l[q]? = some x := ⟨_, List.getElem?_eq_getElem hlt⟩
      obtain ⟨b, off, rfl, hb, hr⟩ := rows_some HVN.out HVA.out hlt
      obtain ⟨c0, c1, c2, c3, c4, c5, c6, c7, c8, c9, c10, c11, c12, c13⟩ := (hr.below (B := W.heap.size) (by have := HWW.out.size; omega) HB.out).sn hx
      have hk0 : GroupI base ((wr.alloc (.cells (snArr x) 36)).alloc (.cells #[.int .i64 (q : Int)] 3)) Ms m (l.take q) := (HG.out.alloc _).alloc _
      have hB0 : Below W.heap.size W ((wr.alloc (.cells (snArr x) 36)).alloc (.cells #[.int .i64 (q : Int)] 3)) := (HB.out.alloc HB.out.size _).alloc (by have := HB.out.size; simp; omega) _
      have hcn : ∀ j u, [Value.int .i64 (q : Int)][j]? = some u → ((wr.alloc (.cells (snArr x) 36)).alloc (.cells #[.int .i64 (q : Int)] 3)).cell? ((⟨(wr.alloc (.cells (snArr x) 36)).heap.size, 0, none⟩ : Addr).add j) = some u := cell_one_new _ _ _
      have hsz0 : ((wr.alloc (.cells (snArr x) 36)).alloc (.cells #[.int .i64 (q : Int)] 3)).heap.size = wr.heap.size + 2 := by simp
      have hsz1 : (wr.alloc (.cells (snArr x) 36)).heap.size = wr.heap.size + 1 := by simp
      rw [hsz1] at hcn
      have hil := idxN_length x.n (l.take q) 0
      have hil2 : (l.take q).length = q := by rw [List.length_take]; omega
      have hil3 : (idxN x.n (l.take q) 0).length < 100001 := by omega
      obtain ⟨va0, vc0, hv0⟩ := ownsRow_slice (hk0.old x.n)
      have HX := Lib.hid hx
      have HLT := Lib.hid hlt
      have HK0 := Lib.hid hk0
      have HB0 := Lib.hid hB0
      have HCN := Lib.hid hcn
      have HV0 := Lib.hid hv0
      have HZ := Lib.hid (And.intro hsz0 (And.intro hil2 hil3))
      have HNE : Hid (wr.heap.size + 1 ≠ Ms) := (by have := HMS.out; omega : wr.heap.size + 1 ≠ Ms)
      clear hr hx hlt hk0 hB0 hcn hv0 hsz0 hsz1 hil hil2 hil3
      gi_wp2_with (first | (refine wpListIn_entry Try.underlying121 nmKey zero30 HK0.out.map rfl (.tmp 26) (.tmp 28) rfl rfl x.n rfl ?_; intro w2 st hg2 hs2 he2; have HG2 := Lib.hid hg2; have HS2 := Lib.hid hs2; have HE2 := Lib.hid he2; have HR2 := Lib.hid (HK0.out.row2 x.n hg2); clear hg2 hs2 he2; simp only [id_eq]; rw [HV0.out]; rw [HV0.out] at HR2) | (gi_at_builtin; refine wpListIn_append_own_at _ rfl _ _ 30 rfl base 3 i0 (.int .i64 0) 1 8 Try.underlying30 hi hz0 hz1 hz2 rfl (by decide) (.slice va0 (idxN x.n (l.take q) 0).length vc0) (idxN x.n (l.take q) 0).length ((idxN x.n (l.take q) 0).map natV) rfl HR2.out ⟨wr.heap.size + 1, 0, none⟩ 1 1 [.int .i64 (q : Int)] rfl rfl (news_far HG2.out HCN.out HNE.out) (by intro u hu; simp at hu; subst hu; rfl) (by have := HZ.out.2.2; unfold maxLen; omega) (by have := HZ.out.2.2; omega) (by have := HS2.out; have := HZ.out.1; have := HBA.out; omega) ?_; intro v4 w4 hown4 hgrow4 hnil4 hloc4; have HOWN4 := Lib.hid hown4; have HGROW4 := Lib.hid hgrow4; have HLOC4 := Lib.hid hloc4; obtain ⟨g4, cap4, hv4⟩ := ownsRow_succ hown4; have HV4 := Lib.hid hv4; clear hnil4 hloc4 hgrow4 hown4 hv4) | (refine wpListIn_estore (HK0.out.entry HE2.out (HV0.out ▸ HGROW4.out)) rfl (.tmp 26) (.tmp 34) (.tmp 33) rfl rfl rfl v4 rfl ?_; intro w5 hg5 hs5 hm5; have HG5 := Lib.hid hg5; have HS5 := Lib.hid hs5; have HM5 := Lib.hid hm5; clear hg5 hs5 hm5))
      go_roundw
      case rel =>
        have ht : l.take (q + 1) = l.take q ++ [x] := by rw [List.take_add_one, HX.out]; rfl
        have hlow : W.heap.size ≤ Ms := by have := HMS.out; omega
        have hown : w4.ownsRow base 3 1 v4 ((idxN x.n (l.take q) 0).length + 1) ((idxN x.n (l.take q) 0).map natV ++ [natV (l.take q).length]) := by
          rw [HZ.out.2.1]; exact HOWN4.out
        have hsz2 := HK0.out.old x.n
        have hB2 := HB0.out.grown HG2.out HB0.out.size (fun k e => by cases e; exact hlow)
        have hB4 := hB2.grown HGROW4.out hB2.size (fun k e => by
          have h1 := (hsz2.lt k (by rw [HV0.out]; exact e)).1
          have := HBA.out
          omega)
        have hB5 := hB4.grown HG5.out hB4.size (fun k e => by cases e; exact hlow)
        refine ⟨q + 1, _, by have := HLT.out; omega, by go_num, ht ▸ HK0.out.step HG2.out HS2.out hown (HV0.out ▸ HGROW4.out) (HV0.out ▸ HLOC4.out) HG5.out HM5.out, hB5, ?_⟩
        have h1 := HZ.out.1
        have h2 := HGROW4.out.size
        have h3 := HS2.out
        have h5 := HS5.out
        omega
      case measure => have := HLT.out; simp [intOf]; omega
    · obtain rfl : q = l.length := by omega
      have hwh := whose_any l va vc Bv (.slice na (ordR l).length nc) (.map (some Mp)) wr hl ⟨va, vc, rfl, HVN.out, fun b off s e h => ⟨(HVA.out b off s e h).1, by have := (HVA.out b off s e h).2.1; have := HWW.out.size; have := HB.out.size; omega, (HVA.out b off s e h).2.2.below (B := W.heap.size) (by have := (HVA.out b off s e h).2.1; have := HWW.out.size; omega) HB.out⟩⟩ ((HB.out.block _ (lt_of_heap HBV.out)).trans HBV.out)
      have HWH := Lib.hid hwh
      have cb : wr.cell? ⟨Bb, 0, none⟩ = some (.pointer (some ⟨Bv, 0, none⟩)) := by rw [cell_of_row wr _ _ _ 98 (0, 0) ((HB.out.block _ (lt_of_heap HBW.out)).trans HBW.out)]; rfl
      clear hwh
      gi_wp2_with fail
      refine ⟨trivial, ?_⟩
      refine (callsIn_wide.2 HWH.out).mono ?_
      rintro e w2 ⟨⟨Mo, om, rfl, hMo, hmo, hom⟩, hB2⟩
      have HMO := Lib.hid hmo
      have HOM := Lib.hid hom
      have HB2 := Lib.hid hB2
      have HMO2 := Lib.hid hMo
      clear cb hmo hom hB2 hMo
      have hbig : Below W.heap.size W (w2.alloc (.cells (hdArr h0) 124)) := (HB.out.trans (HB2.out.mono HB.out.size)).alloc (by have := HB.out.size; have := HB2.out.size; omega) _
      have cb : (w2.alloc (.cells (hdArr h0) 124)).cell? ⟨Bb, 0, none⟩ = some (.pointer (some ⟨Bv, 0, none⟩)) := by rw [cell_of_row _ _ _ _ 98 (0, 0) ((hbig.block _ (lt_of_heap HBW.out)).trans HBW.out)]; rfl
      have cv : (w2.alloc (.cells (hdArr h0) 124)).cell? ⟨Bv, 1, none⟩ = some (.slice na (ordR l).length nc) := by rw [cell_of_row _ _ _ _ 119 (0, 0) ((hbig.block _ (lt_of_heap HBV.out)).trans HBV.out)]; rfl
      have HBIG := Lib.hid hbig
      clear hbig
      gi_wp2_with (rw [zero124])
      clear cb cv
      have hz2 : W.heap.size ≤ w2.heap.size := Nat.le_trans HB.out.size HB2.out.size
      have hzw : w.heap.size ≤ W.heap.size := HWW.out.size
      have C : EmC n₀ n₁ bo W.heap.size w2 I := ⟨HIT.out, by omega, hz2, fun b hb => by have := HBO.out b hb; omega⟩
      have hw2 : Below W.heap.size W w2 := HB.out.trans (HB2.out.mono HB.out.size)
      have hrw : ∀ j, rowOf bo w2 j → n₀ ≤ j ∧ j < n₁ := fun j hr => HRW.out j (rowOf_of_block (fun b hb => ((hw2.mono hzw).block b (HBO.out b hb)).trans (HWW.out.block b (HBO.out b hb))) hr)
      have hE0 : EmI n₀ n₁ bo w2 I h0 0 (w2.alloc (.cells (hdArr h0) 124)) := by
        have hr3 : ∀ j, rowOf bo (w2.alloc (.cells (hdArr h0) 124)) j → n₀ ≤ j ∧ j < n₁ := fun j hr => hrw j (rowOf_of_block (fun b hb => Below.heap_alloc w2 _ b (C.bo b hb)) hr)
        have hsz3 : (w2.alloc (.cells (hdArr h0) 124)).heap.size = w2.heap.size + 1 := by simp
        refine ⟨hsz3 ▸ HI0.out _ HBIG.out, heap_alloc_new w2 _, by decide, dk_alloc w2 _, fun j _ hr => hr3 j hr, by omega, fun j hr => ?_⟩
        have := (hr3 j hr).2
        omega
      have hgr : GroupI base w2 Ms m l := by
        have hg := HG.out
        rw [List.take_length] at hg
        exact hg.kept (HB2.out.block _ hg.map.lt) (fun k c t f _ hk => (HB2.out.block _ (lt_of_heap hk)).trans hk)
      have hb2 : w2.heap[Bb]? = some (.cells #[.pointer (some ⟨Bv, 0, none⟩)] 98 (0, 0)) := (hw2.block _ (lt_of_heap HBW.out)).trans HBW.out
      have hv2 : w2.heap[Bv]? = some (.cells #[.slice va l.length vc, .slice na (ordR l).length nc, .map (some Mp)] 119 (0, 0)) := (hw2.block _ (lt_of_heap HBV.out)).trans HBV.out
      have hll : ∀ b off s, va = some ⟨b, off, s⟩ → 0 < l.length → s = none ∧ b < n₀ ∧ RowsAt Sn.cells 14 w2 b off l := fun b off s e h => ⟨(HVA.out b off s e h).1, (HVA.out b off s e h).2.1, (HVA.out b off s e h).2.2.below (B := W.heap.size) (by have := (HVA.out b off s e h).2.1; omega) hw2⟩
      have hnm : MapIs nmV intV w2 Mp (plF [] (ordR l) 0) := HNV.out.2.1.kept (((hw2.mono hzw).block _ HNV.out.2.1.lt).trans (HWW.out.block _ HNV.out.2.1.lt))
      have hnr : ∀ b off s, na = some ⟨b, off, s⟩ → 0 < (ordR l).length → s = none ∧ n₁ ≤ b ∧ RowsAt Nm.cells 3 w2 b off (ordR l) := fun b off s e h => by
        obtain ⟨h1, h2⟩ := HNV.out.2.2.2 b off s e
        obtain ⟨h3, h4, h5⟩ := h2 h
        exact ⟨h3, h1, (h5.below (B := w.heap.size) h4 HWW.out).below (B := w.heap.size) h4 (hw2.mono hzw)⟩
      have HE0 := Lib.hid hE0
      have HC := Lib.hid C
      have HGR := Lib.hid hgr
      have HB2' := Lib.hid (And.intro hb2 hv2)
      have HLL := Lib.hid hll
      have HNM := Lib.hid hnm
      have HNR := Lib.hid hnr
      have HNN := Lib.hid HNV.out.2.2.1
      have HMP := Lib.hid HNV.out.1
      have HMOn : Hid (n₁ ≤ Mo) := (by have := HMO2.out; have := HB.out.size; omega : n₁ ≤ Mo)
      have HMSn : Hid (n₁ ≤ Ms ∧ n₁ ≤ base) := (by have := HMS.out; have := HBA.out; omega : n₁ ≤ Ms ∧ n₁ ≤ base)
      have hle := ordR_le l
      have HR0 : Hid ((readsP l).drop 0 = emit l (ordR l) (pairsP l ((ordR l).drop 0)) h0) := Lib.hid rfl
      clear hz2 C hw2 hrw hE0 hgr hb2 hv2 hll hnm hnr hzw
      gi_loopw [43] (fun io wr => ∃ (q k : Nat) (h : List Sn), q ≤ (ordR l).length ∧ k ≤ (readsP l).length ∧ io = .int .i64 q ∧ EmI n₀ n₁ bo w2 I h k wr ∧ (readsP l).drop k = emit l (ordR l) (pairsP l ((ordR l).drop q)) h) (fun io _ => (ordR l).length - (intOf io).toNat)
      case atStart => exact ⟨0, 0, h0, Nat.zero_le _, Nat.zero_le _, rfl, HE0.out, HR0.out⟩
      case round =>
        obtain ⟨wo, rfl⟩ : ∃ wo : World, wo = wr := ⟨_, rfl⟩
        obtain ⟨q, k, h, hq, hkl, rfl, hE, hR⟩ := hrel
        have HE := Lib.hid hE
        have HR := Lib.hid hR
        clear hE hR
        by_cases hlt : q < (ordR l).length
        · obtain ⟨nm, hnm⟩ : ∃ nm, (ordR l)[q]? = some nm := ⟨_, List.getElem?_eq_getElem hlt⟩
          have hne : ∃ nb noff, na = some ⟨nb, noff, none⟩ ∧ n₁ ≤ nb ∧ RowsAt Nm.cells 3 w2 nb noff (ordR l) := by
            rcases na with _ | ⟨nb, noff, s'⟩
            · have := (HNN.out rfl).1; rw [this] at hlt; simp at hlt
            · obtain ⟨rfl, h2, h3⟩ := HNR.out nb noff s' rfl (by omega)
              exact ⟨nb, noff, rfl, h2, h3⟩
          obtain ⟨nb, noff, rfl, hnb, hnrow⟩ := hne
          obtain ⟨y0, y1, y2⟩ := (hnrow.ck HE.out.dk.ck (.inr hnb)).nm hnm
          obtain ⟨ga, gc, hgv, hgc⟩ := HGR.out.rows nm
          have hEA : EmI n₀ n₁ bo w2 I h k (wo.alloc (.cells #[.int .i64 nm.s, .int .i64 nm.i, .int .i64 nm.t] 34)) := HE.out.alloc HC.out _
          have hgm : MapIs nmV id (wo.alloc (.cells #[.int .i64 nm.s, .int .i64 nm.i, .int .i64 nm.t] 34)) Ms m := (hEA.dk.group HGR.out HMSn.out.1).map
          have hlook : (((look m nm).map id).getD slNil) = .slice ga (idxN nm l 0).length gc := by rw [← hgv]; cases look m nm <;> rfl
          have hbo' : ∀ b, bo = some b → b < wo.heap.size := fun b hb => by have := HC.out.bo b hb; have := HE.out.size; omega
          have hFB : FarBox n₁ bo wo.heap.size (.cells #[.int .i64 nm.s, .int .i64 nm.i, .int .i64 nm.t] 34) (wo.alloc (.cells #[.int .i64 nm.s, .int .i64 nm.i, .int .i64 nm.t] 34)) :=
            FarBox.new (by have := HC.out.nn; have := HE.out.size; omega) hbo' (fun hr => by have := HE.out.rin _ hr; omega) _
          have hR1 : (readsP l).drop k = emit l (ordR l) (todo l (ordR l) q 0) h := by rw [← pairs_drop]; exact HR.out
          have HEA := Lib.hid hEA
          have HGM := Lib.hid hgm
          have HLK := Lib.hid hlook
          have HFB := Lib.hid hFB
          have HR1 := Lib.hid hR1
          have HNM' := Lib.hid hnm
          have HGC := Lib.hid hgc
          have HLT := Lib.hid hlt
          have hcl : (idxN nm l 0).length ≤ 100000 := Nat.le_trans (idxN_length nm l 0) hl
          clear hnrow hgv hEA hgm hlook hbo' hFB hR1 hnm hgc hlt
          gi_wp2_with (refine wpListIn_look Try.underlying121 nmKey zero30 HGM.out rfl (.tmp 47) (.tmp 48) rfl rfl nm rfl ?_; simp only [id_eq]; rw [HLK.out])
          clear y0 y1 y2
          obtain ⟨kn, hkn⟩ : ∃ kn, kn = wo.heap.size := ⟨_, rfl⟩
          have HKN := Lib.hid hkn
          rw [← hkn] at HFB ⊢
          clear hkn
          gi_loopw [51] (fun jo wr => ∃ (j k : Nat) (h : List Sn), j ≤ (idxN nm l 0).length ∧ k ≤ (readsP l).length ∧ jo = .int .i64 j ∧ EmI n₀ n₁ bo w2 I h k wr ∧ FarBox n₁ bo kn (.cells #[.int .i64 nm.s, .int .i64 nm.i, .int .i64 nm.t] 34) wr ∧ (readsP l).drop k = emit l (ordR l) (todo l (ordR l) q j) h) (fun jo _ => (idxN nm l 0).length - (intOf jo).toNat)
          case atStart => exact ⟨0, k, h, Nat.zero_le _, hkl, rfl, HEA.out, HFB.out, HR1.out⟩
          case round =>
            clear HEA HFB HR1 HE HR HGM HKN h hkl k
            obtain ⟨wi, rfl⟩ : ∃ wi : World, wi = wr := ⟨_, rfl⟩
            obtain ⟨j, k, h, hj, hkl, rfl, hE, hF, hR⟩ := hrel
            have HE := Lib.hid hE
            have HF := Lib.hid hF
            have HR := Lib.hid hR
            clear hE hF hR
            by_cases hjlt : j < (idxN nm l 0).length
            · obtain ⟨i, hi0⟩ : ∃ i, (idxN nm l 0)[j]? = some i := ⟨_, List.getElem?_eq_getElem hjlt⟩
              obtain ⟨g, rfl, hgb, hcj0⟩ := HGC.out j i hi0
              obtain ⟨_, x, hx0, hxn⟩ := idxN_mem l nm 0 i (List.mem_of_getElem? hi0)
              have hx : l[i]? = some x := by simpa using hx0
              have hil : i < l.length := (List.getElem?_eq_some_iff.1 hx).1
              have hne : ∃ lb loff, va = some ⟨lb, loff, none⟩ ∧ lb < n₀ ∧ RowsAt Sn.cells 14 w2 lb loff l := by
                rcases va with _ | ⟨lb, loff, s'⟩
                · have := (HVN.out rfl).1; rw [this] at hil; simp at hil
                · obtain ⟨rfl, h2, h3⟩ := HLL.out lb loff s' rfl (by omega)
                  exact ⟨lb, loff, rfl, h2, h3⟩
              obtain ⟨lb, loff, rfl, hlb, hlrow⟩ := hne
              have hdk := HE.out.dk
              obtain ⟨c0, c1, c2, c3, c4, c5, c6, c7, c8, c9, c10, c11, c12, c13⟩ := (hlrow.ck hdk.ck (.inl hlb)).sn hx
              have hcj : wi.cell? ⟨g, j, none⟩ = some (.int .i64 (i : Int)) := hdk.cell (ad := ⟨g, j, none⟩) (.inr (by have := HMSn.out.2; show n₁ ≤ g; omega)) hcj0
              have vb : wi.cell? ⟨Bb, 0, none⟩ = some (.pointer (some ⟨Bv, 0, none⟩)) := by rw [cell_of_row wi _ _ _ 98 (0, 0) (hdk Bb _ (.inr hBb) (.inl rfl) HB2'.out.1)]; rfl
              have vv : wi.cell? ⟨Bv, 0, none⟩ = some (.slice (some ⟨lb, loff, none⟩) l.length vc) := by rw [cell_of_row wi _ _ _ 119 (0, 0) (hdk Bv _ (.inr hBv) (.inl rfl) HB2'.out.2)]; rfl
              have hbi : ∀ b, bo = some b → b < wi.heap.size := fun b hb => by have := HC.out.bo b hb; have := HE.out.size; omega
              have HEX : Hid (EmI n₀ n₁ bo w2 I h k (wi.alloc (.cells (snArr x) 36))) := HE.out.alloc HC.out _
              have HFX : Hid (FarBox n₁ bo kn (.cells #[.int .i64 nm.s, .int .i64 nm.i, .int .i64 nm.t] 34) (wi.alloc (.cells (snArr x) 36))) := HF.out.alloc hbi _
              have htd : todo l (ordR l) q j = (nm, i) :: todo l (ordR l) q (j + 1) := todo_next HNM'.out hi0
              have HTD := Lib.hid htd
              have HX := Lib.hid hx
              have HJLT := Lib.hid hjlt
              have HBI := Lib.hid hbi
              clear hlrow hx0 hx hi0 htd hcj0 hdk hjlt hbi hxn
              by_cases hk2 : x.k = 2
              · have e2 : (x.k == 2) = true := by simp [hk2]
                obtain ⟨hb0, hb1⟩ := step_range HM.out HX.out (.inr hk2)
                have HR2 : Hid ((readsP l).drop k = emit l (ordR l) (todo l (ordR l) q (j + 1)) (h.set x.b.toNat x)) := Lib.hid (by rw [HR.out, HTD.out, emit_write HX.out hk2])
                have hhl : x.b.toNat < h.length := by have := HEX.out.len; omega
                have HHL := Lib.hid hhl
                clear hk2 hhl
                gi_wp2_with (refine wpListIn_store_hd rfl (.tmp 69) (.tmp 68) rfl w2.heap.size x.b.toNat rfl x rfl HEX.out.hold HHL.out ?_; intro w5 hg5 hh5; have HG5 := Lib.hid hg5; have HH5 := Lib.hid hh5; clear hg5 hh5)
                go_roundw
                case rel =>
                  have hkB : kn ≠ w2.heap.size := fun e => by
                    have h1 := HFX.out.box
                    rw [e, HEX.out.hold] at h1
                    simp at h1
                  have hs := HEX.out.size
                  exact ⟨j + 1, k, h.set x.b.toNat x, by have := HJLT.out; omega, hkl, by go_num, HEX.out.set HC.out HG5.out HH5.out, HFX.out.grown HG5.out (fun b hb => by have := HC.out.bo b hb; exact ⟨by omega, fun e => by cases e; omega⟩) (fun e => hkB (by cases e; rfl)), HR2.out⟩
                case measure => have := HJLT.out; simp [intOf]; omega
              · have e2 : (x.k == 2) = false := by simp [hk2]
                by_cases hk1 : x.k = 1
                · have e1 : (x.k == 1) = true := by simp [hk1]
                  obtain ⟨hb0, hb1⟩ := step_range HM.out HX.out (.inl hk1)
                  have hsn : snArr x = #[.int .i8 x.k, .int .i64 x.n.s, .int .i64 x.n.i, .int .i64 x.n.t, .int .i64 x.b, .int .u8 x.v.a, .int .u8 x.v.b, .int .u8 x.v.c, .int .u8 x.v.d, .int .u8 x.v.e, .int .u8 x.v.f, .int .u8 x.v.g, .int .u8 x.v.h, .int .i64 x.e] := rfl
                  obtain ⟨y, hy⟩ : ∃ y, h[x.b.toNat]? = some y := ⟨_, List.getElem?_eq_getElem (by have := HEX.out.len; omega)⟩
                  obtain ⟨was, hwas⟩ : ∃ was, lastW (l.take i) x.b x.v = was := ⟨_, rfl⟩
                  obtain ⟨kd, hkd⟩ : ∃ kd, kindP (ordR l) nm was x.v = kd := ⟨_, rfl⟩
                  have hft : ftOf l (ordR l) h nm i x = ⟨(i : Int), nm, x.b, y.v, x.v, y.n, was, kd⟩ := by simp [ftOf, hy, hwas, hkd]
                  have HEM := Lib.hid (emit_read HX.out hk1 (n := nm) (ns := ordR l) (todo l (ordR l) q (j + 1)) h)
                  obtain ⟨w0, hw0⟩ : ∃ w0, (wi.alloc (.cells #[.int .i8 x.k, .int .i64 x.n.s, .int .i64 x.n.i, .int .i64 x.n.t, .int .i64 x.b, .int .u8 x.v.a, .int .u8 x.v.b, .int .u8 x.v.c, .int .u8 x.v.d, .int .u8 x.v.e, .int .u8 x.v.f, .int .u8 x.v.g, .int .u8 x.v.h, .int .i64 x.e] 36)).drew = w0 := ⟨_, rfl⟩
                  have hEw : EmI n₀ n₁ bo w2 I h k w0 := by rw [← hw0, ← hsn]; exact HEX.out.drew HC.out 1
                  have hFw : FarBox n₁ bo kn (.cells #[.int .i64 nm.s, .int .i64 nm.i, .int .i64 nm.t] 34) w0 := by rw [← hw0, ← hsn]; exact HFX.out.drew 1
                  have hxw : w0.heap[wi.heap.size]? = some (.cells (snArr x) 36 (0, 0)) := by rw [← hw0, ← hsn]; exact heap_alloc_new wi _
                  have hbw : ∀ b, bo = some b → b < w0.heap.size := fun b hb => by have := HC.out.bo b hb; have := hEw.size; omega
                  have hlw : look om (i : Int) = some was := hwas ▸ HOM.out i x HX.out hk1
                  have hRD : ∀ Wx, (Wx = w0 ∨ Wx = w0.alloc (.cells (ftArr ftz) 59)) → EmF w2 Wx kn wi.heap.size x.b.toNat nm x y ∧ (Instr.lookup 122 (.map (some Mo)) (.int .i64 (i : Int)) false).run Try.prog Wx = .ok (.agg #[.int .i64 was.s, .int .i64 was.i, .int .i64 was.t]) Wx := by
                    rintro Wx (rfl | rfl)
                    · exact ⟨emit_facts hEw hFw hxw hy, lookup_was (hEw.dk.mapIs HMO.out (.inr HMOn.out)) hlw⟩
                    · exact ⟨emit_facts (hEw.alloc HC.out _) (hFw.alloc hbw _) ((heap_alloc_old w0 _ (lt_of_heap hxw)).trans hxw) hy, lookup_was ((hEw.alloc HC.out _).dk.mapIs HMO.out (.inr HMOn.out)) hlw⟩
                  have hdk2 := (hEw.alloc HC.out (.cells (ftArr ⟨(i : Int), nm, x.b, y.v, x.v, y.n, was, 0⟩) 59)).dk
                  have hvb := hdk2 Bb _ (.inr hBb) (.inl rfl) HB2'.out.1
                  have vb2 : (w0.alloc (.cells (ftArr ⟨(i : Int), nm, x.b, y.v, x.v, y.n, was, 0⟩) 59)).cell? ⟨Bb, 0, none⟩ = some (.pointer (some ⟨Bv, 0, none⟩)) := by rw [cell_of_row _ _ _ _ 98 (0, 0) hvb]; rfl
                  have hki := kind_any ⟨(i : Int), nm, x.b, y.v, x.v, y.n, was, 0⟩ (ordR l) (ordR_nodup HM.out) Bv w0.heap.size Mp _ _ _ (hdk2 Bv _ (.inr hBv) (.inl rfl) HB2'.out.2) (heap_alloc_new w0 _) (hdk2.mapIs HNM.out (.inr HMP.out))
                  have HKI : Hid (Calls Try.prog 76 #[.pointer (some ⟨Bv, 0, none⟩), .pointer (some ⟨w0.heap.size, 0, none⟩)] (w0.alloc (.cells (ftArr ⟨(i : Int), nm, x.b, y.v, x.v, y.n, was, 0⟩) 59)) fun e w' => e = .returned (.int .i8 kd) ∧ ∃ k, w' = (w0.alloc (.cells (ftArr ⟨(i : Int), nm, x.b, y.v, x.v, y.n, was, 0⟩) 59)).drewN k) :=
                    Lib.hid (hki.mono (fun e w' h => ⟨by rw [h.1, ← hkd], h.2⟩))
                  have HEW := Lib.hid hEw
                  have HFW := Lib.hid hFw
                  have HFT := Lib.hid hft
                  have HW0 := Lib.hid hw0
                  clear hk2 hk1 hsn hy hwas hft hki hkd hEw hFw hxw hbw hlw hdk2 hvb hw0
                  gi_wp2_with fail
                  -- BEGIN RD
                  refine wpIn_region_frame mixed (fun _ => trivial) (by kernel_rfl) [(0, 75, .int .i64 (i : Int)), (1, 76, .agg #[.int .i64 nm.s, .int .i64 nm.i, .int .i64 nm.t]), (2, 77, .pointer (some ⟨wi.heap.size, 4, none⟩)), (3, 78, .int .i64 x.b), (4, 79, .pointer (some ⟨w2.heap.size, x.b.toNat * 14, none⟩)), (5, 80, .pointer (some ⟨w2.heap.size, x.b.toNat * 14, none⟩)), (6, 81, .pointer (some ⟨w2.heap.size, x.b.toNat * 14 + 5, none⟩)), (7, 82, .agg #[.int .u8 y.v.a, .int .u8 y.v.b, .int .u8 y.v.c, .int .u8 y.v.d, .int .u8 y.v.e, .int .u8 y.v.f, .int .u8 y.v.g, .int .u8 y.v.h]), (8, 83, .pointer (some ⟨wi.heap.size, 5, none⟩)), (9, 84, .agg #[.int .u8 x.v.a, .int .u8 x.v.b, .int .u8 x.v.c, .int .u8 x.v.d, .int .u8 x.v.e, .int .u8 x.v.f, .int .u8 x.v.g, .int .u8 x.v.h]), (10, 85, .pointer (some ⟨w2.heap.size, x.b.toNat * 14, none⟩)), (11, 86, .pointer (some ⟨w2.heap.size, x.b.toNat * 14, none⟩)), (12, 87, .pointer (some ⟨w2.heap.size, x.b.toNat * 14 + 1, none⟩)), (13, 88, .agg #[.int .i64 y.n.s, .int .i64 y.n.i, .int .i64 y.n.t]), (14, 89, .map (some Mo)), (15, 90, .int .i64 (i : Int)), (16, 91, .agg #[.int .i64 was.s, .int .i64 was.i, .int .i64 was.t]), (17, 92, .agg (ftArr ⟨(i : Int), nm, x.b, y.v, x.v, y.n, was, 0⟩)), (18, 14, .pointer (some ⟨w0.heap.size, 0, none⟩))] (fun L Wx => RdT w0 (w0.alloc (.cells (ftArr ftz) 59)) (w0.alloc (.cells (ftArr ⟨(i : Int), nm, x.b, y.v, x.v, y.n, was, 0⟩) 59)) (L 18) (L 19) Wx) ?_ ?_ (by rfl) (by rfl) ?_
                  · exact HW0.out ▸ RdT.start
                  · intro a0 ps ha0 hps
                    have hsz : a0.tmps.size = 102 := by rw [ha0]; rfl
                    have u6 : a0.tmps[6]? = some (.map (some Mo)) := by rw [ha0]; rfl
                    have u9 : a0.tmps[9]? = some (.pointer (some ⟨kn, 0, none⟩)) := by rw [ha0]; rfl
                    have u11 : a0.tmps[11]? = some (.int .i64 (i : Int)) := by rw [ha0]; rfl
                    have u12 : a0.tmps[12]? = some (.pointer (some ⟨wi.heap.size, 0, none⟩)) := by rw [ha0]; rfl
                    have u13 : a0.tmps[13]? = some (.pointer (some ⟨w2.heap.size, x.b.toNat * 14, none⟩)) := by rw [ha0]; rfl
                    have n6 : slotOf ps 6 = none := by rw [hps]; rfl
                    have n9 : slotOf ps 9 = none := by rw [hps]; rfl
                    have n11 : slotOf ps 11 = none := by rw [hps]; rfl
                    have n12 : slotOf ps 12 = none := by rw [hps]; rfl
                    have n13 : slotOf ps 13 = none := by rw [hps]; rfl
                    have k75 : slotOf ps 75 = some (0, .int .i64 (i : Int)) := by rw [hps]; rfl
                    have q75 : keysOK ps 0 75 = true := by rw [hps]; rfl
                    have k76 : slotOf ps 76 = some (1, .agg #[.int .i64 nm.s, .int .i64 nm.i, .int .i64 nm.t]) := by rw [hps]; rfl
                    have q76 : keysOK ps 1 76 = true := by rw [hps]; rfl
                    have k77 : slotOf ps 77 = some (2, .pointer (some ⟨wi.heap.size, 4, none⟩)) := by rw [hps]; rfl
                    have q77 : keysOK ps 2 77 = true := by rw [hps]; rfl
                    have k78 : slotOf ps 78 = some (3, .int .i64 x.b) := by rw [hps]; rfl
                    have q78 : keysOK ps 3 78 = true := by rw [hps]; rfl
                    have k79 : slotOf ps 79 = some (4, .pointer (some ⟨w2.heap.size, x.b.toNat * 14, none⟩)) := by rw [hps]; rfl
                    have q79 : keysOK ps 4 79 = true := by rw [hps]; rfl
                    have k80 : slotOf ps 80 = some (5, .pointer (some ⟨w2.heap.size, x.b.toNat * 14, none⟩)) := by rw [hps]; rfl
                    have q80 : keysOK ps 5 80 = true := by rw [hps]; rfl
                    have k81 : slotOf ps 81 = some (6, .pointer (some ⟨w2.heap.size, x.b.toNat * 14 + 5, none⟩)) := by rw [hps]; rfl
                    have q81 : keysOK ps 6 81 = true := by rw [hps]; rfl
                    have k82 : slotOf ps 82 = some (7, .agg #[.int .u8 y.v.a, .int .u8 y.v.b, .int .u8 y.v.c, .int .u8 y.v.d, .int .u8 y.v.e, .int .u8 y.v.f, .int .u8 y.v.g, .int .u8 y.v.h]) := by rw [hps]; rfl
                    have q82 : keysOK ps 7 82 = true := by rw [hps]; rfl
                    have k83 : slotOf ps 83 = some (8, .pointer (some ⟨wi.heap.size, 5, none⟩)) := by rw [hps]; rfl
                    have q83 : keysOK ps 8 83 = true := by rw [hps]; rfl
                    have k84 : slotOf ps 84 = some (9, .agg #[.int .u8 x.v.a, .int .u8 x.v.b, .int .u8 x.v.c, .int .u8 x.v.d, .int .u8 x.v.e, .int .u8 x.v.f, .int .u8 x.v.g, .int .u8 x.v.h]) := by rw [hps]; rfl
                    have q84 : keysOK ps 9 84 = true := by rw [hps]; rfl
                    have k85 : slotOf ps 85 = some (10, .pointer (some ⟨w2.heap.size, x.b.toNat * 14, none⟩)) := by rw [hps]; rfl
                    have q85 : keysOK ps 10 85 = true := by rw [hps]; rfl
                    have k86 : slotOf ps 86 = some (11, .pointer (some ⟨w2.heap.size, x.b.toNat * 14, none⟩)) := by rw [hps]; rfl
                    have q86 : keysOK ps 11 86 = true := by rw [hps]; rfl
                    have k87 : slotOf ps 87 = some (12, .pointer (some ⟨w2.heap.size, x.b.toNat * 14 + 1, none⟩)) := by rw [hps]; rfl
                    have q87 : keysOK ps 12 87 = true := by rw [hps]; rfl
                    have k88 : slotOf ps 88 = some (13, .agg #[.int .i64 y.n.s, .int .i64 y.n.i, .int .i64 y.n.t]) := by rw [hps]; rfl
                    have q88 : keysOK ps 13 88 = true := by rw [hps]; rfl
                    have k89 : slotOf ps 89 = some (14, .map (some Mo)) := by rw [hps]; rfl
                    have q89 : keysOK ps 14 89 = true := by rw [hps]; rfl
                    have k90 : slotOf ps 90 = some (15, .int .i64 (i : Int)) := by rw [hps]; rfl
                    have q90 : keysOK ps 15 90 = true := by rw [hps]; rfl
                    have k91 : slotOf ps 91 = some (16, .agg #[.int .i64 was.s, .int .i64 was.i, .int .i64 was.t]) := by rw [hps]; rfl
                    have q91 : keysOK ps 16 91 = true := by rw [hps]; rfl
                    have k92 : slotOf ps 92 = some (17, .agg (ftArr ⟨(i : Int), nm, x.b, y.v, x.v, y.n, was, 0⟩)) := by rw [hps]; rfl
                    have q92 : keysOK ps 17 92 = true := by rw [hps]; rfl
                    have k14 : slotOf ps 14 = some (18, .pointer (some ⟨w0.heap.size, 0, none⟩)) := by rw [hps]; rfl
                    have q14 : keysOK ps 18 14 = true := by rw [hps]; rfl
                    have z19 : (ps.all fun p => !(p.1 == 19)) = true := by rw [hps]; rfl
                    clear ha0 hps
                    refine ⟨?_, ?_, ?_, ?_, ?_, ?_, ?_, ?_, ?_, ?_, ?_, ?_, ?_, ?_, ?_, ?_, ?_, ?_, ?_, ?_, trivial⟩
                    · rintro L _ Wx ⟨rfl, hT⟩ hcl hk hd
                      rw [if_pos (by simp [Region.wanted])]
                      refine opIn_valueW (by intro c h; cases h) (v := .int .i64 (i : Int)) (w' := Wx) (by simp [execOp, go_sem, frame_tout (n11) u11]) ⟨frame_put (k75) (q75), ?_⟩
                      simpa [upd] using hT
                    · rintro L _ Wx ⟨rfl, hT⟩ hcl hk hd
                      have hN : L 19 = false := by
                        cases hh : L 19 with
                        | false => rfl
                        | true =>
                          have h1 := hcl 19 _ rfl (by simp [hh])
                          simp [Region.binds] at h1
                          simp [hk] at h1
                      rw [if_pos (by simp [Region.wanted])]
                      have hRx : Wx = w0 ∨ Wx = w0.alloc (.cells (ftArr ftz) 59) := by
                        cases h18 : L 18 with
                        | false => exact .inl (hT.1 h18 hN)
                        | true => exact .inr (hT.2.1 h18 hN)
                      obtain ⟨⟨g0, g1, g2, g3, g4, g5, g6, g7, g8, g9, g10, g11, g12, g13, g14, g15, g16, g17, g18, g19, g20, g21, g22⟩, glk⟩ := hRD Wx hRx
                      refine opIn_valueW (by intro c h; cases h) (v := .agg #[.int .i64 nm.s, .int .i64 nm.i, .int .i64 nm.t]) (w' := Wx) (by simp [execOp, go_sem, frame_tout (n9) u9, g0, g1, g2]) ⟨frame_put (k76) (q76), ?_⟩
                      simpa [upd] using hT
                    · rintro L _ Wx ⟨rfl, hT⟩ hcl hk hd
                      rw [if_pos (by simp [Region.wanted])]
                      refine opIn_valueW (by intro c h; cases h) (v := .pointer (some ⟨wi.heap.size, 4, none⟩)) (w' := Wx) (by simp [execOp, go_sem, frame_tout (n12) u12]) ⟨frame_put (k77) (q77), ?_⟩
                      simpa [upd] using hT
                    · rintro L _ Wx ⟨rfl, hT⟩ hcl hk hd
                      have hL2 : L 2 = true := by have h := hd; simp [Region.binds] at h; simp [h]
                      have hN : L 19 = false := by
                        cases hh : L 19 with
                        | false => rfl
                        | true =>
                          have h3 := hcl 19 _ rfl (by simp [hh])
                          simp [Region.binds] at h3
                          simp [hk] at h3
                      rw [if_pos (by simp [Region.wanted])]
                      have hRx : Wx = w0 ∨ Wx = w0.alloc (.cells (ftArr ftz) 59) := by
                        cases h18 : L 18 with
                        | false => exact .inl (hT.1 h18 hN)
                        | true => exact .inr (hT.2.1 h18 hN)
                      obtain ⟨⟨g0, g1, g2, g3, g4, g5, g6, g7, g8, g9, g10, g11, g12, g13, g14, g15, g16, g17, g18, g19, g20, g21, g22⟩, glk⟩ := hRD Wx hRx
                      refine opIn_valueW (by intro c h; cases h) (v := .int .i64 x.b) (w' := Wx) (by simp [execOp, go_sem, frame_tmp (k77) hL2 (Nat.lt_of_lt_of_eq (by decide : 77 < 102) hsz.symm), g3]) ⟨frame_put (k78) (q78), ?_⟩
                      simpa [upd] using hT
                    · rintro L _ Wx ⟨rfl, hT⟩ hcl hk hd
                      rw [if_pos (by simp [Region.wanted])]
                      refine opIn_valueW (by intro c h; cases h) (v := .pointer (some ⟨w2.heap.size, x.b.toNat * 14, none⟩)) (w' := Wx) (by simp [execOp, go_sem, frame_tout (n13) u13]) ⟨frame_put (k79) (q79), ?_⟩
                      simpa [upd] using hT
                    · rintro L _ Wx ⟨rfl, hT⟩ hcl hk hd
                      have hL4 : L 4 = true := by have h := hd; simp [Region.binds] at h; simp [h]
                      rw [if_pos (by simp [Region.wanted])]
                      refine opIn_valueW (by intro c h; cases h) (v := .pointer (some ⟨w2.heap.size, x.b.toNat * 14, none⟩)) (w' := Wx) (by simp [execOp, go_sem, frame_tmp (k79) hL4 (Nat.lt_of_lt_of_eq (by decide : 79 < 102) hsz.symm)]) ⟨frame_put (k80) (q80), ?_⟩
                      simpa [upd] using hT
                    · rintro L _ Wx ⟨rfl, hT⟩ hcl hk hd
                      have hL5 : L 5 = true := by have h := hd; simp [Region.binds] at h; simp [h]
                      rw [if_pos (by simp [Region.wanted])]
                      refine opIn_valueW (by intro c h; cases h) (v := .pointer (some ⟨w2.heap.size, x.b.toNat * 14 + 5, none⟩)) (w' := Wx) (by simp [execOp, go_sem, frame_tmp (k80) hL5 (Nat.lt_of_lt_of_eq (by decide : 80 < 102) hsz.symm)]) ⟨frame_put (k81) (q81), ?_⟩
                      simpa [upd] using hT
                    · rintro L _ Wx ⟨rfl, hT⟩ hcl hk hd
                      have hL6 : L 6 = true := by have h := hd; simp [Region.binds] at h; simp [h]
                      have hN : L 19 = false := by
                        cases hh : L 19 with
                        | false => rfl
                        | true =>
                          have h7 := hcl 19 _ rfl (by simp [hh])
                          simp [Region.binds] at h7
                          simp [hk] at h7
                      rw [if_pos (by simp [Region.wanted])]
                      have hRx : Wx = w0 ∨ Wx = w0.alloc (.cells (ftArr ftz) 59) := by
                        cases h18 : L 18 with
                        | false => exact .inl (hT.1 h18 hN)
                        | true => exact .inr (hT.2.1 h18 hN)
                      obtain ⟨⟨g0, g1, g2, g3, g4, g5, g6, g7, g8, g9, g10, g11, g12, g13, g14, g15, g16, g17, g18, g19, g20, g21, g22⟩, glk⟩ := hRD Wx hRx
                      refine opIn_valueW (by intro c h; cases h) (v := .agg #[.int .u8 y.v.a, .int .u8 y.v.b, .int .u8 y.v.c, .int .u8 y.v.d, .int .u8 y.v.e, .int .u8 y.v.f, .int .u8 y.v.g, .int .u8 y.v.h]) (w' := Wx) (by simp [execOp, go_sem, frame_tmp (k81) hL6 (Nat.lt_of_lt_of_eq (by decide : 81 < 102) hsz.symm), g12, g13, g14, g15, g16, g17, g18, g19]) ⟨frame_put (k82) (q82), ?_⟩
                      simpa [upd] using hT
                    · rintro L _ Wx ⟨rfl, hT⟩ hcl hk hd
                      rw [if_pos (by simp [Region.wanted])]
                      refine opIn_valueW (by intro c h; cases h) (v := .pointer (some ⟨wi.heap.size, 5, none⟩)) (w' := Wx) (by simp [execOp, go_sem, frame_tout (n12) u12]) ⟨frame_put (k83) (q83), ?_⟩
                      simpa [upd] using hT
                    · rintro L _ Wx ⟨rfl, hT⟩ hcl hk hd
                      have hL8 : L 8 = true := by have h := hd; simp [Region.binds] at h; simp [h]
                      have hN : L 19 = false := by
                        cases hh : L 19 with
                        | false => rfl
                        | true =>
                          have h9 := hcl 19 _ rfl (by simp [hh])
                          simp [Region.binds] at h9
                          simp [hk] at h9
                      rw [if_pos (by simp [Region.wanted])]
                      have hRx : Wx = w0 ∨ Wx = w0.alloc (.cells (ftArr ftz) 59) := by
                        cases h18 : L 18 with
                        | false => exact .inl (hT.1 h18 hN)
                        | true => exact .inr (hT.2.1 h18 hN)
                      obtain ⟨⟨g0, g1, g2, g3, g4, g5, g6, g7, g8, g9, g10, g11, g12, g13, g14, g15, g16, g17, g18, g19, g20, g21, g22⟩, glk⟩ := hRD Wx hRx
                      refine opIn_valueW (by intro c h; cases h) (v := .agg #[.int .u8 x.v.a, .int .u8 x.v.b, .int .u8 x.v.c, .int .u8 x.v.d, .int .u8 x.v.e, .int .u8 x.v.f, .int .u8 x.v.g, .int .u8 x.v.h]) (w' := Wx) (by simp [execOp, go_sem, frame_tmp (k83) hL8 (Nat.lt_of_lt_of_eq (by decide : 83 < 102) hsz.symm), g4, g5, g6, g7, g8, g9, g10, g11]) ⟨frame_put (k84) (q84), ?_⟩
                      simpa [upd] using hT
                    · rintro L _ Wx ⟨rfl, hT⟩ hcl hk hd
                      rw [if_pos (by simp [Region.wanted])]
                      refine opIn_valueW (by intro c h; cases h) (v := .pointer (some ⟨w2.heap.size, x.b.toNat * 14, none⟩)) (w' := Wx) (by simp [execOp, go_sem, frame_tout (n13) u13]) ⟨frame_put (k85) (q85), ?_⟩
                      simpa [upd] using hT
                    · rintro L _ Wx ⟨rfl, hT⟩ hcl hk hd
                      have hL10 : L 10 = true := by have h := hd; simp [Region.binds] at h; simp [h]
                      rw [if_pos (by simp [Region.wanted])]
                      refine opIn_valueW (by intro c h; cases h) (v := .pointer (some ⟨w2.heap.size, x.b.toNat * 14, none⟩)) (w' := Wx) (by simp [execOp, go_sem, frame_tmp (k85) hL10 (Nat.lt_of_lt_of_eq (by decide : 85 < 102) hsz.symm)]) ⟨frame_put (k86) (q86), ?_⟩
                      simpa [upd] using hT
                    · rintro L _ Wx ⟨rfl, hT⟩ hcl hk hd
                      have hL11 : L 11 = true := by have h := hd; simp [Region.binds] at h; simp [h]
                      rw [if_pos (by simp [Region.wanted])]
                      refine opIn_valueW (by intro c h; cases h) (v := .pointer (some ⟨w2.heap.size, x.b.toNat * 14 + 1, none⟩)) (w' := Wx) (by simp [execOp, go_sem, frame_tmp (k86) hL11 (Nat.lt_of_lt_of_eq (by decide : 86 < 102) hsz.symm)]) ⟨frame_put (k87) (q87), ?_⟩
                      simpa [upd] using hT
                    · rintro L _ Wx ⟨rfl, hT⟩ hcl hk hd
                      have hL12 : L 12 = true := by have h := hd; simp [Region.binds] at h; simp [h]
                      have hN : L 19 = false := by
                        cases hh : L 19 with
                        | false => rfl
                        | true =>
                          have h13 := hcl 19 _ rfl (by simp [hh])
                          simp [Region.binds] at h13
                          simp [hk] at h13
                      rw [if_pos (by simp [Region.wanted])]
                      have hRx : Wx = w0 ∨ Wx = w0.alloc (.cells (ftArr ftz) 59) := by
                        cases h18 : L 18 with
                        | false => exact .inl (hT.1 h18 hN)
                        | true => exact .inr (hT.2.1 h18 hN)
                      obtain ⟨⟨g0, g1, g2, g3, g4, g5, g6, g7, g8, g9, g10, g11, g12, g13, g14, g15, g16, g17, g18, g19, g20, g21, g22⟩, glk⟩ := hRD Wx hRx
                      refine opIn_valueW (by intro c h; cases h) (v := .agg #[.int .i64 y.n.s, .int .i64 y.n.i, .int .i64 y.n.t]) (w' := Wx) (by simp [execOp, go_sem, frame_tmp (k87) hL12 (Nat.lt_of_lt_of_eq (by decide : 87 < 102) hsz.symm), g20, g21, g22]) ⟨frame_put (k88) (q88), ?_⟩
                      simpa [upd] using hT
                    · rintro L _ Wx ⟨rfl, hT⟩ hcl hk hd
                      rw [if_pos (by simp [Region.wanted])]
                      refine opIn_valueW (by intro c h; cases h) (v := .map (some Mo)) (w' := Wx) (by simp [execOp, go_sem, frame_tout (n6) u6]) ⟨frame_put (k89) (q89), ?_⟩
                      simpa [upd] using hT
                    · rintro L _ Wx ⟨rfl, hT⟩ hcl hk hd
                      rw [if_pos (by simp [Region.wanted])]
                      refine opIn_valueW (by intro c h; cases h) (v := .int .i64 (i : Int)) (w' := Wx) (by simp [execOp, go_sem, frame_tout (n11) u11]) ⟨frame_put (k90) (q90), ?_⟩
                      simpa [upd] using hT
                    · rintro L _ Wx ⟨rfl, hT⟩ hcl hk hd
                      have hL14 : L 14 = true := by have h := hd; simp [Region.binds] at h; simp [h]
                      have hL15 : L 15 = true := by have h := hd; simp [Region.binds] at h; simp [h]
                      have hN : L 19 = false := by
                        cases hh : L 19 with
                        | false => rfl
                        | true =>
                          have h16 := hcl 19 _ rfl (by simp [hh])
                          simp [Region.binds] at h16
                          simp [hk] at h16
                      rw [if_pos (by simp [Region.wanted])]
                      have hRx : Wx = w0 ∨ Wx = w0.alloc (.cells (ftArr ftz) 59) := by
                        cases h18 : L 18 with
                        | false => exact .inl (hT.1 h18 hN)
                        | true => exact .inr (hT.2.1 h18 hN)
                      obtain ⟨⟨g0, g1, g2, g3, g4, g5, g6, g7, g8, g9, g10, g11, g12, g13, g14, g15, g16, g17, g18, g19, g20, g21, g22⟩, glk⟩ := hRD Wx hRx
                      refine opIn_valueW (by intro c h; cases h) (v := .agg #[.int .i64 was.s, .int .i64 was.i, .int .i64 was.t]) (w' := Wx) (by simp [execOp, go_sem, frame_tmp (k89) hL14 (Nat.lt_of_lt_of_eq (by decide : 89 < 102) hsz.symm), frame_tmp (k90) hL15 (Nat.lt_of_lt_of_eq (by decide : 90 < 102) hsz.symm), glk]) ⟨frame_put (k91) (q91), ?_⟩
                      simpa [upd] using hT
                    · rintro L _ Wx ⟨rfl, hT⟩ hcl hk hd
                      have hL0 : L 0 = true := by have h := hd; simp [Region.binds] at h; simp [h]
                      have hL1 : L 1 = true := by have h := hd; simp [Region.binds] at h; simp [h]
                      have hL3 : L 3 = true := by have h := hd; simp [Region.binds] at h; simp [h]
                      have hL7 : L 7 = true := by have h := hd; simp [Region.binds] at h; simp [h]
                      have hL9 : L 9 = true := by have h := hd; simp [Region.binds] at h; simp [h]
                      have hL13 : L 13 = true := by have h := hd; simp [Region.binds] at h; simp [h]
                      have hL16 : L 16 = true := by have h := hd; simp [Region.binds] at h; simp [h]
                      rw [if_pos (by simp [Region.wanted])]
                      refine opIn_valueW (by intro c h; cases h) (v := .agg (ftArr ⟨(i : Int), nm, x.b, y.v, x.v, y.n, was, 0⟩)) (w' := Wx) (by simp [execOp, go_sem, frame_tmp (k75) hL0 (Nat.lt_of_lt_of_eq (by decide : 75 < 102) hsz.symm), frame_tmp (k76) hL1 (Nat.lt_of_lt_of_eq (by decide : 76 < 102) hsz.symm), frame_tmp (k78) hL3 (Nat.lt_of_lt_of_eq (by decide : 78 < 102) hsz.symm), frame_tmp (k82) hL7 (Nat.lt_of_lt_of_eq (by decide : 82 < 102) hsz.symm), frame_tmp (k84) hL9 (Nat.lt_of_lt_of_eq (by decide : 84 < 102) hsz.symm), frame_tmp (k88) hL13 (Nat.lt_of_lt_of_eq (by decide : 88 < 102) hsz.symm), frame_tmp (k91) hL16 (Nat.lt_of_lt_of_eq (by decide : 91 < 102) hsz.symm), ftArr]) ⟨frame_put (k92) (q92), ?_⟩
                      simpa [upd] using hT
                    · rintro L _ Wx ⟨rfl, hT⟩ hcl hk hd
                      have hN : L 19 = false := by
                        cases hh : L 19 with
                        | false => rfl
                        | true =>
                          have h18 := hcl 19 _ rfl (by simp [hh])
                          simp [Region.binds] at h18
                          simp [hk] at h18
                      rw [if_pos (by simp [Region.wanted])]
                      rw [hT.1 hk hN]
                      refine opIn_valueW (by intro c h; cases h) (v := .pointer (some ⟨w0.heap.size, 0, none⟩)) (w' := w0.alloc (.cells (ftArr ftz) 59)) (by simp [execOp, go_sem, ftArr, ftz, nz, z0]) ⟨frame_put (k14) (q14), ?_⟩
                      simpa [upd, hN] using RdT.laid
                    · rintro L _ Wx ⟨rfl, hT⟩ hcl hk hd
                      have hL17 : L 17 = true := by have h := hd; simp [Region.binds] at h; simp [h]
                      have hL18 : L 18 = true := by have h := hd; simp [Region.binds] at h; simp [h]
                      rw [if_pos (by simp [Region.wanted])]
                      rw [hT.2.1 hL18 hk]
                      refine opIn_store 59 (.tmp 14) (.tmp 92) rfl ⟨w0.heap.size, 0, none⟩ (by rw [frame_in (k14) hL18 (Nat.lt_of_lt_of_eq (by decide : 14 < 102) hsz.symm)]) (.agg (ftArr ⟨(i : Int), nm, x.b, y.v, x.v, y.n, was, 0⟩)) (by rw [frame_in (k92) hL17 (Nat.lt_of_lt_of_eq (by decide : 92 < 102) hsz.symm)]) (st_ft w0 _) ⟨frame_putNone (z19), ?_⟩
                      simpa [upd] using RdT.full
                  · rintro L W' hT hall
                    have hA19 : L 19 = true := hall 19 (by simp)
                    simp only [putAll, Act.put, List.setIfInBounds_toArray, List.set_cons_succ, List.set_cons_zero]
                    have hW' := hT.2.2 hA19
                    subst hW'
                    clear hT hall hA19
                    gi_wp2_with fail
                    refine ⟨trivial, ?_⟩
                    refine (callsIn_wide.2 HKI.out).mono ?_
                    rintro e w' ⟨rfl, k', rfl⟩
                    obtain ⟨w7, hw7⟩ : ∃ w7, w0.drewN k' = w7 := ⟨_, rfl⟩
                    have HE7 : Hid (EmI n₀ n₁ bo w2 I h k w7) := hw7 ▸ HEW.out.drew HC.out k'
                    have HF7 : Hid (FarBox n₁ bo kn (.cells #[.int .i64 nm.s, .int .i64 nm.i, .int .i64 nm.t] 34) w7) := hw7 ▸ HFW.out.drew k'
                    have e7 : (w0.alloc (.cells (ftArr ⟨(i : Int), nm, x.b, y.v, x.v, y.n, was, 0⟩) 59)).drewN k' = w7.alloc (.cells (ftArr ⟨(i : Int), nm, x.b, y.v, x.v, y.n, was, 0⟩) 59) := hw7 ▸ rfl
                    have es : w0.heap.size = w7.heap.size := hw7 ▸ rfl
                    rw [e7, es]
                    clear vb2 e7 es hw7
                    have hcons : (readsP l).drop k = (⟨(i : Int), nm, x.b, y.v, x.v, y.n, was, kd⟩ : Ft) :: emit l (ordR l) (todo l (ordR l) q (j + 1)) h := by rw [HR.out, HTD.out, HEM.out, HFT.out]
                    obtain ⟨hgk, hdr⟩ := drop_of_cons hcons
                    have hkl2 : k + 1 ≤ (readsP l).length := (List.getElem?_eq_some_iff.1 hgk).1
                    have hE8 : EmI n₀ n₁ bo w2 I h k (w7.alloc (.cells (ftArr ⟨(i : Int), nm, x.b, y.v, x.v, y.n, was, kd⟩) 59)) := HE7.out.alloc HC.out _
                    have hF8 : FarBox n₁ bo kn (.cells #[.int .i64 nm.s, .int .i64 nm.i, .int .i64 nm.t] 34) (w7.alloc (.cells (ftArr ⟨(i : Int), nm, x.b, y.v, x.v, y.n, was, kd⟩) 59)) :=
                      HF7.out.alloc (fun b hb => by have := HC.out.bo b hb; have := HE7.out.size; omega) _
                    obtain ⟨fn, tmps, assign, body, hy, hRo⟩ := HY.out _ k _ _ hE8.inv hgk
                    have HRO := Lib.hid hRo
                    have HDR := Lib.hid hdr
                    have HE8 := Lib.hid hE8
                    have HF8 := Lib.hid hF8
                    clear hcons hgk hdr hE8 hF8 hRo
                    gi_wp2_with (first | (refine wpListIn_store rfl 32 (.tmp 95) (.tmp 94) rfl ⟨w7.heap.size, 27, none⟩ rfl (.int .i8 kd) rfl (st_kind w7 _ _ _ _ _ _ _ _ kd) ?_) | (refine wpListIn_load rfl 59 (.tmp 14) rfl ⟨w7.heap.size, 0, none⟩ rfl _ (ld_ft (heap_alloc_new w7 _)) ?_))
                    refine HRO.out.mono ?_
                    rintro e W3 ⟨rfl, hI3, hK3⟩
                    have HE9 := Lib.hid (HE8.out.yield HC.out hI3 hK3)
                    have HF9 := Lib.hid (HF8.out.yield (.inl rfl) hK3.1)
                    clear hI3 hK3 hy
                    gi_wp2_with fail
                    go_roundw
                    case rel => exact ⟨j + 1, k + 1, h, by have := HJLT.out; omega, hkl2, by go_num, HE9.out, HF9.out, HDR.out⟩
                    case measure => have := HJLT.out; simp [intOf]; omega
                  -- END RD
                · have e1 : (x.k == 1) = false := by simp [hk1]
                  have HR2 : Hid ((readsP l).drop k = emit l (ordR l) (todo l (ordR l) q (j + 1)) h) := Lib.hid (by rw [HR.out, HTD.out, emit_skip HX.out hk2 hk1])
                  clear hk1 hk2
                  gi_wp2_with fail
                  go_roundw
                  case rel => exact ⟨j + 1, k, h, by have := HJLT.out; omega, hkl, by go_num, HEX.out, HFX.out, HR2.out⟩
                  case measure => have := HJLT.out; simp [intOf]; omega
            · obtain rfl : j = (idxN nm l 0).length := by omega
              have HR2 : Hid ((readsP l).drop k = emit l (ordR l) (pairsP l ((ordR l).drop (q + 1))) h) := Lib.hid (by rw [HR.out, todo_end HNM'.out (Nat.le_refl _)])
              gi_wp2_with fail
              go_roundw
              case rel => exact ⟨q + 1, k, h, by have := HLT.out; omega, hkl, by go_num, HE.out, HR2.out⟩
              case measure => have := HLT.out; simp [intOf]; omega
        · obtain rfl : q = (ordR l).length := by omega
          gi_wp2_with fail
          go_end0
          have h1 := HR.out
          rw [List.drop_length] at h1
          have h2 : (readsP l).length ≤ k := List.drop_eq_nil_iff.1 (by rw [h1]; rfl)
          obtain rfl : k = (readsP l).length := by omega
          exact ⟨⟨_, rfl⟩, _, HE.out.inv⟩
end Go.Proofs.Ytgdmgeihgkbjaaa
/- 'witness.Wrong' -/
namespace Go.Proofs.Ytgdmgeihgkbjaaa
open Go.RowKit Go.Shelf
attribute [local go_sem] Oper.semAt_some

theorem emit_length (l : List Sn) (ns : List Nm) : ∀ (ps : List (Nm × Nat)) (h : List Sn), (emit l ns ps h).length ≤ ps.length
  | [], _ => Nat.le_refl _
  | (n, i) :: r, h => by
    unfold emit
    cases hx : l[i]? with
    | none => have := emit_length l ns r h; simp; omega
    | some x =>
      simp only
      split
      · have := emit_length l ns r (h.set x.b.toNat x); simp; omega
      · split
        · have := emit_length l ns r h; simp; omega
        · have := emit_length l ns r h; simp; omega

theorem pairs_length (l : List Sn) : ∀ ns : List Nm, (pairsP l ns).length ≤ ns.length * l.length
  | [] => by simp [pairsP]
  | n :: ns => by
    have h1 := pairs_length l ns
    have h2 := idxN_length n l 0
    have : pairsP l (n :: ns) = (idxN n l 0).map (fun i => (n, i)) ++ pairsP l ns := by simp [pairsP]
    rw [this, List.length_append, List.length_map, List.length_cons, Nat.succ_mul]
    omega

theorem reads_length {l : List Sn} (hl : l.length ≤ 100000) : (readsP l).length ≤ 10000000000 := by
  have h1 := emit_length l (ordR l) (pairsP l (ordR l)) h0
  have h2 := pairs_length l (ordR l)
  have h3 := ordR_le l
  have h4 : (ordR l).length * l.length ≤ 100000 * 100000 := Nat.mul_le_mul (by omega) hl
  unfold readsP
  omega

/-- 'reads': the view is boxed; the function value captures the box. -/
theorem reads59_any (Bv : Nat) (w : World) :
    Calls Try.prog 59 #[.pointer (some ⟨Bv, 0, none⟩)] w fun e w' => e = .returned (.func (.func 74) #[] #[.pointer (some ⟨w.heap.size, 0, none⟩)]) ∧ w.alloc (.cells #[.pointer (some ⟨Bv, 0, none⟩)] 98) = w' := by
  go_enter Try.func59, Try.ntmps59
  go_wp2
  go_ret
  exact ⟨rfl, rfl⟩

theorem KeepR.trans {n₀ n₁ : Nat} {bo : Option Nat} {A B C : World} (h : KeepR n₀ n₁ bo A B) (k : KeepR n₀ n₁ bo B C) : KeepR n₀ n₁ bo A C := ⟨h.1.trans k.1, fun r => k.2 (h.2 r)⟩
theorem KeepR.book {n₀ n₁ : Nat} {bo : Option Nat} {w : World} (hbo : ∀ b, bo = some b → b < w.heap.size) (W : World) (l : Nat) (o o' : Obj) (hl : w.heap.size ≤ l) (h : W.heap[l]? = some o) (h1 : o.isCells = false) (h2 : o.isWalk = false) :
    KeepR n₀ n₁ bo W (W.putObj l o') := by
  have hk := Keep.book (n₀ := n₀) (n₁ := n₁) hbo W l o o' hl h h1 h2
  refine ⟨hk, fun hr k hrk => ?_⟩
  have : rowOf bo W k := rowOf_of_block (fun b hb => World.putObj_heap_other (by have := hbo b hb; omega)) hrk
  have := hr k this
  simpa using this
theorem KeepR.below {n₀ n₁ : Nat} {bo : Option Nat} {W W' : World} (h : Below W.heap.size W W') (hbo : ∀ b, bo = some b → b < W.heap.size) : KeepR n₀ n₁ bo W W' :=
  ⟨(Rnd.of_below h hbo).keep, fun hr k hrk => by
    have := hr k (rowOf_of_block (fun b hb => h.block b (hbo b hb)) hrk)
    have := h.size
    omega⟩

/-- A row lies higher than its base says. -/
theorem owns_up {W : World} {b b' : Nat} {e : TypeId} {size n : Nat} {v : Value} {xs : List Value} (h : W.ownsRow b e size v n xs) (hb : ∀ g, v.ownBlock = some g → b' ≤ g) : W.ownsRow b' e size v n xs := by
  refine ⟨h.1, ?_⟩
  rcases h.2 with h | ⟨g, cap, cur, e1, _, e3⟩
  · exact .inl h
  · exact .inr ⟨g, cap, cur, e1, hb g (by rw [e1]; rfl), e3⟩

/-- The box B holds the faults handed out so far that are wrong. -/
structure WrI (w wS : World) (ys : List Ft) (b k : Nat) (A : World) (vo : Value) : Prop where
  box : Boxed A w.heap.size 55 vo
  row : A.ownsRow b 59 28 vo ((ys.take k).filter fun f => decide (f.want ≠ f.got)).length (((ys.take k).filter fun f => decide (f.want ≠ f.got)).flatMap Ft.cells)
  below : Below w.heap.size w A
  hb : wS.heap.size + 2 ≤ b
  hsz : b ≤ A.heap.size

theorem WrI.own {w wS : World} {ys : List Ft} {b k : Nat} {A A' : World} {vo : Value} (h : WrI w wS ys b k A vo) (hs : w.heap.size < wS.heap.size) (ht : OwnTurn wS.heap.size b A A') : WrI w wS ys b k A' vo := by
  obtain ⟨row, hg, hr⟩ := ht
  have hbx : A.heap[w.heap.size]? = some (.cells #[vo] 55 (0, 0)) := h.box
  refine ⟨?_, ?_, h.below.grown hg h.below.size (fun r e => by have := (hr r e).1; omega), h.hb, Nat.le_trans h.hsz hg.size⟩
  · exact (hg.block _ (lt_of_heap hbx) (fun e => by have := (hr _ e.symm).1; omega)).trans hbx
  · refine ⟨h.row.1, ?_⟩
    rcases h.row.2 with h1 | ⟨g, cap, cur, e1, e2, e3, e4⟩
    · exact .inl h1
    · exact .inr ⟨g, cap, cur, e1, e2, (hg.block g (lt_of_heap e3) (fun e => by have := (hr g e.symm).2; omega)).trans e3, e4⟩

theorem wr_step {ys : List Ft} {k : Nat} {x : Ft} (hx : ys[k]? = some x) : (ys.take (k + 1)).filter (fun f => decide (f.want ≠ f.got)) = (ys.take k).filter (fun f => decide (f.want ≠ f.got)) ++ (if x.want = x.got then [] else [x]) := by
  rw [List.take_add_one, hx, List.filter_append]
  congr 1
  by_cases h : x.want = x.got <;> simp [h]

theorem Ft.cells_one (f : Ft) : ∀ c ∈ f.cells, c.oneCell' = true := by
  intro c hc
  have h := (Array.all_eq_true_iff_forall_mem.1 (ftArr_one f)) c
  exact h (by rw [← Array.mem_toList_iff, ftArr_cells]; exact hc)

theorem Try.info59z : (Try.prog.info? 59).map (fun i => (i.zero, i.size, i.bytes)) = some (some (.agg (ftArr ftz)), 28, 112) := by kernel_rfl

theorem ft_at {w : World} {B : Nat} {f : Ft} {t : TypeId} {fr : Nat × Nat} (h : w.heap[B]? = some (.cells (ftArr f) t fr)) :
    w.cell? ⟨B, 5, none⟩ = some (.int .u8 f.want.a) ∧ w.cell? ⟨B, 6, none⟩ = some (.int .u8 f.want.b) ∧ w.cell? ⟨B, 7, none⟩ = some (.int .u8 f.want.c) ∧ w.cell? ⟨B, 8, none⟩ = some (.int .u8 f.want.d) ∧
    w.cell? ⟨B, 9, none⟩ = some (.int .u8 f.want.e) ∧ w.cell? ⟨B, 10, none⟩ = some (.int .u8 f.want.f) ∧ w.cell? ⟨B, 11, none⟩ = some (.int .u8 f.want.g) ∧ w.cell? ⟨B, 12, none⟩ = some (.int .u8 f.want.h) ∧
    w.cell? ⟨B, 13, none⟩ = some (.int .u8 f.got.a) ∧ w.cell? ⟨B, 14, none⟩ = some (.int .u8 f.got.b) ∧ w.cell? ⟨B, 15, none⟩ = some (.int .u8 f.got.c) ∧ w.cell? ⟨B, 16, none⟩ = some (.int .u8 f.got.d) ∧
    w.cell? ⟨B, 17, none⟩ = some (.int .u8 f.got.e) ∧ w.cell? ⟨B, 18, none⟩ = some (.int .u8 f.got.f) ∧ w.cell? ⟨B, 19, none⟩ = some (.int .u8 f.got.g) ∧ w.cell? ⟨B, 20, none⟩ = some (.int .u8 f.got.h) := by
  refine ⟨?_, ?_, ?_, ?_, ?_, ?_, ?_, ?_, ?_, ?_, ?_, ?_, ?_, ?_, ?_, ?_⟩ <;> (rw [cell_of_row w B _ _ t fr h]; rfl)

theorem ViewAt.below {base Bv : Nat} {W W' : World} {lv : Value} {ns : List Nm} (h : ViewAt base W Bv lv ns) (hb : Below W.heap.size W W') {base' : Nat} (hbase : base' ≤ base) : ViewAt base' W' Bv lv ns := by
  obtain ⟨na, nc, Mp, h1, h2, h3, h4, h5, h6⟩ := h
  refine ⟨na, nc, Mp, by omega, by omega, (hb.block _ (lt_of_heap h3)).trans h3, h4.kept (hb.block _ h4.lt), h5, fun b off s e => ?_⟩
  obtain ⟨h7, h8⟩ := h6 b off s e
  refine ⟨by omega, fun hl => ?_⟩
  obtain ⟨h9, h10, h11⟩ := h8 hl
  exact ⟨h9, Nat.lt_of_lt_of_le h10 hb.size, h11.below h10 hb⟩

set_option maxRecDepth 100000 in
set_option maxHeartbeats 4000000 in
theorem wrong_any (l : List Sn) (v : Value) (w : World) (hl : l.length ≤ 100000) (hv : Sns w.heap.size w v l) :
    Calls Try.prog 29 #[v] w fun e w' => ((mayP l = false ∧ e = .returned (.tuple #[slNil, .int .i64 2])) ∨ (mayP l = true ∧ ∃ vo, e = .returned (.tuple #[vo, .int .i64 0]) ∧ w'.ownsRow w.heap.size 59 28 vo (wrongP l).length ((wrongP l).flatMap Ft.cells))) ∧ Below w.heap.size w w' := by
  obtain ⟨w1, hw1⟩ : ∃ w1, w.alloc (.cells #[slNil] 55) = w1 := ⟨_, rfl⟩
  have hb1 : Below w.heap.size w w1 := hw1 ▸ below_alloc1 _
  have hx1 : Boxed w1 w.heap.size 55 slNil := hw1 ▸ heap_alloc_new w _
  have hs1 : w1.heap.size = w.heap.size + 1 := by rw [← hw1]; simp
  have HC := Lib.hid (look_any l v w1 hl ((hv.below hb1).mono hb1.size))
  have hva : ∃ a c, v = .slice a l.length c := by obtain ⟨a, c, h, _⟩ := hv; exact ⟨a, c, h⟩
  obtain ⟨va, vc, rfl⟩ := hva
  have HV := Lib.hid hv
  have HW1 := Lib.hid hw1
  have HB1 := Lib.hid hb1
  have HX1 := Lib.hid hx1
  have HS1 := Lib.hid hs1
  clear hw1 hb1 hx1 hs1 hv
  refine (callsIn_wide (n := 10)).1 ?_
  refine callsIn_of_wp_marks Try.func29 rfl trivial ?_ rfl
  simp only [Try.ntmps29, List.size_toArray, List.length_cons, List.length_nil, Nat.reduceAdd, Nat.reduceSub, Array.replicate_succ, Array.replicate_zero, List.push_toArray, List.append_toArray, List.nil_append, List.cons_append]
  gi_wp2_with fail
  refine ⟨trivial, ?_⟩
  rw [show (w.alloc (.cells #[.slice none 0 0] 55)) = w1 from HW1.out]
  refine (callsIn_wide.2 HC.out).mono ?_
  rintro e w2 ⟨h, b2⟩
  rcases h with ⟨hm, rfl⟩ | ⟨hm, Bv, rfl, hvw⟩
  · have HM := Lib.hid hm
    have hx2 : Boxed w2 w.heap.size 55 slNil := (b2.block _ (lt_of_heap HX1.out)).trans HX1.out
    have hc2 := hx2.cell
    have hf2 := hx2.frozen
    have HX2 := Lib.hid hx2
    have HB2 := Lib.hid (HB1.out.trans (b2.mono HB1.out.size))
    clear hm b2 hx2
    gi_wp2_with fail
    have hc3 : (w2.setCell ⟨w.heap.size, 0, none⟩ (.slice none 0 0)).cell? ⟨w.heap.size, 0, none⟩ = some (.slice none 0 0) := (HX2.out.set slNil).cell
    refine ⟨.tuple #[slNil, .int .i64 2], by simp [results, Try.results29, go_sem, hc3, slNil], .inl ⟨HM.out, rfl⟩, ?_⟩
    exact HB2.out.setCell (p := ⟨w.heap.size, 0, none⟩) (by simp) _
  · obtain ⟨na, nc, Mp, hBv, hMp, hbv, hmp, hnn, hnr⟩ := id hvw
    have HVW := Lib.hid hvw
    have HM := Lib.hid hm
    have hx2 : Boxed w2 w.heap.size 55 slNil := (b2.block _ (lt_of_heap HX1.out)).trans HX1.out
    have HX2 := Lib.hid hx2
    have HB2 := Lib.hid (HB1.out.trans (b2.mono HB1.out.size))
    have HBV := Lib.hid hBv
    have hz2 : w.heap.size + 1 ≤ w2.heap.size := by have := HS1.out; have := b2.size; omega
    have HZ2 := Lib.hid hz2
    clear hm b2 hx2 hMp hbv hmp hnn hnr hvw hBv hz2
    gi_wp2_with fail
    refine ⟨trivial, ?_⟩
    refine (callsIn_wide.2 (reads59_any Bv w2)).mono ?_
    rintro e w3 ⟨rfl, hw3⟩
    have hb3 : Below w2.heap.size w2 w3 := hw3 ▸ below_alloc1 _
    have hz3 : w3.heap.size = w2.heap.size + 1 := by rw [← hw3]; simp
    have hbox3 : w3.heap[w2.heap.size]? = some (.cells #[.pointer (some ⟨Bv, 0, none⟩)] 98 (0, 0)) := hw3 ▸ heap_alloc_new w2 _
    have hx3 : Boxed w3 w.heap.size 55 slNil := (hb3.block _ (lt_of_heap HX2.out)).trans HX2.out
    have hB3 : Below w.heap.size w w3 := HB2.out.trans (hb3.mono HB2.out.size)
    have hz := HZ2.out
    have hbo : ∀ b, some w.heap.size = some b → b < w3.heap.size := fun b hb => by cases hb; omega
    have hseq := reads74_in 0 w2.heap.size Bv w.heap.size (w.heap.size + 1) (some w.heap.size) (.slice va l.length vc) l hl HM.out w3 (HV.out.below hB3) (by omega) (by omega) hbo
      (fun k hk => by
        obtain ⟨b, o, s, n, c, e, hc⟩ := hk
        cases e
        rw [hx3.cell] at hc
        cases hc) (by omega) hbox3 (HVW.out.below hb3 (by rw [HS1.out]; exact Nat.le_refl _))
    have HX3 := Lib.hid hx3
    have HB3 := Lib.hid hB3
    clear hw3 hb3 hbox3 hx3 hB3
    gi_wp2_with fail
    refine wpIn_rangeX (n := 10) (by omega) (gf := 74) (lb := #[.pointer (some ⟨w2.heap.size, 0, none⟩)]) rfl (enters_of Try.func74 (by kernel_rfl) rfl) (encs := fun f => #[.agg (ftArr f)]) (Kp := KeepR w.heap.size (w.heap.size + 1) (some w.heap.size)) (ys := readsP l) (w0 := w3) hseq (Below.refl _ _) (fun _ => rfl)
      (fun h1 h2 => h1.trans h2) (fun A r r' h => KeepR.book (w := w3) hbo A (w3.heap.size + 1) _ _ (by omega) h rfl rfl)
      (fun b k A => ∃ vo, WrI w w3 (readsP l) b k A vo)
      (fun W1 h1 h2 => ⟨slNil, (h1.block _ (by omega)).trans HX3.out, World.ownsRow_nil _ _ _ _, HB3.out.trans (h1.mono HB3.out.size), h2, Nat.le_refl _⟩)
      (fun b k A A' ⟨vo, h⟩ ht => ⟨vo, h.own (by omega) ht⟩)
      (fun x a' A => ∃ Bx, w3.heap.size + 2 ≤ Bx ∧ A.heap[Bx]? = some (.cells (ftArr x) 59 (0, 0)) ∧ a' = { tmps := #[.slice va l.length vc, undef, .pointer (some ⟨w.heap.size, 0, none⟩), .int .i64 0, .pointer (some ⟨Bv, 0, none⟩), .pointer (some ⟨Bx, 0, none⟩), .tuple #[.pointer (some ⟨Bv, 0, none⟩), .int .i64 0], .slice va l.length vc, .tuple #[.pointer (some ⟨Bv, 0, none⟩), .int .i64 0], .pointer (some ⟨Bv, 0, none⟩), .int .i64 0, .int .i64 0, .bool false, undef, .pointer (some ⟨Bv, 0, none⟩), .func (.func 74) #[] #[.pointer (some ⟨w2.heap.size, 0, none⟩)], .agg (ftArr x), undef, undef, undef, undef, undef, undef, undef, undef, undef, undef], defers := [] })
      (fun x a' A r ⟨Bx, h1, h2, h3⟩ => ⟨Bx, h1, (World.putObj_heap_other (by omega)).trans h2, h3⟩) ?assign ?body ?done
    case assign =>
      rintro lp b k x A K hx ⟨vo, hI⟩ hK hlt
      gi_wp2_with (refine wpListIn_store rfl 59 (.tmp 5) (.tmp 16) rfl ⟨A.heap.size, 0, none⟩ rfl (.agg (ftArr x)) rfl (st_ft A x) ?_)
      refine hK _ _ ?_ ?_ ?_ ?_
      · exact fun j hj => Below.heap_alloc A _ j (by rcases hj with rfl | rfl <;> omega)
      · exact KeepR.below (below_alloc1 _) (fun b hb => by cases hb; exact lt_of_heap hI.box)
      · exact ⟨vo, hI.own (by omega) ⟨none, World.grownBy_alloc A _ none, fun r e => by cases e⟩⟩
      · exact ⟨A.heap.size, by omega, heap_alloc_new A _, rfl⟩
    case body =>
      rintro lp b k x a' A hx ⟨vo, hI⟩ ⟨Bx, hBx, hbx, rfl⟩ hlt hlb
      obtain ⟨d0, d1, d2, d3, d4, d5, d6, d7, d8, d9, d10, d11, d12, d13, d14, d15⟩ := ft_at hbx
      have hst := wr_step hx
      have hkl : k < (readsP l).length := (List.getElem?_eq_some_iff.1 hx).1
      have hyl : ((readsP l).take k).length ≤ 10000000000 := by have := reads_length hl; rw [List.length_take]; omega
      have hfl : (((readsP l).take k).filter fun f => decide (f.want ≠ f.got)).length ≤ 10000000000 := Nat.le_trans (List.length_filter_le _ _) hyl
      have hq := fun w => neq_v8 x.want x.got w
      have HI := Lib.hid hI
      have HBX := Lib.hid hbx
      clear hI hbx hyl hx hkl hseq
      by_cases hne : x.want = x.got
      · have hd : decide (x.want = x.got) = true := by simpa using hne
        rw [if_pos hne, List.append_nil] at hst
        have HST := Lib.hid hst
        clear hne hst
        gi_wp2_with fail
        refine ⟨fun _ _ => rfl, ⟨Keep.refl _ _ _ _, id⟩, vo, HI.out.box, ?_, HI.out.below, HI.out.hb, HI.out.hsz⟩
        rw [HST.out]
        exact HI.out.row
      · have hd : decide (x.want = x.got) = false := by simpa using hne
        rw [if_neg hne] at hst
        have HST := Lib.hid hst
        clear hne hst
        generalize hxs : ((readsP l).take k).filter (fun f => decide (f.want ≠ f.got)) = xs at *
        obtain ⟨va2, vc2, rfl⟩ := ownsRow_slice (hxs ▸ HI.out.row)
        have hrow : A.ownsRow b 59 28 (.slice va2 xs.length vc2) xs.length (xs.flatMap Ft.cells) := by
          have := HI.out.row
          rwa [hxs] at this
        have HROW := Lib.hid hrow
        have hvb := HI.out.box
        have hc0 := hvb.cell
        have HV := Lib.hid hvb
        have hsz := HI.out.hsz
        have hwb : w.heap.size ≤ b := by have := HI.out.hb; omega
        have HBE := Lib.hid HI.out.below
        obtain ⟨i0, hi, hz0, hz1, hz2⟩ := info_parts Try.info59z
        clear hrow hvb hxs
        gi_wp2_with (first | (refine wpListIn_load rfl 59 (.tmp 5) rfl ⟨Bx, 0, none⟩ rfl (.agg #[.int .i64 x.i, .int .i64 x.n.s, .int .i64 x.n.i, .int .i64 x.n.t, .int .i64 x.b, .int .u8 x.want.a, .int .u8 x.want.b, .int .u8 x.want.c, .int .u8 x.want.d, .int .u8 x.want.e, .int .u8 x.want.f, .int .u8 x.want.g, .int .u8 x.want.h, .int .u8 x.got.a, .int .u8 x.got.b, .int .u8 x.got.c, .int .u8 x.got.d, .int .u8 x.got.e, .int .u8 x.got.f, .int .u8 x.got.g, .int .u8 x.got.h, .int .i64 x.should.s, .int .i64 x.should.i, .int .i64 x.should.t, .int .i64 x.was.s, .int .i64 x.was.i, .int .i64 x.was.t, .int .i8 x.k]) (ld_ft HBX.out) ?_) | (gi_at_builtin; refine wpListIn_append_own_at _ rfl _ _ 55 rfl b 59 i0 (.agg (ftArr ftz)) 28 112 Try.underlying55 hi hz0 hz1 hz2 rfl (by decide) (.slice va2 xs.length vc2) xs.length (xs.flatMap Ft.cells) rfl (HROW.out.alloc _) ⟨A.heap.size, 0, none⟩ 1 1 [.int .i64 x.i, .int .i64 x.n.s, .int .i64 x.n.i, .int .i64 x.n.t, .int .i64 x.b, .int .u8 x.want.a, .int .u8 x.want.b, .int .u8 x.want.c, .int .u8 x.want.d, .int .u8 x.want.e, .int .u8 x.want.f, .int .u8 x.want.g, .int .u8 x.want.h, .int .u8 x.got.a, .int .u8 x.got.b, .int .u8 x.got.c, .int .u8 x.got.d, .int .u8 x.got.e, .int .u8 x.got.f, .int .u8 x.got.g, .int .u8 x.got.h, .int .i64 x.should.s, .int .i64 x.should.i, .int .i64 x.should.t, .int .i64 x.was.s, .int .i64 x.was.i, .int .i64 x.was.t, .int .i8 x.k] rfl rfl (cells_new A [.int .i64 x.i, .int .i64 x.n.s, .int .i64 x.n.i, .int .i64 x.n.t, .int .i64 x.b, .int .u8 x.want.a, .int .u8 x.want.b, .int .u8 x.want.c, .int .u8 x.want.d, .int .u8 x.want.e, .int .u8 x.want.f, .int .u8 x.want.g, .int .u8 x.want.h, .int .u8 x.got.a, .int .u8 x.got.b, .int .u8 x.got.c, .int .u8 x.got.d, .int .u8 x.got.e, .int .u8 x.got.f, .int .u8 x.got.g, .int .u8 x.got.h, .int .i64 x.should.s, .int .i64 x.should.i, .int .i64 x.should.t, .int .i64 x.was.s, .int .i64 x.was.i, .int .i64 x.was.t, .int .i8 x.k] 59) (Ft.cells_one x) (by unfold maxLen; omega) (by omega) (by simp; omega) ?_; intro v4 w4 hown4 hgrow4 hnil4 hloc4; obtain ⟨g4, cap4, rfl⟩ := ownsRow_succ hown4; obtain ⟨hR4, hv4, hv5, hrow5, hoth⟩ := Rnd.append (n₀ := w.heap.size) (n₁ := w.heap.size + 1) HV.out (by decide) (Nat.le_refl _) (by omega) (owns_base HROW.out hwb) (owns_base hown4 hwb) hgrow4 hloc4; have hc1 := hv4.cell; have hf1 := hv4.frozen; have HOTH := Lib.hid hoth; have HLOC := Lib.hid hloc4; have HV5 := Lib.hid hv5; have HROW5 := Lib.hid hrow5; have HR4 := Lib.hid hR4; have HV4 := Lib.hid hv4; clear hoth hnil4 hloc4 hgrow4 hown4 hv5 hrow5 hR4 hv4))
        refine ⟨fun j hj => ?_, ⟨HR4.out.keep, fun _ k' hk' => ?_⟩, .slice (some ⟨g4, 0, none⟩) (xs.length + 1) cap4, HV5.out, ?_, HR4.out.below HBE.out (Nat.le_refl _), HI.out.hb, Nat.le_trans hsz HR4.out.size⟩
        · have hjl : j < A.heap.size := by rcases hj with rfl | rfl <;> omega
          rw [Array.getElem?_eq_getElem hjl]
          exact HOTH.out j _ (by rcases hj with rfl | rfl <;> omega) (fun e => by
            have := (HROW.out.lt j e).1
            rcases hj with rfl | rfl <;> omega) (Array.getElem?_eq_getElem hjl)
        · obtain ⟨b0, o, s, n, c, e, hc⟩ := hk'
          cases e
          rw [HV5.out.cell] at hc
          cases hc
          exact (HROW5.out.lt _ rfl).2
        · have hr6 : (w4.setCell ⟨w.heap.size, 0, none⟩ (.slice (some ⟨g4, 0, none⟩) (xs.length + 1) cap4)).ownsRow b 59 28 (.slice (some ⟨g4, 0, none⟩) (xs.length + 1) cap4) (xs.length + 1) (xs.flatMap Ft.cells ++ [.int .i64 x.i, .int .i64 x.n.s, .int .i64 x.n.i, .int .i64 x.n.t, .int .i64 x.b, .int .u8 x.want.a, .int .u8 x.want.b, .int .u8 x.want.c, .int .u8 x.want.d, .int .u8 x.want.e, .int .u8 x.want.f, .int .u8 x.want.g, .int .u8 x.want.h, .int .u8 x.got.a, .int .u8 x.got.b, .int .u8 x.got.c, .int .u8 x.got.d, .int .u8 x.got.e, .int .u8 x.got.f, .int .u8 x.got.g, .int .u8 x.got.h, .int .i64 x.should.s, .int .i64 x.should.i, .int .i64 x.should.t, .int .i64 x.was.s, .int .i64 x.was.i, .int .i64 x.was.t, .int .i8 x.k]) := by
            refine owns_up HROW5.out (fun g hg => ?_)
            rcases HLOC.out with h1 | h1
            · exact (HROW.out.lt g (by rw [← h1]; exact hg)).1
            · rw [h1] at hg
              cases hg
              simp
              omega
          have hfin : ((readsP l).take (k + 1)).filter (fun f => decide (f.want ≠ f.got)) = xs ++ [x] := HST.out
          rw [hfin]
          simpa [Ft.cells, Nm.cells, V8.cells] using hr6
    case done =>
      rintro b W ⟨vo, hI⟩ hD
      have hrow : W.ownsRow b 59 28 vo (wrongP l).length ((wrongP l).flatMap Ft.cells) := by
        have := hI.row
        rwa [List.take_length] at this
      obtain ⟨a', c', rfl⟩ := ownsRow_slice hrow
      have hc := hI.box.cell
      have hf := hI.box.frozen
      have HI := Lib.hid hI
      have HROW := Lib.hid hrow
      clear hseq hI hrow
      gi_wp2_with fail
      have hv2 := HI.out.box.set (.slice a' (wrongP l).length c')
      have hK2 : (W.setCell ⟨w.heap.size, 0, none⟩ (.slice a' (wrongP l).length c')).heap[w3.heap.size]? = some (.deferred (some [])) := (Below.heap_setCell _ _ _ _ (by show w3.heap.size ≠ w.heap.size; omega)).trans hD
      have hv3 : Boxed ((W.setCell ⟨w.heap.size, 0, none⟩ (.slice a' (wrongP l).length c')).putObj w3.heap.size (.deferred none)) w.heap.size 55 _ := (World.putObj_heap_other (by omega)).trans hv2
      have hrow2 := owns_turn HROW.out (grownBy_setCell' W w.heap.size (.slice a' (wrongP l).length c')) (not_row HI.out.box (by decide) HROW.out)
      refine ⟨by simp, .inl ⟨_, _, rfl, run_takeDeferred hK2, ?_⟩⟩
      refine ⟨.tuple #[.slice a' (wrongP l).length c', .int .i64 0], by simp [results, Try.results29, go_sem, hv3.cell], .inr ⟨HM.out, _, rfl, ?_⟩, ?_⟩
      · exact owns_base (ownsRow_putObj hrow2 _ hK2 rfl) (by have := HI.out.hb; omega)
      · exact (HI.out.below.setCell (p := ⟨w.heap.size, 0, none⟩) (by simp) _).trans (belowK_b (w := w) (Nat.le_refl _) _ w3.heap.size _ _ (by omega) hK2 rfl rfl)

end Go.Proofs.Ytgdmgeihgkbjaaa
/- 'cashboxlaw32.wakes' -/
namespace Go.Proofs.Ytgdmgeihgkbjaaa
open Go.RowKit Go.Shelf

def vv (v : Int) : V8 := ⟨v, 0, 0, 0, 0, 0, 0, 0⟩
def stv (k n v : Int) : Sn := ⟨k, ⟨n, 1, 1⟩, 0, vv v, 0⟩
def one32 (v : Int) : List Sn := [stv 0 1 0, stv 2 1 1, stv 3 1 0, stv 5 1 0, stv 0 2 0, stv 1 2 v, stv 3 2 0, stv 5 2 0]

set_option maxRecDepth 100000 in
theorem one_may0 : mayP (one32 0) = true := by decide
set_option maxRecDepth 100000 in
theorem one_may1 : mayP (one32 1) = true := by decide
set_option maxRecDepth 100000 in
theorem one_may7 : mayP (one32 7) = true := by decide
set_option maxRecDepth 100000 in
theorem one_wr0 : wrongP (one32 0) = [⟨5, ⟨2, 1, 1⟩, 0, vv 1, vv 0, ⟨1, 1, 1⟩, nz, 0⟩] := by decide
set_option maxRecDepth 100000 in
theorem one_wr1 : wrongP (one32 1) = [] := by decide
set_option maxRecDepth 100000 in
theorem one_wr7 : wrongP (one32 7) = [⟨5, ⟨2, 1, 1⟩, 0, vv 1, vv 7, ⟨1, 1, 1⟩, nz, 4⟩] := by decide

set_option maxRecDepth 100000 in
theorem run_build8 (w : World) (v : Int) : (Instr.buildSlice 25 8 #[(0, .agg (snArr (stv 0 1 0))), (1, .agg (snArr (stv 2 1 1))), (2, .agg (snArr (stv 3 1 0))), (3, .agg (snArr (stv 5 1 0))), (4, .agg (snArr (stv 0 2 0))), (5, .agg (snArr (stv 1 2 v))), (6, .agg (snArr (stv 3 2 0))), (7, .agg (snArr (stv 5 2 0)))]).run Try.prog w = .ok (.slice (some ⟨w.heap.size, 0, none⟩) 8 8) (w.alloc (.cells ((one32 v).flatMap Sn.cells).toArray 36)) := by
  simp [go_sem, snArr, stv, vv, one32, Sn.cells]

theorem wpList_build8 {ops : Array Oper} {rest : List Oper} {o : Oper} {a : Act} {w : World} {Q : Exit → Act → World → Prop} (hgd : o.guard = none) (p0 p1 p2 p3 p4 p5 p6 p7 : Operand) (ho : o.op = .buildSlice 25 8 #[(0, p0), (1, p1), (2, p2), (3, p3), (4, p4), (5, p5), (6, p6), (7, p7)]) (v : Int)
    (h0 : a.eval p0 = .agg (snArr (stv 0 1 0))) (h1 : a.eval p1 = .agg (snArr (stv 2 1 1))) (h2 : a.eval p2 = .agg (snArr (stv 3 1 0))) (h3 : a.eval p3 = .agg (snArr (stv 5 1 0))) (h4 : a.eval p4 = .agg (snArr (stv 0 2 0))) (h5 : a.eval p5 = .agg (snArr (stv 1 2 v))) (h6 : a.eval p6 = .agg (snArr (stv 3 2 0))) (h7 : a.eval p7 = .agg (snArr (stv 5 2 0)))
    (h : wpList Try.prog ops Q rest (a.put o.dst (.slice (some ⟨w.heap.size, 0, none⟩) 8 8)) (w.alloc (.cells ((one32 v).flatMap Sn.cells).toArray 36))) : wpList Try.prog ops Q (o :: rest) a w :=
  wpList_plain hgd fun K hK => by
    unfold Oper.wp execOp
    simp only [ho, List.map_toArray, List.map_cons, List.map_nil, h0, h1, h2, h3, h4, h5, h6, h7, Sem.run_bind, run_build8, Result.andThen_ok, Sem.run_pure]
    exact hK _ _ h

set_option maxRecDepth 100000 in
set_option maxHeartbeats 2000000 in
theorem one_any (v : Int) (w : World) : Calls Try.prog 57 #[.int .u8 v] w fun e w' => ∃ g, e = .returned (.slice (some ⟨g, 0, none⟩) 8 8) ∧ Sns w'.heap.size w' (.slice (some ⟨g, 0, none⟩) 8 8) (one32 v) ∧ Below w.heap.size w w' := by
  go_enter Try.func57, Try.ntmps57
  go_wp2_with (refine wpList_build8 rfl (.tmp 8) (.tmp 11) (.tmp 13) (.tmp 15) (.tmp 17) (.tmp 21) (.tmp 23) (.tmp 25) rfl v rfl rfl rfl rfl rfl rfl rfl rfl ?_)
  go_ret
  have key : ∀ W : World, W.heap.size = w.heap.size + 1 + 1 → Sns (W.alloc (.cells ((one32 v).flatMap Sn.cells).toArray 36)).heap.size (W.alloc (.cells ((one32 v).flatMap Sn.cells).toArray 36)) (.slice (some ⟨w.heap.size + 1 + 1, 0, none⟩) 8 8) (one32 v) := fun W e => by
    rw [← e]; exact sns_lit W (one32 v)
  exact ⟨_, rfl, key _ (by simp), (((Below.refl _ _).alloc (Nat.le_refl _) _).alloc (by simp) _).alloc (by simp; omega) _⟩

theorem one_wrong (v : Int) (x : Value) (w : World) (hm : mayP (one32 v) = true) (hv : Sns w.heap.size w x (one32 v)) :
    Calls Try.prog 29 #[x] w fun e w' => ∃ vo, e = .returned (.tuple #[vo, .int .i64 0]) ∧ w'.ownsRow w.heap.size 59 28 vo (wrongP (one32 v)).length ((wrongP (one32 v)).flatMap Ft.cells) ∧ Below w.heap.size w w' := by
  refine (wrong_any (one32 v) x w (by simp [one32]) hv).mono ?_
  rintro e w' ⟨h, hb⟩
  rcases h with ⟨h, _⟩ | ⟨_, vo, rfl, hr⟩
  · rw [hm] at h; cases h
  · exact ⟨vo, rfl, hr, hb⟩

set_option maxRecDepth 100000 in
set_option maxHeartbeats 2000000 in
theorem wakes32_any (w : World) : Calls Try.prog 28 #[] w fun e w' => e = .returned (.bool true) ∧ Below w.heap.size w w' := by
  go_enter Try.func28, Try.ntmps28
  go_wp2_with fail
  refine (one_any 0 w).mono ?_
  rintro e w1 ⟨g1, rfl, hs1, b1⟩
  go_wp2_with fail
  refine (one_wrong 0 _ w1 one_may0 hs1).mono ?_
  rintro e w2 ⟨v2, rfl, hr2, b2⟩
  rw [one_wr0] at hr2
  obtain ⟨gA, capA, rfl⟩ := ownsRow_succ hr2
  have HA := Lib.hid hr2
  have B2 := Lib.hid (b1.trans (b2.mono b1.size))
  clear hs1 b1 b2 hr2
  go_wp2_with fail
  refine (one_any 1 w2).mono ?_
  rintro e w3 ⟨g3, rfl, hs3, b3⟩
  go_wp2_with fail
  refine (one_wrong 1 _ w3 one_may1 hs3).mono ?_
  rintro e w4 ⟨v4, rfl, hr4, b4⟩
  rw [one_wr1] at hr4
  obtain ⟨a4, c4, rfl⟩ := ownsRow_slice hr4
  have HB := Lib.hid hr4
  have B4 := Lib.hid (b3.trans (b4.mono b3.size))
  clear hs3 b3 b4 hr4
  go_wp2_with fail
  refine (one_any 7 w4).mono ?_
  rintro e w5 ⟨g5, rfl, hs5, b5⟩
  go_wp2_with fail
  refine (one_wrong 7 _ w5 one_may7 hs5).mono ?_
  rintro e w6 ⟨v6, rfl, hr6, b6⟩
  rw [one_wr7] at hr6
  obtain ⟨gC, capC, rfl⟩ := ownsRow_succ hr6
  have HC := Lib.hid hr6
  have B6 := Lib.hid (b5.trans (b6.mono b5.size))
  clear hs5 b5 b6 hr6
  have hA6 := (Below.trans B4.out (B6.out.mono B4.out.size))
  have hgA := (HA.out.lt gA rfl).2
  have a0 : w6.cell? ⟨gA, 0, none⟩ = some (.int .i64 5) := (hA6.cell (p := ⟨gA, 0, none⟩) hgA).trans (HA.out.cells (g := gA) rfl 0 _ rfl)
  have a21 : w6.cell? ⟨gA, 21, none⟩ = some (.int .i64 1) := (hA6.cell (p := ⟨gA, 21, none⟩) hgA).trans (HA.out.cells (g := gA) rfl 21 _ rfl)
  have a27 : w6.cell? ⟨gA, 27, none⟩ = some (.int .i8 0) := (hA6.cell (p := ⟨gA, 27, none⟩) hgA).trans (HA.out.cells (g := gA) rfl 27 _ rfl)
  have c27 : w6.cell? ⟨gC, 27, none⟩ = some (.int .i8 4) := HC.out.cells (g := gC) rfl 27 _ rfl
  have HB6 : Hid (Below w.heap.size w w6) := B2.out.trans ((B4.out.trans (B6.out.mono B4.out.size)).mono B2.out.size)
  clear hA6 hgA
  go_wp2_with fail
  go_ret
  exact ⟨rfl, HB6.out⟩

end Go.Proofs.Ytgdmgeihgkbjaaa
/- 'wrote' and 'wroteBy' of chapter 32 -/
namespace Go.Proofs.Ytgdmgeihgkbjaaa
open Go.RowKit Go.Shelf

def wroteP (n : Nm) (b : Int) (u : V8) (x : Sn) : Bool := (x.k == 2) && decide (x.n = n) && (x.b == b) && decide (x.v = u)
def wroteByP (b : Int) (u : V8) (x : Sn) : Bool := (x.k == 2) && (x.b == b) && decide (x.v = u)

theorem any_drop {p : Sn → Bool} {l : List Sn} {q : Nat} {x : Sn} (hx : l[q]? = some x) : (l.drop q).any p = (p x || (l.drop (q + 1)).any p) := by
  rw [drop_cons hx]; rfl

set_option maxRecDepth 100000 in
set_option maxHeartbeats 4000000 in
theorem wrote_any (l : List Sn) (v : Value) (n : Nm) (b : Int) (u : V8) (w : World) (hl : l.length ≤ 100000) (hv : Sns w.heap.size w v l) :
    Calls Try.prog 30 #[v, .agg #[.int .i64 n.s, .int .i64 n.i, .int .i64 n.t], .int .i64 b, .agg #[.int .u8 u.a, .int .u8 u.b, .int .u8 u.c, .int .u8 u.d, .int .u8 u.e, .int .u8 u.f, .int .u8 u.g, .int .u8 u.h]] w fun e w' => e = .returned (.bool (l.any (wroteP n b u))) ∧ Below w.heap.size w w' := by
  obtain ⟨a, cap, rfl, hn, ha⟩ := hv
  obtain ⟨w2, hw2⟩ : ∃ w2, (w.alloc (.cells #[.int .i64 n.s, .int .i64 n.i, .int .i64 n.t] 34)).alloc (.cells #[.int .u8 u.a, .int .u8 u.b, .int .u8 u.c, .int .u8 u.d, .int .u8 u.e, .int .u8 u.f, .int .u8 u.g, .int .u8 u.h] 23) = w2 := ⟨_, rfl⟩
  have hb2 : Below w.heap.size w w2 := by rw [← hw2]; exact ((Below.refl _ _).alloc (Nat.le_refl _) _).alloc (by simp) _
  have hbn : w2.heap[w.heap.size]? = some (.cells #[.int .i64 n.s, .int .i64 n.i, .int .i64 n.t] 34 (0, 0)) := by rw [← hw2]; exact heap_alloc2_old w _ _
  have hbu : w2.heap[w.heap.size + 1]? = some (.cells #[.int .u8 u.a, .int .u8 u.b, .int .u8 u.c, .int .u8 u.d, .int .u8 u.e, .int .u8 u.f, .int .u8 u.g, .int .u8 u.h] 23 (0, 0)) := by rw [← hw2]; exact heap_alloc2_new w _ _
  have HBN := Lib.hid hbn
  have HBU := Lib.hid hbu
  have HW2 := Lib.hid hw2
  have HB2 := Lib.hid hb2
  have HN := Lib.hid hn
  have HA := Lib.hid ha
  clear hw2 hb2 hn ha hbn hbu
  go_enter Try.func30, Try.ntmps30
  go_wp2_with fail
  rw [HW2.out]
  go_loopw [9] (fun io wr => ∃ q : Nat, q ≤ l.length ∧ io = .int .i64 q ∧ Below w2.heap.size w2 wr ∧ l.any (wroteP n b u) = (l.drop q).any (wroteP n b u)) (fun io _ => l.length - (intOf io).toNat)
  case atStart => exact ⟨0, Nat.zero_le _, rfl, Below.refl _ _, rfl⟩
  case round =>
    obtain ⟨q, hq, rfl, hB, hA⟩ := hrel
    have HB := Lib.hid hB
    have HAN := Lib.hid hA
    clear hB hA
    by_cases hlt : q < l.length
    · obtain ⟨x, hx⟩ : ∃ x, l[q]? = some x := ⟨_, List.getElem?_eq_getElem hlt⟩
      obtain ⟨lb, off, rfl, hb, hr⟩ := rows_some HN.out HA.out hlt
      have hwb : Below w.heap.size w wr := HB2.out.trans (HB.out.mono HB2.out.size)
      obtain ⟨c0, c1, c2, c3, c4, c5, c6, c7, c8, c9, c10, c11, c12, c13⟩ := (hr.below hb hwb).sn hx
      have hst := any_drop (p := wroteP n b u) hx
      have e0 : wr.cell? ⟨w.heap.size, 0, none⟩ = some (.int .i64 n.s) := by rw [cell_of_row wr _ _ _ 34 (0, 0) ((HB.out.block _ (lt_of_heap HBN.out)).trans HBN.out)]; rfl
      have e1 : wr.cell? ⟨w.heap.size, 1, none⟩ = some (.int .i64 n.i) := by rw [cell_of_row wr _ _ _ 34 (0, 0) ((HB.out.block _ (lt_of_heap HBN.out)).trans HBN.out)]; rfl
      have e2 : wr.cell? ⟨w.heap.size, 2, none⟩ = some (.int .i64 n.t) := by rw [cell_of_row wr _ _ _ 34 (0, 0) ((HB.out.block _ (lt_of_heap HBN.out)).trans HBN.out)]; rfl
      have e3 : wr.cell? ⟨w.heap.size + 1, 0, none⟩ = some (.int .u8 u.a) := by rw [cell_of_row wr _ _ _ 23 (0, 0) ((HB.out.block _ (lt_of_heap HBU.out)).trans HBU.out)]; rfl
      have e4 : wr.cell? ⟨w.heap.size + 1, 1, none⟩ = some (.int .u8 u.b) := by rw [cell_of_row wr _ _ _ 23 (0, 0) ((HB.out.block _ (lt_of_heap HBU.out)).trans HBU.out)]; rfl
      have e5 : wr.cell? ⟨w.heap.size + 1, 2, none⟩ = some (.int .u8 u.c) := by rw [cell_of_row wr _ _ _ 23 (0, 0) ((HB.out.block _ (lt_of_heap HBU.out)).trans HBU.out)]; rfl
      have e6 : wr.cell? ⟨w.heap.size + 1, 3, none⟩ = some (.int .u8 u.d) := by rw [cell_of_row wr _ _ _ 23 (0, 0) ((HB.out.block _ (lt_of_heap HBU.out)).trans HBU.out)]; rfl
      have e7 : wr.cell? ⟨w.heap.size + 1, 4, none⟩ = some (.int .u8 u.e) := by rw [cell_of_row wr _ _ _ 23 (0, 0) ((HB.out.block _ (lt_of_heap HBU.out)).trans HBU.out)]; rfl
      have e8 : wr.cell? ⟨w.heap.size + 1, 5, none⟩ = some (.int .u8 u.f) := by rw [cell_of_row wr _ _ _ 23 (0, 0) ((HB.out.block _ (lt_of_heap HBU.out)).trans HBU.out)]; rfl
      have e9 : wr.cell? ⟨w.heap.size + 1, 6, none⟩ = some (.int .u8 u.g) := by rw [cell_of_row wr _ _ _ 23 (0, 0) ((HB.out.block _ (lt_of_heap HBU.out)).trans HBU.out)]; rfl
      have e10 : wr.cell? ⟨w.heap.size + 1, 7, none⟩ = some (.int .u8 u.h) := by rw [cell_of_row wr _ _ _ 23 (0, 0) ((HB.out.block _ (lt_of_heap HBU.out)).trans HBU.out)]; rfl
      have hen := fun w => eql_nm x.n n w
      have hev := fun w => eql_v8 x.v u w
      have HLT := Lib.hid hlt
      have HST := Lib.hid hst
      have HDR : Hid (∀ m, Below w2.heap.size w2 (wr.drewN m)) := fun m => HB.out.trans ⟨rfl, rfl, rfl, Nat.le_refl _, fun _ _ => rfl⟩
      clear hr hx hwb hst
      by_cases h0 : x.k = 2
      · have e_0 : (x.k == 2) = true := by simp [h0]
        by_cases h1 : x.n = n
        · have e_1 : decide (x.n = n) = true := by simp [h1]
          by_cases h2 : x.b = b
          · have e_2 : (x.b == b) = true := by simp [h2]
            by_cases h3 : x.v = u
            · have e_3 : decide (x.v = u) = true := by simp [h3]
              have HNX : Hid (l.any (wroteP n b u) = true) := Lib.hid (by rw [HAN.out, HST.out]; simp [wroteP, h0, h1, h2, h3])
              clear h0  h1  h2  h3
              go_wp2_with fail
              go_quiet (fail)
              go_wp2_with fail
              go_ret
              exact ⟨by rw [HNX.out]; rfl, HB2.out.trans ((HDR.out _).mono HB2.out.size)⟩
            · have e_3 : decide (x.v = u) = false := by simp [h3]
              have HNX : Hid (l.any (wroteP n b u) = (l.drop (q + 1)).any (wroteP n b u)) := Lib.hid (by rw [HAN.out, HST.out]; simp [wroteP, h0, h1, h2, h3])
              clear h0  h1  h2  h3
              go_wp2_with fail
              go_quiet (fail)
              go_wp2_with fail
              go_roundw
              case rel => exact ⟨q + 1, by have := HLT.out; omega, by go_num, HDR.out _, HNX.out⟩
              case measure => have := HLT.out; simp [intOf]; omega
          · have e_2 : (x.b == b) = false := by simp [h2]
            have HNX : Hid (l.any (wroteP n b u) = (l.drop (q + 1)).any (wroteP n b u)) := Lib.hid (by rw [HAN.out, HST.out]; simp [wroteP, h0, h1, h2])
            clear h0  h1  h2
            go_wp2_with fail
            go_quiet (fail)
            go_wp2_with fail
            go_roundw
            case rel => exact ⟨q + 1, by have := HLT.out; omega, by go_num, HDR.out _, HNX.out⟩
            case measure => have := HLT.out; simp [intOf]; omega
        · have e_1 : decide (x.n = n) = false := by simp [h1]
          have HNX : Hid (l.any (wroteP n b u) = (l.drop (q + 1)).any (wroteP n b u)) := Lib.hid (by rw [HAN.out, HST.out]; simp [wroteP, h0, h1])
          clear h0  h1
          go_wp2_with fail
          go_quiet (fail)
          go_wp2_with fail
          go_roundw
          case rel => exact ⟨q + 1, by have := HLT.out; omega, by go_num, HDR.out _, HNX.out⟩
          case measure => have := HLT.out; simp [intOf]; omega
      · have e_0 : (x.k == 2) = false := by simp [h0]
        have HNX : Hid (l.any (wroteP n b u) = (l.drop (q + 1)).any (wroteP n b u)) := Lib.hid (by rw [HAN.out, HST.out]; simp [wroteP, h0])
        clear h0
        go_wp2_with fail
        go_quiet (fail)
        go_wp2_with fail
        go_roundw
        case rel => exact ⟨q + 1, by have := HLT.out; omega, by go_num, HDR.out _, HNX.out⟩
        case measure => have := HLT.out; simp [intOf]; omega
    · obtain rfl : q = l.length := by omega
      have HF : Hid (l.any (wroteP n b u) = false) := Lib.hid (by rw [HAN.out, List.drop_length]; rfl)
      go_wp2_with fail
      go_ret
      exact ⟨by rw [HF.out]; rfl, HB2.out.trans (HB.out.mono HB2.out.size)⟩

set_option maxRecDepth 100000 in
set_option maxHeartbeats 4000000 in
theorem wroteBy_any (l : List Sn) (v : Value) (b : Int) (u : V8) (w : World) (hl : l.length ≤ 100000) (hv : Sns w.heap.size w v l) :
    Calls Try.prog 31 #[v, .int .i64 b, .agg #[.int .u8 u.a, .int .u8 u.b, .int .u8 u.c, .int .u8 u.d, .int .u8 u.e, .int .u8 u.f, .int .u8 u.g, .int .u8 u.h]] w fun e w' => e = .returned (.bool (l.any (wroteByP b u))) ∧ Below w.heap.size w w' := by
  obtain ⟨a, cap, rfl, hn, ha⟩ := hv
  obtain ⟨w2, hw2⟩ : ∃ w2, w.alloc (.cells #[.int .u8 u.a, .int .u8 u.b, .int .u8 u.c, .int .u8 u.d, .int .u8 u.e, .int .u8 u.f, .int .u8 u.g, .int .u8 u.h] 23) = w2 := ⟨_, rfl⟩
  have hb2 : Below w.heap.size w w2 := by rw [← hw2]; exact below_alloc1 _
  have hbu : w2.heap[w.heap.size]? = some (.cells #[.int .u8 u.a, .int .u8 u.b, .int .u8 u.c, .int .u8 u.d, .int .u8 u.e, .int .u8 u.f, .int .u8 u.g, .int .u8 u.h] 23 (0, 0)) := by rw [← hw2]; exact heap_alloc_new w _
  have HBU := Lib.hid hbu
  have HW2 := Lib.hid hw2
  have HB2 := Lib.hid hb2
  have HN := Lib.hid hn
  have HA := Lib.hid ha
  clear hw2 hb2 hn ha hbu
  go_enter Try.func31, Try.ntmps31
  go_wp2_with fail
  rw [HW2.out]
  go_loopw [7] (fun io wr => ∃ q : Nat, q ≤ l.length ∧ io = .int .i64 q ∧ Below w2.heap.size w2 wr ∧ l.any (wroteByP b u) = (l.drop q).any (wroteByP b u)) (fun io _ => l.length - (intOf io).toNat)
  case atStart => exact ⟨0, Nat.zero_le _, rfl, Below.refl _ _, rfl⟩
  case round =>
    obtain ⟨q, hq, rfl, hB, hA⟩ := hrel
    have HB := Lib.hid hB
    have HAN := Lib.hid hA
    clear hB hA
    by_cases hlt : q < l.length
    · obtain ⟨x, hx⟩ : ∃ x, l[q]? = some x := ⟨_, List.getElem?_eq_getElem hlt⟩
      obtain ⟨lb, off, rfl, hb, hr⟩ := rows_some HN.out HA.out hlt
      have hwb : Below w.heap.size w wr := HB2.out.trans (HB.out.mono HB2.out.size)
      obtain ⟨c0, c1, c2, c3, c4, c5, c6, c7, c8, c9, c10, c11, c12, c13⟩ := (hr.below hb hwb).sn hx
      have hst := any_drop (p := wroteByP b u) hx
      have e0 : wr.cell? ⟨w.heap.size, 0, none⟩ = some (.int .u8 u.a) := by rw [cell_of_row wr _ _ _ 23 (0, 0) ((HB.out.block _ (lt_of_heap HBU.out)).trans HBU.out)]; rfl
      have e1 : wr.cell? ⟨w.heap.size, 1, none⟩ = some (.int .u8 u.b) := by rw [cell_of_row wr _ _ _ 23 (0, 0) ((HB.out.block _ (lt_of_heap HBU.out)).trans HBU.out)]; rfl
      have e2 : wr.cell? ⟨w.heap.size, 2, none⟩ = some (.int .u8 u.c) := by rw [cell_of_row wr _ _ _ 23 (0, 0) ((HB.out.block _ (lt_of_heap HBU.out)).trans HBU.out)]; rfl
      have e3 : wr.cell? ⟨w.heap.size, 3, none⟩ = some (.int .u8 u.d) := by rw [cell_of_row wr _ _ _ 23 (0, 0) ((HB.out.block _ (lt_of_heap HBU.out)).trans HBU.out)]; rfl
      have e4 : wr.cell? ⟨w.heap.size, 4, none⟩ = some (.int .u8 u.e) := by rw [cell_of_row wr _ _ _ 23 (0, 0) ((HB.out.block _ (lt_of_heap HBU.out)).trans HBU.out)]; rfl
      have e5 : wr.cell? ⟨w.heap.size, 5, none⟩ = some (.int .u8 u.f) := by rw [cell_of_row wr _ _ _ 23 (0, 0) ((HB.out.block _ (lt_of_heap HBU.out)).trans HBU.out)]; rfl
      have e6 : wr.cell? ⟨w.heap.size, 6, none⟩ = some (.int .u8 u.g) := by rw [cell_of_row wr _ _ _ 23 (0, 0) ((HB.out.block _ (lt_of_heap HBU.out)).trans HBU.out)]; rfl
      have e7 : wr.cell? ⟨w.heap.size, 7, none⟩ = some (.int .u8 u.h) := by rw [cell_of_row wr _ _ _ 23 (0, 0) ((HB.out.block _ (lt_of_heap HBU.out)).trans HBU.out)]; rfl
      have hev := fun w => eql_v8 x.v u w
      have HLT := Lib.hid hlt
      have HST := Lib.hid hst
      have HDR : Hid (∀ m, Below w2.heap.size w2 (wr.drewN m)) := fun m => HB.out.trans ⟨rfl, rfl, rfl, Nat.le_refl _, fun _ _ => rfl⟩
      clear hr hx hwb hst
      by_cases h0 : x.k = 2
      · have e_0 : (x.k == 2) = true := by simp [h0]
        by_cases h1 : x.b = b
        · have e_1 : (x.b == b) = true := by simp [h1]
          by_cases h2 : x.v = u
          · have e_2 : decide (x.v = u) = true := by simp [h2]
            have HNX : Hid (l.any (wroteByP b u) = true) := Lib.hid (by rw [HAN.out, HST.out]; simp [wroteByP, h0, h1, h2])
            clear h0  h1  h2
            go_wp2_with fail
            go_quiet (fail)
            go_wp2_with fail
            go_ret
            exact ⟨by rw [HNX.out]; rfl, HB2.out.trans ((HDR.out _).mono HB2.out.size)⟩
          · have e_2 : decide (x.v = u) = false := by simp [h2]
            have HNX : Hid (l.any (wroteByP b u) = (l.drop (q + 1)).any (wroteByP b u)) := Lib.hid (by rw [HAN.out, HST.out]; simp [wroteByP, h0, h1, h2])
            clear h0  h1  h2
            go_wp2_with fail
            go_quiet (fail)
            go_wp2_with fail
            go_roundw
            case rel => exact ⟨q + 1, by have := HLT.out; omega, by go_num, HDR.out _, HNX.out⟩
            case measure => have := HLT.out; simp [intOf]; omega
        · have e_1 : (x.b == b) = false := by simp [h1]
          have HNX : Hid (l.any (wroteByP b u) = (l.drop (q + 1)).any (wroteByP b u)) := Lib.hid (by rw [HAN.out, HST.out]; simp [wroteByP, h0, h1])
          clear h0  h1
          go_wp2_with fail
          go_quiet (fail)
          go_wp2_with fail
          go_roundw
          case rel => exact ⟨q + 1, by have := HLT.out; omega, by go_num, HDR.out _, HNX.out⟩
          case measure => have := HLT.out; simp [intOf]; omega
      · have e_0 : (x.k == 2) = false := by simp [h0]
        have HNX : Hid (l.any (wroteByP b u) = (l.drop (q + 1)).any (wroteByP b u)) := Lib.hid (by rw [HAN.out, HST.out]; simp [wroteByP, h0])
        clear h0
        go_wp2_with fail
        go_quiet (fail)
        go_wp2_with fail
        go_roundw
        case rel => exact ⟨q + 1, by have := HLT.out; omega, by go_num, HDR.out _, HNX.out⟩
        case measure => have := HLT.out; simp [intOf]; omega
    · obtain rfl : q = l.length := by omega
      have HF : Hid (l.any (wroteByP b u) = false) := Lib.hid (by rw [HAN.out, List.drop_length]; rfl)
      go_wp2_with fail
      go_ret
      exact ⟨by rw [HF.out]; rfl, HB2.out.trans (HB.out.mono HB2.out.size)⟩

end Go.Proofs.Ytgdmgeihgkbjaaa
/- Whom a fault names: the plain law. -/
namespace Go.Proofs.Ytgdmgeihgkbjaaa
open Go.RowKit

theorem step_good {l : List Sn} (hm : mayP l = true) {i : Nat} {x : Sn} (hx : l[i]? = some x) : x.n ≠ nz := by
  have hs := mayP_at.1 hm i x hx
  unfold stepOK at hs
  simp only [Bool.and_eq_true] at hs
  intro e
  have := hs.1
  rw [e] at this
  revert this
  decide

/-- What the blocks hold: nothing, or a write of the history. -/
def HoldOK (l h : List Sn) : Prop := ∀ (b : Nat) y, h[b]? = some y → y = sz ∨ ∃ j : Nat, l[j]? = some y ∧ y.k = 2 ∧ y.b = (b : Int)

theorem holdOK0 (l : List Sn) : HoldOK l h0 := by
  intro b y hy
  left
  unfold h0 at hy
  rw [List.getElem?_replicate] at hy
  split at hy
  · cases hy; rfl
  · cases hy

theorem holdOK_set {l h : List Sn} (hh : HoldOK l h) {i : Nat} {x : Sn} (hx : l[i]? = some x) (h2 : x.k = 2) (hb : 0 ≤ x.b) : HoldOK l (h.set x.b.toNat x) := by
  intro b y hy
  rw [List.getElem?_set] at hy
  split at hy
  · split at hy
    · cases hy
      exact .inr ⟨i, hx, h2, by omega⟩
    · cases hy
  · exact hh b y hy

theorem emit_mem {l : List Sn} (hm : mayP l = true) (ns : List Nm) : ∀ (ps : List (Nm × Nat)) (h : List Sn), HoldOK l h → h.length = 32 → ∀ f ∈ emit l ns ps h, ∃ n i x h', (n, i) ∈ ps ∧ l[i]? = some x ∧ x.k = 1 ∧ HoldOK l h' ∧ h'.length = 32 ∧ f = ftOf l ns h' n i x
  | [], _, _, _, f, hf => by simp [emit] at hf
  | (n, i) :: r, h, hh, hl, f, hf => by
    have lift : ∀ h2, HoldOK l h2 → h2.length = 32 → f ∈ emit l ns r h2 → ∃ n' i' x h', (n', i') ∈ (n, i) :: r ∧ l[i']? = some x ∧ x.k = 1 ∧ HoldOK l h' ∧ h'.length = 32 ∧ f = ftOf l ns h' n' i' x := fun h2 hh2 hl2 hf2 => by
      obtain ⟨n', i', x, h', h1, h3⟩ := emit_mem hm ns r h2 hh2 hl2 f hf2
      exact ⟨n', i', x, h', List.mem_cons_of_mem _ h1, h3⟩
    unfold emit at hf
    cases hx : l[i]? with
    | none => rw [hx] at hf; exact lift h hh hl hf
    | some x =>
      rw [hx] at hf
      simp only at hf
      split at hf
      · rename_i h2
        exact lift _ (holdOK_set hh hx h2 (step_range hm hx (.inr h2)).1) (by simp [hl]) hf
      · split at hf
        · rename_i h1
          rcases List.mem_cons.1 hf with rfl | hf
          · exact ⟨n, i, x, h, by simp, hx, h1, hh, hl, rfl⟩
          · exact lift h hh hl hf
        · exact lift h hh hl hf

theorem pairs_mem {l : List Sn} {ns : List Nm} {n : Nm} {i : Nat} (h : (n, i) ∈ pairsP l ns) : n ∈ ns ∧ ∃ x, l[i]? = some x ∧ x.n = n := by
  unfold pairsP at h
  obtain ⟨m, hm, h⟩ := List.mem_flatMap.1 h
  obtain ⟨j, hj, e⟩ := List.mem_map.1 h
  cases e
  obtain ⟨_, x, hx, hn⟩ := idxN_mem l n 0 i hj
  exact ⟨hm, x, by simpa using hx, hn⟩

theorem lastW_spec' : ∀ (m : Nat) (p : List Sn) (b : Int) (v : V8), p.length = m → (∀ x ∈ p, x.n ≠ nz) → (lastW p b v = nz → p.any (wroteByP b v) = false) ∧ (lastW p b v ≠ nz → p.any (wroteP (lastW p b v) b v) = true) := by
  intro m
  induction m with
  | zero =>
    intro p b v hl _
    obtain rfl := List.length_eq_zero_iff.1 hl
    exact ⟨fun _ => rfl, fun h => absurd rfl h⟩
  | succ m ih =>
    intro p b v hl hg
    rcases List.eq_nil_or_concat p with rfl | ⟨p, y, rfl⟩
    · cases hl
    obtain ⟨h1, h2⟩ := ih p b v (by simpa using hl) (fun x hx => hg x (by simp [hx]))
    have hy : y.n ≠ nz := hg y (by simp)
    rw [List.concat_eq_append, lastW_snoc]
    split
    · rename_i hc
      refine ⟨fun e => absurd e hy, fun _ => ?_⟩
      simp [wroteP, hc]
    · rename_i hc
      refine ⟨fun e => ?_, fun e => ?_⟩
      · rw [List.any_append, h1 e]
        simp only [List.any_cons, List.any_nil, Bool.or_false, Bool.false_or]
        unfold wroteByP
        simpa using fun a b => fun c => hc ⟨a, b, c⟩
      · rw [List.any_append, h2 e]
        rfl

theorem lastW_spec (p : List Sn) (b : Int) (v : V8) (hg : ∀ x ∈ p, x.n ≠ nz) : (lastW p b v = nz → p.any (wroteByP b v) = false) ∧ (lastW p b v ≠ nz → p.any (wroteP (lastW p b v) b v) = true) := lastW_spec' _ p b v rfl hg

/-- What each fault says is so. -/
structure BlameOK (l : List Sn) (f : Ft) (i : Nat) (x : Sn) : Prop where
  at_ : f.i = (i : Int)
  hx : l[i]? = some x
  kx : x.k = 1
  nx : x.n = f.n
  bx : x.b = f.b
  vx : x.v = f.got
  ne : f.want ≠ f.got
  s0 : f.should = nz → f.want = z0
  s1 : f.should ≠ nz → l.any (wroteP f.should f.b f.want) = true
  w0 : f.was = nz → (l.take i).any (wroteByP f.b f.got) = false
  w1 : f.was ≠ nz → (l.take i).any (wroteP f.was f.b f.got) = true
  k0 : 0 ≤ f.k
  k4 : f.k ≤ 4
  k3 : f.k = 3 ↔ f.was = f.n
  kn : f.k = 4 → f.was = nz

theorem blame_ok {l : List Sn} (hm : mayP l = true) {f : Ft} (hf : f ∈ wrongP l) : ∃ i x, BlameOK l f i x := by
  unfold wrongP at hf
  obtain ⟨hf, hne⟩ := List.mem_filter.1 hf
  have hne : f.want ≠ f.got := by simpa using hne
  obtain ⟨n, i, x, h, hp, hx, h1, hh, hlen, rfl⟩ := emit_mem hm (ordR l) _ h0 (holdOK0 l) (by decide) f hf
  obtain ⟨hn, x', hx', hxn⟩ := pairs_mem hp
  rw [hx] at hx'
  cases hx'
  obtain ⟨hb0, hb1⟩ := step_range hm hx (.inl h1)
  have hgood := step_good hm hx
  obtain ⟨y, hy⟩ : ∃ y, h[x.b.toNat]? = some y := ⟨_, List.getElem?_eq_getElem (by omega)⟩
  have hlw := lastW_spec (l.take i) x.b x.v (fun z hz => by
    obtain ⟨j, hj⟩ := List.getElem?_of_mem hz
    rw [List.getElem?_take] at hj
    split at hj
    · exact step_good hm hj
    · cases hj)
  have hyy := hh _ y hy
  refine ⟨i, x, ?_⟩
  simp only [ftOf, hy, Option.getD_some] at hne ⊢
  refine ⟨rfl, hx, h1, hxn, rfl, rfl, hne, fun e => ?_, fun e => ?_, fun e => hlw.1 e, fun e => hlw.2 e, ?_, ?_, ?_, ?_⟩
  · rcases hyy with rfl | ⟨j, hj, _, _⟩
    · rfl
    · exact absurd e (step_good hm hj)
  · rcases hyy with rfl | ⟨j, hj, hk, hb⟩
    · exact absurd rfl e
    · rw [List.any_eq_true]
      refine ⟨y, List.mem_of_getElem? hj, ?_⟩
      have : y.b = x.b := by omega
      simp [wroteP, hk, this]
  all_goals (simp only [kindP]; generalize lastW (l.take i) x.b x.v = was at *)
  · repeat' split
    all_goals decide
  · repeat' split
    all_goals decide
  · rw [hxn] at hgood
    split
    · rename_i hc
      exact ⟨(fun e => by cases e), fun e => absurd (e.symm.trans hc.1) hgood⟩
    · split
      · rename_i hc; exact ⟨fun _ => hc, fun _ => rfl⟩
      · rename_i hc
        refine ⟨fun e => ?_, fun e => absurd e hc⟩
        repeat' split at e
        all_goals cases e
  · intro e
    split at e
    · rename_i hc; exact hc.1
    · repeat' split at e
      all_goals cases e

end Go.Proofs.Ytgdmgeihgkbjaaa
/- 'cashboxlaw32.WitnessBlames' -/
namespace Go.Proofs.Ytgdmgeihgkbjaaa
open Go.RowKit Go.Shelf Go.BigFrame

theorem ld_ft_row {w : World} {b off q : Nat} {l : List Ft} {f : Ft} (hr : RowsAt Ft.cells 28 w b off l) (hx : l[q]? = some f) : (loadVar 59 ⟨b, off + q * 28, none⟩).run Try.prog w = .ok (.agg (ftArr f)) w :=
  run_loadVar_mid w b (off + q * 28) 59 f.cells _ (fun j v hv => hr q f hx j v hv) Try.underlying59 rfl info59

theorem wrong_err (l : List Sn) (v : Value) (w : World) (hl : l.length ≤ 100000) (hv : Sns w.heap.size w v l) (hm : mayP l = false) :
    Calls Try.prog 29 #[v] w fun e w' => e = .returned (.tuple #[slNil, .int .i64 2]) ∧ Below w.heap.size w w' := by
  refine (wrong_any l v w hl hv).mono ?_
  rintro e w' ⟨h, hb⟩
  rcases h with ⟨_, h⟩ | ⟨h, _⟩
  · exact ⟨h, hb⟩
  · rw [hm] at h; cases h

theorem wrong_ok (l : List Sn) (v : Value) (w : World) (hl : l.length ≤ 100000) (hv : Sns w.heap.size w v l) (hm : mayP l = true) :
    Calls Try.prog 29 #[v] w fun e w' => ∃ a c, e = .returned (.tuple #[.slice a (wrongP l).length c, .int .i64 0]) ∧ (∀ (q : Nat) (f : Ft), (wrongP l)[q]? = some f → ∃ b, a = some ⟨b, 0, none⟩ ∧ b < w'.heap.size ∧ RowsAt Ft.cells 28 w' b 0 (wrongP l)) ∧ Below w.heap.size w w' := by
  refine (wrong_any l v w hl hv).mono ?_
  rintro e w' ⟨h, hb⟩
  rcases h with ⟨h, _⟩ | ⟨_, vo, rfl, hr⟩
  · rw [hm] at h; cases h
  · obtain ⟨a, c, rfl⟩ := ownsRow_slice hr
    refine ⟨a, c, rfl, fun q f hf => ?_, hb⟩
    obtain ⟨_, _, e, hn, ha⟩ := rows_of_owns (enc := Ft.cells) (k := 28) (fun _ => rfl) hr
    cases e
    have hlt : 0 < (wrongP l).length := by have := (List.getElem?_eq_some_iff.1 hf).1; omega
    rcases hr.2 with ⟨_, h0⟩ | ⟨g, cap, cur, e1, _, _⟩
    · omega
    · cases e1
      obtain ⟨_, h2, h3⟩ := ha g 0 none rfl hlt
      exact ⟨g, rfl, h2, h3⟩

end Go.Proofs.Ytgdmgeihgkbjaaa
/- 'slices.MinFunc' over faults, 'witness.First' -/
namespace Go.Proofs.Ytgdmgeihgkbjaaa
open Go.RowKit Go.Shelf

/-- The fault that stands first. -/
def minF : List Ft → Ft → Ft
  | [], m => m
  | f :: r, m => minF r (if f.i < m.i then f else m)

theorem ft_i {w : World} {B : Nat} {f : Ft} {t : TypeId} {fr : Nat × Nat} (h : w.heap[B]? = some (.cells (ftArr f) t fr)) : w.cell? ⟨B, 0, none⟩ = some (.int .i64 f.i) := by
  rw [cell_of_row w B _ _ t fr h]; rfl

set_option maxRecDepth 100000 in
theorem cmp64_any (a b : Ft) (w : World) (ha : 0 ≤ a.i ∧ a.i ≤ 100000) (hb : 0 ≤ b.i ∧ b.i ≤ 100000) :
    Calls Try.prog 64 #[.agg (ftArr a), .agg (ftArr b)] w fun e w' => e = .returned (.int .i64 (a.i - b.i)) ∧ Below w.heap.size w w' := by
  have h0 : ((w.alloc (.cells (ftArr a) 59)).alloc (.cells (ftArr b) 59)).cell? ⟨w.heap.size, 0, none⟩ = some (.int .i64 a.i) := ft_i (heap_alloc2_old w _ _)
  have h1 : ((w.alloc (.cells (ftArr a) 59)).alloc (.cells (ftArr b) 59)).cell? ⟨w.heap.size + 1, 0, none⟩ = some (.int .i64 b.i) := ft_i (heap_alloc2_new w _ _)
  have hB : Below w.heap.size w ((w.alloc (.cells (ftArr a) 59)).alloc (.cells (ftArr b) 59)) := ((Below.refl _ _).alloc (Nat.le_refl _) _).alloc (by simp) _
  have hw : IntKind.i64.wrap (a.i - b.i) = a.i - b.i := by simp [IntKind.wrap, IntKind.bits, IntKind.signed]; omega
  have HB := Lib.hid hB
  clear hB
  go_enter Try.func64, Try.ntmps64
  go_wp2_with fail
  go_ret
  exact ⟨rfl, HB.out⟩

theorem op_loadF {o : Oper} {a : Act} {w : World} {K : Act → World → Prop} {Q : Exit → Act → World → Prop} (ty : TypeId) (x : Operand) (ho : o.op = .load ty x)
    (ad : Addr) (hx : a.eval x = .pointer (some ad)) (v : Value) (hl : (loadVar ty ad).run Try.prog w = .ok v w) (h : K (a.put o.dst v) w) : o.wp Try.prog a w K Q := by
  unfold Oper.wp execOp
  simp only [ho, hx, Instr.loadAt, Instr.sureAddr, Sem.run_bind, Sem.run_pure, Result.andThen_ok, hl]
  exact h

theorem st_box {w : World} {B : Nat} {g : Ft} (f : Ft) {t : TypeId} (h : w.heap[B]? = some (.cells (ftArr g) t (0, 0))) : (storeVar 59 ⟨B, 0, none⟩ (.agg (ftArr f))).run Try.prog w = .ok () (w.setRow B (ftArr f)) :=
  run_storeVar_row w B t 59 (ftArr g) (ftArr f) h info59 rfl (ftArr_one f)

theorem results_c {P : Program} {fn : Func} {p : Tmp} {ty : TypeId} (h : fn.results = #[.cell p ty]) {tmps : Array Value} {w : World} {a : Addr} {u : Value} (hp : tmps.getD p undef = .pointer (some a)) (ha : (loadVar ty a).run P w = .ok u w) : (results fn tmps).run P w = .ok u w := by
  rw [Array.getD_eq_getD_getElem?] at hp
  simp [results, h, hp, asAddr, ha]

set_option maxRecDepth 100000 in
set_option maxHeartbeats 4000000 in
theorem min63_any (f0 : Ft) (r0 : List Ft) (b cap : Nat) (w : World) (hb : b < w.heap.size) (hr : RowsAt Ft.cells 28 w b 0 (f0 :: r0)) (hl : (f0 :: r0).length ≤ 10000000000) (hi : ∀ f ∈ f0 :: r0, 0 ≤ f.i ∧ f.i ≤ 100000) :
    Calls Try.prog 63 #[.slice (some ⟨b, 0, none⟩) (f0 :: r0).length cap, .func (.func 64) #[] #[]] w fun e w' => e = .returned (.agg (ftArr (minF r0 f0))) ∧ Below w.heap.size w w' := by
  obtain ⟨w1, hw1⟩ : ∃ w1, w.alloc (.cells #[.int .i64 0, .int .i64 0, .int .i64 0, .int .i64 0, .int .i64 0, .int .u8 0, .int .u8 0, .int .u8 0, .int .u8 0, .int .u8 0, .int .u8 0, .int .u8 0, .int .u8 0, .int .u8 0, .int .u8 0, .int .u8 0, .int .u8 0, .int .u8 0, .int .u8 0, .int .u8 0, .int .u8 0, .int .i64 0, .int .i64 0, .int .i64 0, .int .i64 0, .int .i64 0, .int .i64 0, .int .i8 0] 59) = w1 := ⟨_, rfl⟩
  have hb1 : Below w.heap.size w w1 := hw1 ▸ below_alloc1 _
  have hz : w1.heap[w.heap.size]? = some (.cells (ftArr ftz) 59 (0, 0)) := hw1 ▸ heap_alloc_new w _
  have hs1 : w1.heap.size = w.heap.size + 1 := by rw [← hw1]; simp
  have HS1 := Lib.hid hs1
  clear hs1
  have hld := ld_ft_row (hr.below hb hb1) (q := 0) (f := f0) rfl
  rw [Nat.zero_mul, Nat.zero_add] at hld
  have HLD := Lib.hid hld
  have HW1 := Lib.hid hw1
  have HR := Lib.hid hr
  have HI := Lib.hid hi
  have HZ := Lib.hid hz
  have HB1 := Lib.hid hb1
  have hpos : (1 : Int) ≤ ((f0 :: r0).length : Int) := by simp; omega
  have hd1 : decide (((f0 :: r0).length : Int) < 1) = false := by simp; omega
  generalize hn : (f0 :: r0).length = n at *
  have HNL := Lib.hid hn
  clear hld hw1 hr hi hz hb1 hn
  go_enter Try.func63, Try.ntmps63
  go_upto_region 1 with (fail)
  rw [HW1.out]
  go_wp2_with (first | (refine wpList_load rfl 59 (.tmp 12) rfl ⟨b, 0, none⟩ rfl (.agg (ftArr f0)) HLD.out ?_) | (refine wpList_store rfl 59 (.tmp 5) (.tmp 13) rfl ⟨w1.heap.size, 0, none⟩ rfl (.agg (ftArr f0)) rfl (st_ft w1 _) ?_))
  obtain ⟨w2, hw2⟩ : ∃ w2, w1.alloc (.cells (ftArr f0) 59) = w2 := ⟨_, rfl⟩
  have hb2 : Below w.heap.size w w2 := by rw [← hw2]; exact HB1.out.alloc HB1.out.size _
  have hz2 : w2.heap[w.heap.size]? = some (.cells (ftArr ftz) 59 (0, 0)) := by rw [← hw2]; exact (heap_alloc_old w1 _ (lt_of_heap HZ.out)).trans HZ.out
  have hm2 : w2.heap[w1.heap.size]? = some (.cells (ftArr f0) 59 (0, 0)) := by rw [← hw2]; exact heap_alloc_new w1 _
  rw [hw2]
  obtain ⟨Bm, hBm⟩ : ∃ Bm, Bm = w1.heap.size := ⟨_, rfl⟩
  rw [← hBm] at hm2 ⊢
  have hBw : w.heap.size < Bm := by have := HS1.out; omega
  have HB2 := Lib.hid hb2
  have HZ2 := Lib.hid hz2
  have HM2 := Lib.hid hm2
  clear hw2 hb2 hz2 hm2 hBm
  go_loopw [6] (fun io wr => ∃ (q : Nat) (m : Ft), 1 ≤ q ∧ q ≤ n ∧ io = .int .i64 q ∧ Below w.heap.size w wr ∧ wr.heap[w.heap.size]? = some (.cells (ftArr ftz) 59 (0, 0)) ∧ wr.heap[Bm]? = some (.cells (ftArr m) 59 (0, 0)) ∧ (0 ≤ m.i ∧ m.i ≤ 100000) ∧ minF ((f0 :: r0).drop q) m = minF r0 f0) (fun io _ => n - (intOf io).toNat)
  case atStart => exact ⟨1, f0, Nat.le_refl _, by omega, rfl, HB2.out, HZ2.out, HM2.out, HI.out f0 (by simp), rfl⟩
  case round =>
    obtain ⟨q, m, hq1, hq, rfl, hB, hzr, hmr, hmi, hmin⟩ := hrel
    have HB := Lib.hid hB
    have HZR := Lib.hid hzr
    have HMR := Lib.hid hmr
    have HMIN := Lib.hid hmin
    clear hB hzr hmr hmin
    by_cases hlt : q < n
    · obtain ⟨f, hf⟩ : ∃ f, (f0 :: r0)[q]? = some f := ⟨_, List.getElem?_eq_getElem (by have := HNL.out; omega)⟩
      have hfi := HI.out f (List.mem_of_getElem? hf)
      have hdrop : (f0 :: r0).drop q = f :: (f0 :: r0).drop (q + 1) := by
        obtain ⟨h1, h2⟩ := List.getElem?_eq_some_iff.1 hf
        rw [List.drop_eq_getElem_cons h1, h2]
      have hmn : minF ((f0 :: r0).drop (q + 1)) (if f.i < m.i then f else m) = minF r0 f0 := by rw [← HMIN.out, hdrop]; rfl
      have hLF : ∀ Wx, Below wr.heap.size wr Wx → (loadVar 59 ⟨b, q * 28, none⟩).run Try.prog Wx = .ok (.agg (ftArr f)) Wx := fun Wx hT => by
        have := ld_ft_row (HR.out.below hb (HB.out.trans (hT.mono HB.out.size))) hf
        rwa [Nat.zero_add] at this
      have hLM : ∀ Wx, Below wr.heap.size wr Wx → (loadVar 59 ⟨Bm, 0, none⟩).run Try.prog Wx = .ok (.agg (ftArr m)) Wx := fun Wx hT => ld_ft ((hT.block _ (lt_of_heap HMR.out)).trans HMR.out)
      have hI1 : (0 : Int) ≤ (q : Int) := by omega
      have hI2 : (q : Int) < (n : Int) := by omega
      have HMN := Lib.hid hmn
      clear hmn hdrop hf
      go_wp2_with fail
      by_cases hc : f.i < m.i
      · have hlt3 : f.i - m.i < 0 := by omega
        -- BEGIN MT
        refine wp_region_frame mixed (by kernel_rfl) [(0, 20, .func (.func 64) #[] #[]), (1, 21, .slice (some ⟨b, 0, none⟩) n cap), (2, 22, .int .i64 (q : Int)), (3, 23, .pointer (some ⟨b, q * 28, none⟩)), (4, 24, .agg (ftArr f)), (5, 25, .agg (ftArr m)), (6, 26, .int .i64 (f.i - m.i)), (7, 27, .bool true)] (fun L Wx => Below wr.heap.size wr Wx) ?_ ?_ (by rfl) (by rfl) ?_
        · exact (Below.refl _ _).drew
        · intro a0 ps ha0 hps
          have hsz : a0.tmps.size = 33 := by rw [ha0]; rfl
          have u0 : a0.tmps[0]? = some (.slice (some ⟨b, 0, none⟩) n cap) := by rw [ha0]; rfl
          have u1 : a0.tmps[1]? = some (.func (.func 64) #[] #[]) := by rw [ha0]; rfl
          have u5 : a0.tmps[5]? = some (.pointer (some ⟨Bm, 0, none⟩)) := by rw [ha0]; rfl
          have u6 : a0.tmps[6]? = some (.int .i64 (q : Int)) := by rw [ha0]; rfl
          have n0 : slotOf ps 0 = none := by rw [hps]; rfl
          have n1 : slotOf ps 1 = none := by rw [hps]; rfl
          have n5 : slotOf ps 5 = none := by rw [hps]; rfl
          have n6 : slotOf ps 6 = none := by rw [hps]; rfl
          have k20 : slotOf ps 20 = some (0, .func (.func 64) #[] #[]) := by rw [hps]; rfl
          have q20 : keysOK ps 0 20 = true := by rw [hps]; rfl
          have k21 : slotOf ps 21 = some (1, .slice (some ⟨b, 0, none⟩) n cap) := by rw [hps]; rfl
          have q21 : keysOK ps 1 21 = true := by rw [hps]; rfl
          have k22 : slotOf ps 22 = some (2, .int .i64 (q : Int)) := by rw [hps]; rfl
          have q22 : keysOK ps 2 22 = true := by rw [hps]; rfl
          have k23 : slotOf ps 23 = some (3, .pointer (some ⟨b, q * 28, none⟩)) := by rw [hps]; rfl
          have q23 : keysOK ps 3 23 = true := by rw [hps]; rfl
          have k24 : slotOf ps 24 = some (4, .agg (ftArr f)) := by rw [hps]; rfl
          have q24 : keysOK ps 4 24 = true := by rw [hps]; rfl
          have k25 : slotOf ps 25 = some (5, .agg (ftArr m)) := by rw [hps]; rfl
          have q25 : keysOK ps 5 25 = true := by rw [hps]; rfl
          have k26 : slotOf ps 26 = some (6, .int .i64 (f.i - m.i)) := by rw [hps]; rfl
          have q26 : keysOK ps 6 26 = true := by rw [hps]; rfl
          have k27 : slotOf ps 27 = some (7, .bool true) := by rw [hps]; rfl
          have q27 : keysOK ps 7 27 = true := by rw [hps]; rfl
          clear ha0 hps
          refine ⟨?_, ?_, ?_, ?_, ?_, ?_, ?_, ?_, trivial⟩
          · rintro L _ Wx ⟨rfl, hT⟩ hcl hk hd
            rw [if_pos (by simp [Region.wanted])]
            refine op_value (v := .func (.func 64) #[] #[]) (w' := Wx) (by simp [execOp, go_sem, frame_tout (n1) u1]) ⟨frame_put (k20) (q20), ?_⟩
            simpa [upd] using hT
          · rintro L _ Wx ⟨rfl, hT⟩ hcl hk hd
            rw [if_pos (by simp [Region.wanted])]
            refine op_value (v := .slice (some ⟨b, 0, none⟩) n cap) (w' := Wx) (by simp [execOp, go_sem, frame_tout (n0) u0]) ⟨frame_put (k21) (q21), ?_⟩
            simpa [upd] using hT
          · rintro L _ Wx ⟨rfl, hT⟩ hcl hk hd
            rw [if_pos (by simp [Region.wanted])]
            refine op_value (v := .int .i64 (q : Int)) (w' := Wx) (by simp [execOp, go_sem, frame_tout (n6) u6]) ⟨frame_put (k22) (q22), ?_⟩
            simpa [upd] using hT
          · rintro L _ Wx ⟨rfl, hT⟩ hcl hk hd
            have hL1 : L 1 = true := by have h := hd; simp [Region.binds] at h; simp [h]
            have hL2 : L 2 = true := by have h := hd; simp [Region.binds] at h; simp [h]
            rw [if_pos (by simp [Region.wanted])]
            refine op_value (v := .pointer (some ⟨b, q * 28, none⟩)) (w' := Wx) (by simp [execOp, go_sem, frame_tmp (k21) hL1 (Nat.lt_of_lt_of_eq (by decide : 21 < 33) hsz.symm), frame_tmp (k22) hL2 (Nat.lt_of_lt_of_eq (by decide : 22 < 33) hsz.symm), hI1, hI2]) ⟨frame_put (k23) (q23), ?_⟩
            simpa [upd] using hT
          · rintro L _ Wx ⟨rfl, hT⟩ hcl hk hd
            have hL3 : L 3 = true := by have h := hd; simp [Region.binds] at h; simp [h]
            rw [if_pos (by simp [Region.wanted])]
            refine op_loadF 59 (.tmp 23) rfl ⟨b, q * 28, none⟩ (by rw [frame_in (k23) hL3 (Nat.lt_of_lt_of_eq (by decide : 23 < 33) hsz.symm)]) (.agg (ftArr f)) (hLF Wx hT) ⟨frame_put (k24) (q24), ?_⟩
            simpa [upd] using hT
          · rintro L _ Wx ⟨rfl, hT⟩ hcl hk hd
            rw [if_pos (by simp [Region.wanted])]
            refine op_loadF 59 (.tmp 5) rfl ⟨Bm, 0, none⟩ (by rw [frame_oute (n5) u5]) (.agg (ftArr m)) (hLM Wx hT) ⟨frame_put (k25) (q25), ?_⟩
            simpa [upd] using hT
          · rintro L _ Wx ⟨rfl, hT⟩ hcl hk hd
            have hL0 : L 0 = true := by have h := hd; simp [Region.binds] at h; simp [h]
            have hL4 : L 4 = true := by have h := hd; simp [Region.binds] at h; simp [h]
            have hL5 : L 5 = true := by have h := hd; simp [Region.binds] at h; simp [h]
            rw [if_pos (by simp [Region.wanted])]
            refine op_callP (f := 64) (args := #[.agg (ftArr f), .agg (ftArr m)]) (by simp [go_sem, frame_tmp (k20) hL0 (Nat.lt_of_lt_of_eq (by decide : 20 < 33) hsz.symm), frame_tmp (k24) hL4 (Nat.lt_of_lt_of_eq (by decide : 24 < 33) hsz.symm), frame_tmp (k25) hL5 (Nat.lt_of_lt_of_eq (by decide : 25 < 33) hsz.symm)]) (cmp64_any f m Wx hfi hmi) ?_
            rintro e w' ⟨rfl, hb'⟩
            refine ⟨_, rfl, frame_put (k26) (q26), ?_⟩
            exact hT.trans (hb'.mono hT.size)
          · rintro L _ Wx ⟨rfl, hT⟩ hcl hk hd
            have hL6 : L 6 = true := by have h := hd; simp [Region.binds] at h; simp [h]
            rw [if_pos (by simp [Region.wanted])]
            refine op_value (v := .bool true) (w' := Wx) (by simp [execOp, go_sem, frame_tmp (k26) hL6 (Nat.lt_of_lt_of_eq (by decide : 26 < 33) hsz.symm), hlt3]) ⟨frame_put (k27) (q27), ?_⟩
            simpa [upd] using hT
        · rintro L W' hT hall
          simp only [putAll, Act.put, List.setIfInBounds_toArray, List.set_cons_succ, List.set_cons_zero]
          have HT := Lib.hid hT
          have HZW : Hid (W'.heap[w.heap.size]? = some (.cells (ftArr ftz) 59 (0, 0))) := (hT.block _ (lt_of_heap HZR.out)).trans HZR.out
          have HMW : Hid (W'.heap[Bm]? = some (.cells (ftArr m) 59 (0, 0))) := (hT.block _ (lt_of_heap HMR.out)).trans HMR.out
          have HLF := Lib.hid (hLF W' hT)
          clear hT hall hLF hLM
          go_wp2_with (first | (refine wpList_load rfl 59 (.tmp 30) rfl ⟨b, q * 28, none⟩ rfl (.agg (ftArr f)) HLF.out ?_) | (refine wpList_store rfl 59 (.tmp 5) (.tmp 31) rfl ⟨Bm, 0, none⟩ rfl (.agg (ftArr f)) rfl (st_box f HMW.out) ?_))
          go_roundw
          case rel =>
            have hB2 := HB.out.trans (HT.out.mono HB.out.size)
            have hM := HMN.out
            first
              | (rw [if_pos hc] at hM; exact ⟨q + 1, f, by omega, by omega, by go_num, hB2.grown (grownBy_setRow _ _ _) hB2.size (fun k e => by cases e; omega), cells_turn HZW.out (grownBy_setRow _ _ _) (by omega), setRow_heap _ _ _ _ _ _ HMW.out, hfi, hM⟩)
              | (rw [if_neg hc] at hM; exact ⟨q + 1, m, by omega, by omega, by go_num, hB2, HZW.out, HMW.out, hmi, hM⟩)
          case measure => simp [intOf]; omega
        -- END MT
      · have hlt3 : ¬ (f.i - m.i < 0) := by omega
        -- BEGIN MF
        refine wp_region_frame mixed (by kernel_rfl) [(0, 20, .func (.func 64) #[] #[]), (1, 21, .slice (some ⟨b, 0, none⟩) n cap), (2, 22, .int .i64 (q : Int)), (3, 23, .pointer (some ⟨b, q * 28, none⟩)), (4, 24, .agg (ftArr f)), (5, 25, .agg (ftArr m)), (6, 26, .int .i64 (f.i - m.i)), (7, 27, .bool false)] (fun L Wx => Below wr.heap.size wr Wx) ?_ ?_ (by rfl) (by rfl) ?_
        · exact (Below.refl _ _).drew
        · intro a0 ps ha0 hps
          have hsz : a0.tmps.size = 33 := by rw [ha0]; rfl
          have u0 : a0.tmps[0]? = some (.slice (some ⟨b, 0, none⟩) n cap) := by rw [ha0]; rfl
          have u1 : a0.tmps[1]? = some (.func (.func 64) #[] #[]) := by rw [ha0]; rfl
          have u5 : a0.tmps[5]? = some (.pointer (some ⟨Bm, 0, none⟩)) := by rw [ha0]; rfl
          have u6 : a0.tmps[6]? = some (.int .i64 (q : Int)) := by rw [ha0]; rfl
          have n0 : slotOf ps 0 = none := by rw [hps]; rfl
          have n1 : slotOf ps 1 = none := by rw [hps]; rfl
          have n5 : slotOf ps 5 = none := by rw [hps]; rfl
          have n6 : slotOf ps 6 = none := by rw [hps]; rfl
          have k20 : slotOf ps 20 = some (0, .func (.func 64) #[] #[]) := by rw [hps]; rfl
          have q20 : keysOK ps 0 20 = true := by rw [hps]; rfl
          have k21 : slotOf ps 21 = some (1, .slice (some ⟨b, 0, none⟩) n cap) := by rw [hps]; rfl
          have q21 : keysOK ps 1 21 = true := by rw [hps]; rfl
          have k22 : slotOf ps 22 = some (2, .int .i64 (q : Int)) := by rw [hps]; rfl
          have q22 : keysOK ps 2 22 = true := by rw [hps]; rfl
          have k23 : slotOf ps 23 = some (3, .pointer (some ⟨b, q * 28, none⟩)) := by rw [hps]; rfl
          have q23 : keysOK ps 3 23 = true := by rw [hps]; rfl
          have k24 : slotOf ps 24 = some (4, .agg (ftArr f)) := by rw [hps]; rfl
          have q24 : keysOK ps 4 24 = true := by rw [hps]; rfl
          have k25 : slotOf ps 25 = some (5, .agg (ftArr m)) := by rw [hps]; rfl
          have q25 : keysOK ps 5 25 = true := by rw [hps]; rfl
          have k26 : slotOf ps 26 = some (6, .int .i64 (f.i - m.i)) := by rw [hps]; rfl
          have q26 : keysOK ps 6 26 = true := by rw [hps]; rfl
          have k27 : slotOf ps 27 = some (7, .bool false) := by rw [hps]; rfl
          have q27 : keysOK ps 7 27 = true := by rw [hps]; rfl
          clear ha0 hps
          refine ⟨?_, ?_, ?_, ?_, ?_, ?_, ?_, ?_, trivial⟩
          · rintro L _ Wx ⟨rfl, hT⟩ hcl hk hd
            rw [if_pos (by simp [Region.wanted])]
            refine op_value (v := .func (.func 64) #[] #[]) (w' := Wx) (by simp [execOp, go_sem, frame_tout (n1) u1]) ⟨frame_put (k20) (q20), ?_⟩
            simpa [upd] using hT
          · rintro L _ Wx ⟨rfl, hT⟩ hcl hk hd
            rw [if_pos (by simp [Region.wanted])]
            refine op_value (v := .slice (some ⟨b, 0, none⟩) n cap) (w' := Wx) (by simp [execOp, go_sem, frame_tout (n0) u0]) ⟨frame_put (k21) (q21), ?_⟩
            simpa [upd] using hT
          · rintro L _ Wx ⟨rfl, hT⟩ hcl hk hd
            rw [if_pos (by simp [Region.wanted])]
            refine op_value (v := .int .i64 (q : Int)) (w' := Wx) (by simp [execOp, go_sem, frame_tout (n6) u6]) ⟨frame_put (k22) (q22), ?_⟩
            simpa [upd] using hT
          · rintro L _ Wx ⟨rfl, hT⟩ hcl hk hd
            have hL1 : L 1 = true := by have h := hd; simp [Region.binds] at h; simp [h]
            have hL2 : L 2 = true := by have h := hd; simp [Region.binds] at h; simp [h]
            rw [if_pos (by simp [Region.wanted])]
            refine op_value (v := .pointer (some ⟨b, q * 28, none⟩)) (w' := Wx) (by simp [execOp, go_sem, frame_tmp (k21) hL1 (Nat.lt_of_lt_of_eq (by decide : 21 < 33) hsz.symm), frame_tmp (k22) hL2 (Nat.lt_of_lt_of_eq (by decide : 22 < 33) hsz.symm), hI1, hI2]) ⟨frame_put (k23) (q23), ?_⟩
            simpa [upd] using hT
          · rintro L _ Wx ⟨rfl, hT⟩ hcl hk hd
            have hL3 : L 3 = true := by have h := hd; simp [Region.binds] at h; simp [h]
            rw [if_pos (by simp [Region.wanted])]
            refine op_loadF 59 (.tmp 23) rfl ⟨b, q * 28, none⟩ (by rw [frame_in (k23) hL3 (Nat.lt_of_lt_of_eq (by decide : 23 < 33) hsz.symm)]) (.agg (ftArr f)) (hLF Wx hT) ⟨frame_put (k24) (q24), ?_⟩
            simpa [upd] using hT
          · rintro L _ Wx ⟨rfl, hT⟩ hcl hk hd
            rw [if_pos (by simp [Region.wanted])]
            refine op_loadF 59 (.tmp 5) rfl ⟨Bm, 0, none⟩ (by rw [frame_oute (n5) u5]) (.agg (ftArr m)) (hLM Wx hT) ⟨frame_put (k25) (q25), ?_⟩
            simpa [upd] using hT
          · rintro L _ Wx ⟨rfl, hT⟩ hcl hk hd
            have hL0 : L 0 = true := by have h := hd; simp [Region.binds] at h; simp [h]
            have hL4 : L 4 = true := by have h := hd; simp [Region.binds] at h; simp [h]
            have hL5 : L 5 = true := by have h := hd; simp [Region.binds] at h; simp [h]
            rw [if_pos (by simp [Region.wanted])]
            refine op_callP (f := 64) (args := #[.agg (ftArr f), .agg (ftArr m)]) (by simp [go_sem, frame_tmp (k20) hL0 (Nat.lt_of_lt_of_eq (by decide : 20 < 33) hsz.symm), frame_tmp (k24) hL4 (Nat.lt_of_lt_of_eq (by decide : 24 < 33) hsz.symm), frame_tmp (k25) hL5 (Nat.lt_of_lt_of_eq (by decide : 25 < 33) hsz.symm)]) (cmp64_any f m Wx hfi hmi) ?_
            rintro e w' ⟨rfl, hb'⟩
            refine ⟨_, rfl, frame_put (k26) (q26), ?_⟩
            exact hT.trans (hb'.mono hT.size)
          · rintro L _ Wx ⟨rfl, hT⟩ hcl hk hd
            have hL6 : L 6 = true := by have h := hd; simp [Region.binds] at h; simp [h]
            rw [if_pos (by simp [Region.wanted])]
            refine op_value (v := .bool false) (w' := Wx) (by simp [execOp, go_sem, frame_tmp (k26) hL6 (Nat.lt_of_lt_of_eq (by decide : 26 < 33) hsz.symm), hlt3]) ⟨frame_put (k27) (q27), ?_⟩
            simpa [upd] using hT
        · rintro L W' hT hall
          simp only [putAll, Act.put, List.setIfInBounds_toArray, List.set_cons_succ, List.set_cons_zero]
          have HT := Lib.hid hT
          have HZW : Hid (W'.heap[w.heap.size]? = some (.cells (ftArr ftz) 59 (0, 0))) := (hT.block _ (lt_of_heap HZR.out)).trans HZR.out
          have HMW : Hid (W'.heap[Bm]? = some (.cells (ftArr m) 59 (0, 0))) := (hT.block _ (lt_of_heap HMR.out)).trans HMR.out
          have HLF := Lib.hid (hLF W' hT)
          clear hT hall hLF hLM
          go_wp2_with (first | (refine wpList_load rfl 59 (.tmp 30) rfl ⟨b, q * 28, none⟩ rfl (.agg (ftArr f)) HLF.out ?_) | (refine wpList_store rfl 59 (.tmp 5) (.tmp 31) rfl ⟨Bm, 0, none⟩ rfl (.agg (ftArr f)) rfl (st_box f HMW.out) ?_))
          go_roundw
          case rel =>
            have hB2 := HB.out.trans (HT.out.mono HB.out.size)
            have hM := HMN.out
            first
              | (rw [if_pos hc] at hM; exact ⟨q + 1, f, by omega, by omega, by go_num, hB2.grown (grownBy_setRow _ _ _) hB2.size (fun k e => by cases e; omega), cells_turn HZW.out (grownBy_setRow _ _ _) (by omega), setRow_heap _ _ _ _ _ _ HMW.out, hfi, hM⟩)
              | (rw [if_neg hc] at hM; exact ⟨q + 1, m, by omega, by omega, by go_num, hB2, HZW.out, HMW.out, hmi, hM⟩)
          case measure => simp [intOf]; omega
        -- END MF
    · obtain rfl : q = n := by omega
      have hm : m = minF r0 f0 := by
        have h1 := HMIN.out
        rw [List.drop_eq_nil_of_le (by have := HNL.out; omega)] at h1
        exact h1
      go_wp2_with (first | (refine wpList_load rfl 59 (.tmp 5) rfl ⟨Bm, 0, none⟩ rfl (.agg (ftArr m)) (ld_ft HMR.out) ?_) | (refine wpList_store rfl 59 (.tmp 4) (.tmp 32) rfl ⟨w.heap.size, 0, none⟩ rfl (.agg (ftArr m)) rfl (st_box m HZR.out) ?_))
      have hl9 := ld_ft (setRow_heap _ w.heap.size _ (ftArr m) _ _ HZR.out)
      refine bodyPost_ret (v := .agg (ftArr m)) (results_c Try.results63 rfl hl9) rfl ⟨by rw [hm], ?_⟩
      exact HB.out.grown (grownBy_setRow _ _ _) HB.out.size (fun k e => by cases e; omega)

end Go.Proofs.Ytgdmgeihgkbjaaa
/- 'witness.First' -/
namespace Go.Proofs.Ytgdmgeihgkbjaaa
open Go.RowKit Go.Shelf

theorem results_ct1 {P : Program} {fn : Func} {p q : Tmp} {ty : TypeId} (h : fn.results = #[.cell p ty, .tmp q]) {tmps : Array Value} {w : World} {a : Addr} {u x : Value} (hp : tmps.getD p undef = .pointer (some a)) (ha : (loadVar ty a).run P w = .ok u w)
    (hq : tmps.getD q undef = x) : (results fn tmps).run P w = .ok (.tuple #[u, x]) w := by
  rw [Array.getD_eq_getD_getElem?] at hp hq
  simp [results, h, hp, hq, asAddr, ha]

/-- The fault that stands first, and whether there is one. -/
def firstP (l : List Sn) : Ft × Bool := if mayP l then (match wrongP l with | [] => (ftz, false) | f :: r => (minF r f, true)) else (ftz, false)

theorem wrong_range {l : List Sn} (hl : l.length ≤ 100000) (hm : mayP l = true) : ∀ f ∈ wrongP l, 0 ≤ f.i ∧ f.i ≤ 100000 := by
  intro f hf
  obtain ⟨i, x, hb⟩ := blame_ok hm hf
  have h1 := hb.at_
  have h2 := (List.getElem?_eq_some_iff.1 hb.hx).1
  omega

set_option maxRecDepth 100000 in
set_option maxHeartbeats 4000000 in
theorem firstF_any (l : List Sn) (v : Value) (w : World) (hl : l.length ≤ 100000) (hv : Sns w.heap.size w v l) :
    Calls Try.prog 36 #[v] w fun e w' => e = .returned (.tuple #[.agg (ftArr (firstP l).1), .bool (firstP l).2]) ∧ Below w.heap.size w w' := by
  obtain ⟨w1, hw1⟩ : ∃ w1, w.alloc (.cells #[.int .i64 0, .int .i64 0, .int .i64 0, .int .i64 0, .int .i64 0, .int .u8 0, .int .u8 0, .int .u8 0, .int .u8 0, .int .u8 0, .int .u8 0, .int .u8 0, .int .u8 0, .int .u8 0, .int .u8 0, .int .u8 0, .int .u8 0, .int .u8 0, .int .u8 0, .int .u8 0, .int .u8 0, .int .i64 0, .int .i64 0, .int .i64 0, .int .i64 0, .int .i64 0, .int .i64 0, .int .i8 0] 59) = w1 := ⟨_, rfl⟩
  have hb1 : Below w.heap.size w w1 := hw1 ▸ below_alloc1 _
  have hz : w1.heap[w.heap.size]? = some (.cells (ftArr ftz) 59 (0, 0)) := hw1 ▸ heap_alloc_new w _
  have hv1 : Sns w1.heap.size w1 v l := (hv.below hb1).mono hb1.size
  have hva : ∃ a c, v = .slice a l.length c := by obtain ⟨a, c, h, _⟩ := hv; exact ⟨a, c, h⟩
  obtain ⟨va, vc, rfl⟩ := hva
  have HW1 := Lib.hid hw1
  have HZ := Lib.hid hz
  have HB1 := Lib.hid hb1
  have HV1 := Lib.hid hv1
  clear hw1 hz hb1 hv1 hv
  cases hm : mayP l with
  | false =>
    have hfp : firstP l = (ftz, false) := by simp [firstP, hm]
    rw [hfp]
    have HC := Lib.hid (wrong_err l _ w1 hl HV1.out hm)
    clear hm hfp
    go_enter Try.func36, Try.ntmps36
    go_upto_region 1 with (fail)
    rw [HW1.out]
    go_wp2_with fail
    refine HC.out.mono ?_
    rintro e w2 ⟨rfl, b2⟩
    have HB2 := Lib.hid (HB1.out.trans (b2.mono HB1.out.size))
    have HZ2 : Hid (w2.heap[w.heap.size]? = some (.cells (ftArr ftz) 59 (0, 0))) := (b2.block _ (lt_of_heap HZ.out)).trans HZ.out
    clear b2
    simp only [slNil]
    go_wp2_with (refine wpList_store rfl 59 (.tmp 2) (.tmp 14) rfl ⟨w.heap.size, 0, none⟩ rfl (.agg (ftArr ftz)) rfl (st_box ftz HZ2.out) ?_)
    have hl9 := ld_ft (setRow_heap _ w.heap.size _ (ftArr ftz) _ _ HZ2.out)
    refine bodyPost_ret (v := .tuple #[.agg (ftArr ftz), .bool false]) (results_ct1 Try.results36 rfl hl9 rfl) rfl ⟨rfl, ?_⟩
    exact HB2.out.grown (grownBy_setRow _ _ _) HB2.out.size (fun k e => by cases e; omega)
  | true =>
    have HC := Lib.hid (wrong_ok l _ w1 hl HV1.out hm)
    have hwl : (wrongP l).length ≤ 10000000000 := Nat.le_trans (List.length_filter_le _ _) (reads_length hl)
    have hrng := wrong_range hl hm
    have hfp : firstP l = (match wrongP l with | [] => (ftz, false) | f :: r => (minF r f, true)) := by simp [firstP, hm]
    have HFP := Lib.hid hfp
    clear hm hfp
    go_enter Try.func36, Try.ntmps36
    go_upto_region 1 with (fail)
    rw [HW1.out]
    go_wp2_with fail
    refine HC.out.mono ?_
    rintro e w2 ⟨a, c, rfl, hrow, b2⟩
    have HB2 := Lib.hid (HB1.out.trans (b2.mono HB1.out.size))
    have HZ2 : Hid (w2.heap[w.heap.size]? = some (.cells (ftArr ftz) 59 (0, 0))) := (b2.block _ (lt_of_heap HZ.out)).trans HZ.out
    clear b2 HC
    cases hwr : wrongP l with
    | nil =>
      have HFN : Hid (firstP l = (ftz, false)) := Lib.hid (by rw [HFP.out, hwr])
      rw [hwr] at hwl
      clear hrow hrng hwr
      simp only [List.length_nil]
      go_wp2_with (refine wpList_store rfl 59 (.tmp 2) (.tmp 14) rfl ⟨w.heap.size, 0, none⟩ rfl (.agg (ftArr ftz)) rfl (st_box ftz HZ2.out) ?_)
      have hl9 := ld_ft (setRow_heap _ w.heap.size _ (ftArr ftz) _ _ HZ2.out)
      refine bodyPost_ret (v := .tuple #[.agg (ftArr ftz), .bool false]) (results_ct1 Try.results36 rfl hl9 rfl) rfl ⟨by rw [HFN.out], ?_⟩
      exact HB2.out.grown (grownBy_setRow _ _ _) HB2.out.size (fun k e => by cases e; omega)
    | cons f r =>
      have HFN : Hid (firstP l = (minF r f, true)) := Lib.hid (by rw [HFP.out, hwr])
      rw [hwr] at hrow hwl hrng
      obtain ⟨b, rfl, hb, hr⟩ := hrow 0 f rfl
      have HM := Lib.hid (min63_any f r b c w2 hb hr hwl hrng)
      have hd : decide (((f :: r).length : Int) = 0) = false := by simp; omega
      have hd2 : (((f :: r).length : Int) == 0) = false := by simp; omega
      generalize hnn : (f :: r).length = nn at *
      clear hrow hrng hr hnn
      go_wp2_with fail
      refine HM.out.mono ?_
      rintro e w3 ⟨rfl, b3⟩
      have HB3 := Lib.hid (HB2.out.trans (b3.mono HB2.out.size))
      have HZ3 : Hid (w3.heap[w.heap.size]? = some (.cells (ftArr ftz) 59 (0, 0))) := (b3.block _ (lt_of_heap HZ2.out)).trans HZ2.out
      clear b3
      go_wp2_with (refine wpList_store rfl 59 (.tmp 2) (.tmp 16) rfl ⟨w.heap.size, 0, none⟩ rfl (.agg (ftArr (minF r f))) rfl (st_box (minF r f) HZ3.out) ?_)
      have hl9 := ld_ft (setRow_heap _ w.heap.size _ (ftArr (minF r f)) _ _ HZ3.out)
      refine bodyPost_ret (v := .tuple #[.agg (ftArr (minF r f)), .bool true]) (results_ct1 Try.results36 rfl hl9 rfl) rfl ⟨by rw [HFN.out], ?_⟩
      exact HB3.out.grown (grownBy_setRow _ _ _) HB3.out.size (fun k e => by cases e; omega)

end Go.Proofs.Ytgdmgeihgkbjaaa
/- Writing one value into a row of steps of one's own. -/
namespace Go.Proofs.Ytgdmgeihgkbjaaa
open Go.RowKit

theorem splice_val (u : V8) : ∀ (m : List Sn) (i : Nat) (x : Sn), m[i]? = some x →
    (m.flatMap Sn.cells).take (i * 14 + 5) ++ u.cells ++ (m.flatMap Sn.cells).drop (i * 14 + 13) = (m.set i { x with v := u }).flatMap Sn.cells
  | [], _, _, h => by simp at h
  | y :: m, 0, x, h => by
    obtain rfl : y = x := by simpa using h
    simp [Sn.cells, V8.cells, List.flatMap_cons]
  | y :: m, i + 1, x, h => by
    have ih := splice_val u m i x (by simpa using h)
    have hy : y.cells.length = 14 := rfl
    rw [List.set_cons_succ, List.flatMap_cons, List.flatMap_cons, ← ih]
    have e1 : (i + 1) * 14 + 5 = y.cells.length + (i * 14 + 5) := by rw [hy]; omega
    have e2 : (i + 1) * 14 + 13 = y.cells.length + (i * 14 + 13) := by rw [hy]; omega
    rw [e1, e2, List.take_length_add_append, List.drop_length_add_append]
    simp

theorem owns_set {w : World} {base : Nat} {v : Value} {m : List Sn} (h : w.ownsRow base 36 14 v m.length (m.flatMap Sn.cells)) {i : Nat} {x : Sn} (hx : m[i]? = some x) (u : V8) :
    ∃ g c, v = .slice (some ⟨g, 0, none⟩) m.length c ∧ base ≤ g ∧ ∃ w', (storeVar 23 ⟨g, i * 14 + 5, none⟩ (v8Val u)).run Try.prog w = .ok () w' ∧ w.grownBy w' (some g) ∧ w'.ownsRow base 36 14 v m.length ((m.set i { x with v := u }).flatMap Sn.cells) := by
  have hi := (List.getElem?_eq_some_iff.1 hx).1
  obtain ⟨hlen, hr⟩ := h
  rcases hr with ⟨_, h0⟩ | ⟨g, cap, cur, rfl, hb, hg, hn, hc, hcs, ht⟩
  · omega
  have hul : u.cells.length = 8 := rfl
  have hfit : i * 14 + 5 + u.cells.length ≤ cur.toList.length := by rw [hul, Array.length_toList, hcs]; omega
  have hrun := run_storeCells_row (P := Try.prog) w g (i * 14 + 5) cur.toList 36 u.cells (by simpa using hg) hfit u.cells_one
  refine ⟨g, cap, rfl, hb, w.setRow g (splice cur.toList (i * 14 + 5) u.cells).toArray, ?_, grownBy_setRow _ _ _, ?_⟩
  · have hs : ((v8Val u).cells.size ≠ 8) = False := by simp [v8Val, Value.cells]
    simp only [storeVar, Sem.run_bind, Try.sizeOf23, Result.andThen_ok, hs, if_false]
    exact hrun
  · refine ⟨by rw [flat_length Sn.cells_len]; simp, .inr ⟨g, cap, _, rfl, hb, setRow_heap _ _ _ _ _ _ hg, hn, hc, ?_, ?_⟩⟩
    · simp [splice]
      rw [hul]
      have : cur.size = cap * 14 := hcs
      omega
    · rw [← splice_val u m i x hx, ← ht]
      simp only [splice]
      rw [List.take_append, List.take_append]
      have hle : i * 14 + 13 ≤ m.length * 14 := by omega
      have h1 : (cur.toList.take (i * 14 + 5)).length = i * 14 + 5 := by rw [List.length_take, Array.length_toList, hcs]; omega
      simp only [List.length_append, h1, hul]
      rw [List.take_of_length_le (l := cur.toList.take (i * 14 + 5)) (by rw [h1]; omega), List.take_of_length_le (l := u.cells) (by rw [hul]; omega), List.take_take, List.drop_take]
      congr 2
      · congr 1; omega

end Go.Proofs.Ytgdmgeihgkbjaaa
/- 'witness.Mend' -/
namespace Go.Proofs.Ytgdmgeihgkbjaaa
open Go.RowKit Go.Shelf

def mendOne (m : List Sn) (f : Ft) : List Sn := match m[f.i.toNat]? with | some x => m.set f.i.toNat { x with v := f.want } | none => m
/-- The history mended. -/
def mendP (l : List Sn) : List Sn := (wrongP l).foldl mendOne l

theorem mendOne_length (m : List Sn) (f : Ft) : (mendOne m f).length = m.length := by unfold mendOne; split <;> simp

set_option maxRecDepth 100000 in
set_option maxHeartbeats 4000000 in
theorem mend_err (l : List Sn) (v : Value) (w : World) (hl : l.length ≤ 100000) (hv : Sns w.heap.size w v l) (hm : mayP l = false) :
    Calls Try.prog 37 #[v] w fun e w' => e = .returned (.tuple #[slNil, .int .i64 2]) ∧ Below w.heap.size w w' := by
  have HC := Lib.hid (wrong_err l v w hl hv hm)
  obtain ⟨a, cap, rfl, _, _⟩ := hv
  go_enter Try.func37, Try.ntmps37
  go_wp2_with fail
  refine HC.out.mono ?_
  rintro e w2 ⟨rfl, b2⟩
  have HB := Lib.hid b2
  clear b2
  simp only [slNil]
  go_wp2_with fail
  go_ret2
  exact ⟨rfl, HB.out⟩

set_option maxRecDepth 100000 in
set_option maxHeartbeats 4000000 in
theorem mend_ok (l : List Sn) (v : Value) (w : World) (hl : l.length ≤ 100000) (hv : Sns w.heap.size w v l) (hm : mayP l = true) :
    Calls Try.prog 37 #[v] w fun e w' => ∃ vo, e = .returned (.tuple #[vo, .int .i64 0]) ∧ w'.ownsRow w.heap.size 36 14 vo (mendP l).length ((mendP l).flatMap Sn.cells) ∧ Below w.heap.size w w' := by
  have HC := Lib.hid (wrong_ok l v w hl hv hm)
  have hwl : (wrongP l).length ≤ 10000000000 := Nat.le_trans (List.length_filter_le _ _) (reads_length hl)
  have HM := Lib.hid hm
  obtain ⟨va, vc, rfl, hn, ha⟩ := hv
  have HV : Hid (Sns w.heap.size w (.slice va l.length vc) l) := ⟨va, vc, rfl, hn, ha⟩
  clear hn ha hm
  go_enter Try.func37, Try.ntmps37
  go_wp2_with fail
  refine HC.out.mono ?_
  rintro e w2 ⟨a, c, rfl, hrow, b2⟩
  have HROW := Lib.hid hrow
  have HCL := Lib.hid (clone_any l va vc w2 hl ((HV.out.below b2).mono b2.size))
  have HB2 := Lib.hid b2
  clear hrow b2
  go_wp2_with fail
  refine HCL.out.mono ?_
  rintro e w3 ⟨⟨v', rfl, hown⟩, b3⟩
  obtain ⟨a9, c9, rfl⟩ := ownsRow_slice hown
  have HOWN := Lib.hid hown
  have HB3 := Lib.hid b3
  clear hown b3
  go_wp2_with fail
  go_loopw [21] (fun io wr => ∃ (q : Nat) (m : List Sn), q ≤ (wrongP l).length ∧ io = .int .i64 q ∧ Below w2.heap.size w2 wr ∧ m.length = l.length ∧ wr.ownsRow w2.heap.size 36 14 (.slice a9 l.length c9) m.length (m.flatMap Sn.cells) ∧ ((wrongP l).drop q).foldl mendOne m = mendP l) (fun io _ => (wrongP l).length - (intOf io).toNat)
  case atStart => exact ⟨0, l, Nat.zero_le _, rfl, HB3.out, rfl, HOWN.out, rfl⟩
  case round =>
    obtain ⟨q, m, hq, rfl, hB, hml, hown, hmd⟩ := hrel
    have HB := Lib.hid hB
    have HO := Lib.hid hown
    have HMD := Lib.hid hmd
    have HML := Lib.hid hml
    clear hB hown hmd hml
    by_cases hlt : q < (wrongP l).length
    · obtain ⟨f, hf⟩ : ∃ f, (wrongP l)[q]? = some f := ⟨_, List.getElem?_eq_getElem hlt⟩
      obtain ⟨i, x0, hbl⟩ := blame_ok HM.out (List.mem_of_getElem? hf)
      obtain ⟨b, rfl, hb, hr⟩ := HROW.out q f hf
      have hil : i < l.length := (List.getElem?_eq_some_iff.1 hbl.hx).1
      obtain ⟨x, hx⟩ : ∃ x, m[i]? = some x := ⟨_, List.getElem?_eq_getElem (by have := HML.out; omega)⟩
      have hfi := hbl.at_
      have hone : mendOne m f = m.set i { x with v := f.want } := by
        unfold mendOne
        have : f.i.toNat = i := by omega
        rw [this, hx]
      have hmn : ((wrongP l).drop (q + 1)).foldl mendOne (m.set i { x with v := f.want }) = mendP l := by
        obtain ⟨h1, h2⟩ := List.getElem?_eq_some_iff.1 hf
        rw [← HMD.out, List.drop_eq_getElem_cons h1, h2, List.foldl_cons, hone]
      have hld := ld_ft_row (hr.below hb HB.out) hf
      rw [Nat.zero_add] at hld
      have hbx : (wr.alloc (.cells (ftArr f) 59)).heap[wr.heap.size]? = some (.cells (ftArr f) 59 (0, 0)) := heap_alloc_new wr _
      have k0 := ft_i hbx
      rw [hfi] at k0
      obtain ⟨d0, d1, d2, d3, d4, d5, d6, d7, _⟩ := ft_at hbx
      obtain ⟨g, c8, hg8, hgb, w5, hst, hgr, hown5⟩ := owns_set (HO.out.alloc (.cells (ftArr f) 59)) hx f.want
      injection hg8 with e1 e2 e3
      subst e1 e3
      clear e2
      have HLD := Lib.hid hld
      have HMN := Lib.hid hmn
      have HST := Lib.hid hst
      have HGR := Lib.hid hgr
      have HO5 := Lib.hid hown5
      have HGB := Lib.hid hgb
      clear hld hmn hst hgr hown5 hgb hbx hone hbl hf hr hfi
      go_wp2_with (first | (refine wpList_load rfl 59 (.tmp 23) rfl ⟨b, q * 28, none⟩ rfl (.agg (ftArr f)) HLD.out ?_) | (refine wpList_store rfl 59 (.tmp 8) (.tmp 24) rfl ⟨wr.heap.size, 0, none⟩ rfl (.agg (ftArr f)) rfl (st_ft wr f) ?_) | (refine wpList_store rfl 23 (.tmp 31) (.tmp 29) rfl ⟨g, i * 14 + 5, none⟩ rfl (v8Val f.want) rfl HST.out ?_))
      go_roundw
      case rel =>
        have hB2 := HB.out.alloc HB.out.size (.cells (ftArr f) 59)
        have h5 := HO5.out
        have hset : (m.set i { x with v := f.want }).length = m.length := by simp
        exact ⟨q + 1, m.set i { x with v := f.want }, by omega, by go_num, hB2.grown HGR.out hB2.size (fun k e => by cases e; exact HGB.out), by rw [hset]; exact HML.out, by rw [hset]; rwa [HML.out] at h5 ⊢, HMN.out⟩
      case measure => simp [intOf]; omega
    · obtain rfl : q = (wrongP l).length := by omega
      have hmm : m = mendP l := by
        have h1 := HMD.out
        rw [List.drop_length] at h1
        exact h1
      have hO := HO.out
      rw [hmm] at hO
      have HO2 := Lib.hid (owns_base hO HB2.out.size)
      have HBF := Lib.hid (HB2.out.trans (HB.out.mono HB2.out.size))
      clear hmm hO
      go_wp2_with fail
      go_ret2
      exact ⟨_, rfl, HO2.out, HBF.out⟩

end Go.Proofs.Ytgdmgeihgkbjaaa
/- No fault just if the replay is serial: the plain law. -/
namespace Go.Proofs.Ytgdmgeihgkbjaaa
open Go.RowKit

/-- What the blocks hold behind the places. -/
def heldP (l : List Sn) : List (Nm × Nat) → List Sn → List Sn
  | [], h => h
  | (_, i) :: r, h => match l[i]? with
    | none => heldP l r h
    | some x => if x.k = 2 then heldP l r (h.set x.b.toNat x) else heldP l r h

theorem emit_append (l : List Sn) (ns : List Nm) : ∀ (a b : List (Nm × Nat)) (h : List Sn), emit l ns (a ++ b) h = emit l ns a h ++ emit l ns b (heldP l a h)
  | [], _, _ => rfl
  | (n, i) :: a, b, h => by
    simp only [List.cons_append, emit, heldP]
    cases l[i]? with
    | none => exact emit_append l ns a b h
    | some x =>
      simp only
      by_cases h2 : x.k = 2
      · simp only [h2, if_true]; exact emit_append l ns a b _
      · simp only [h2, if_false]
        by_cases h1 : x.k = 1
        · simp only [h1, if_true, List.cons_append]; rw [emit_append l ns a b h]
        · simp only [h1, if_false]; exact emit_append l ns a b h

def good (f : Ft) : Bool := decide (f.want = f.got)

/-- One name. -/
theorem name_serial (l : List Sn) (ns : List Nm) (n : Nm) : ∀ (r : List Sn) (k : Nat) (h : List Sn) (s : List V8 × Bool), (∀ j, r[j]? = l[k + j]?) → h.map (·.v) = s.1 →
    (heldP l ((idxN n r k).map fun i => (n, i)) h).map (·.v) = (((nmSteps n r k).map (·.2)).foldl repStep s).1 ∧
    (((nmSteps n r k).map (·.2)).foldl repStep s).2 = (s.2 && (emit l ns ((idxN n r k).map fun i => (n, i)) h).all good)
  | [], _, h, s, _, hs => by simp [idxN, nmSteps, heldP, emit, hs]
  | x :: r, k, h, s, hr, hs => by
    have hx : l[k]? = some x := by have := hr 0; simpa using this.symm
    have hr' : ∀ j, r[j]? = l[k + 1 + j]? := fun j => by have := hr (j + 1); simp only [List.getElem?_cons_succ] at this; rw [this]; congr 1; omega
    unfold idxN nmSteps
    by_cases hn : x.n = n
    · simp only [hn, if_true, true_and, List.map_cons]
      by_cases h2 : x.k = 2
      · have e : (x.k = 1 ∨ x.k = 2) := .inr h2
        have e1 : ¬ x.k = 1 := by omega
        rw [if_pos e]
        simp only [List.map_cons, List.foldl_cons, heldP, hx, h2, if_true]
        rw [emit_write hx h2]
        have hst : repStep s x = (s.1.set x.b.toNat x.v, s.2) := by simp [repStep, e1]
        have := name_serial l ns n r (k + 1) (h.set x.b.toNat x) (repStep s x) hr' (by rw [hst, List.map_set, hs])
        rw [hst] at this ⊢
        exact this
      · by_cases h1 : x.k = 1
        · have e : (x.k = 1 ∨ x.k = 2) := .inl h1
          rw [if_pos e]
          simp only [List.map_cons, List.foldl_cons, heldP, hx, h2, if_false]
          rw [emit_read hx h1, List.all_cons]
          have hst : repStep s x = (s.1, s.2 && decide (s.1[x.b.toNat]?.getD z0 = x.v)) := by simp [repStep, h1]
          have := name_serial l ns n r (k + 1) h (repStep s x) hr' (by rw [hst, hs])
          rw [hst] at this ⊢
          refine ⟨this.1, ?_⟩
          rw [this.2]
          have hg : good (ftOf l ns h n k x) = decide (s.1[x.b.toNat]?.getD z0 = x.v) := by
            unfold good ftOf
            simp only
            rw [← hs, List.getElem?_map]
            cases h[x.b.toNat]? <;> rfl
          rw [hg, Bool.and_assoc]
        · have e : ¬ (x.k = 1 ∨ x.k = 2) := by omega
          rw [if_neg e]
          simp only [heldP, hx, h2, if_false]
          rw [emit_skip hx h2 h1]
          exact name_serial l ns n r (k + 1) h s hr' hs
    · simp only [hn, if_false, false_and]
      exact name_serial l ns n r (k + 1) h s hr' hs

theorem names_serial (l : List Sn) (os : List Nm) : ∀ (ns : List Nm) (h : List Sn) (s : List V8 × Bool), h.map (·.v) = s.1 →
    (ns.foldl (repName l) s).2 = (s.2 && (emit l os (pairsP l ns) h).all good)
  | [], _, s, _ => by simp [pairsP, emit]
  | n :: ns, h, s, hs => by
    have hp : pairsP l (n :: ns) = (idxN n l 0).map (fun i => (n, i)) ++ pairsP l ns := by simp [pairsP]
    obtain ⟨h1, h2⟩ := name_serial l os n l 0 h s (fun j => by simp) hs
    have h1' : (heldP l ((idxN n l 0).map fun i => (n, i)) h).map (·.v) = (repName l s n).1 := h1
    have h2' : (repName l s n).2 = (s.2 && (emit l os ((idxN n l 0).map fun i => (n, i)) h).all good) := h2
    rw [List.foldl_cons, hp, emit_append, List.all_append, names_serial l os ns _ _ h1', h2', Bool.and_assoc]

/-- Serial just if no fault. -/
theorem serial_law (l : List Sn) : (repP l).2 = (wrongP l).isEmpty := by
  have h := names_serial l (ordR l) (ordR l) h0 (st0, true) (by decide)
  show ((ordR l).foldl (repName l) (st0, true)).2 = _
  rw [h, Bool.true_and]
  show (readsP l).all good = ((readsP l).filter fun f => decide (f.want ≠ f.got)).isEmpty
  induction readsP l with
  | nil => rfl
  | cons f r ih =>
    rw [List.all_cons, ih, List.filter_cons]
    by_cases hf : f.want = f.got
    · simp [good, hf]
    · simp [good, hf]

end Go.Proofs.Ytgdmgeihgkbjaaa
/- Histories that differ only in what their reads tell: the plain law. -/
namespace Go.Proofs.Ytgdmgeihgkbjaaa
open Go.RowKit

/-- y is x, but for the value where x is a read. -/
def SimR (x y : Sn) : Prop := y = { x with v := y.v } ∧ (x.k ≠ 1 → y = x)

inductive Sim : List Sn → List Sn → Prop
  | nil : Sim [] []
  | cons {x y : Sn} {l m : List Sn} : SimR x y → Sim l m → Sim (x :: l) (y :: m)

theorem SimR.refl (x : Sn) : SimR x x := ⟨rfl, fun _ => rfl⟩
theorem SimR.k {x y : Sn} (h : SimR x y) : y.k = x.k := by rw [h.1]
theorem SimR.n {x y : Sn} (h : SimR x y) : y.n = x.n := by rw [h.1]
theorem SimR.b {x y : Sn} (h : SimR x y) : y.b = x.b := by rw [h.1]
theorem SimR.e {x y : Sn} (h : SimR x y) : y.e = x.e := by rw [h.1]

theorem Sim.refl : ∀ l, Sim l l
  | [] => .nil
  | x :: l => .cons (SimR.refl x) (Sim.refl l)

theorem Sim.append {p q l m : List Sn} (h : Sim p q) (h' : Sim l m) : Sim (p ++ l) (q ++ m) := by
  induction h with
  | nil => exact h'
  | cons r _ ih => exact .cons r ih

theorem Sim.length {l m : List Sn} (h : Sim l m) : m.length = l.length := by
  induction h with
  | nil => rfl
  | cons _ _ ih => simp [ih]

theorem Sim.get {l m : List Sn} (h : Sim l m) : ∀ {i : Nat} {x : Sn}, l[i]? = some x → ∃ y, m[i]? = some y ∧ SimR x y := by
  induction h with
  | nil => intro i x hx; simp at hx
  | cons r _ ih =>
    intro i x hx
    cases i with
    | zero => simp at hx; subst hx; exact ⟨_, rfl, r⟩
    | succ i => simpa using ih (by simpa using hx)

theorem Sim.take {l m : List Sn} (h : Sim l m) : ∀ i, Sim (l.take i) (m.take i) := by
  induction h with
  | nil => intro i; simp; exact .nil
  | cons r _ ih =>
    intro i
    cases i with
    | zero => exact .nil
    | succ i => exact .cons r (ih i)

theorem SimR.hit {x y : Sn} (h : SimR x y) (k : Int) (n : Nm) : hit k n y = hit k n x := by
  unfold Go.Proofs.Ytgdmgeihgkbjaaa.hit
  rw [h.k, h.n]

theorem Sim.isC {l m : List Sn} (h : Sim l m) (k : Int) (n : Nm) : isC k n m = isC k n l := by
  induction h with
  | nil => rfl
  | cons r _ ih => rw [isC_cons, isC_cons, ih, r.hit]

theorem Sim.step {p q : List Sn} (h : Sim p q) {x y : Sn} (r : SimR x y) : stepOK q y = stepOK p x := by
  unfold stepOK
  simp only [h.isC, r.k, r.n, r.b, r.e]

theorem Sim.mayF {l m : List Sn} (h : Sim l m) : ∀ {p q : List Sn}, Sim p q → mayF q m = mayF p l := by
  induction h with
  | nil => intro p q _; rfl
  | cons r _ ih =>
    intro p q hp
    unfold Go.Proofs.Ytgdmgeihgkbjaaa.mayF
    rw [hp.step r, ih (hp.append (.cons r .nil))]

theorem Sim.may {l m : List Sn} (h : Sim l m) : mayP m = mayP l := h.mayF .nil

theorem Sim.filter {l m : List Sn} (h : Sim l m) {f g : Sn → Bool} (hfg : ∀ x y, SimR x y → g y = f x) : (m.filter g).map (·.n) = (l.filter f).map (·.n) := by
  induction h with
  | nil => rfl
  | cons r _ ih =>
    rw [List.filter_cons, List.filter_cons, hfg _ _ r]
    split
    · simp only [List.map_cons, ih, r.n]
    · exact ih

theorem Sim.ord {l m : List Sn} (h : Sim l m) : ordR m = ordR l := by
  unfold ordR
  refine h.filter fun x y r => ?_
  rw [r.k, r.n, h.isC]

theorem Sim.idx {l m : List Sn} (h : Sim l m) (n : Nm) : ∀ k, idxN n m k = idxN n l k := by
  induction h with
  | nil => intro k; rfl
  | cons r _ ih =>
    intro k
    unfold idxN
    rw [r.n, ih]

theorem Sim.pairs {l m : List Sn} (h : Sim l m) (ns : List Nm) : pairsP m ns = pairsP l ns := by
  unfold pairsP
  simp only [h.idx]

theorem Sim.lastW {l m : List Sn} (h : Sim l m) (b : Int) (v : V8) : lastW m b v = lastW l b v := by
  have key : ∀ a, m.foldl (fun a y => if y.k = 2 ∧ y.b = b ∧ y.v = v then y.n else a) a = l.foldl (fun a y => if y.k = 2 ∧ y.b = b ∧ y.v = v then y.n else a) a := by
    induction h with
    | nil => intro a; rfl
    | @cons x y l m r _ ih =>
      intro a
      rw [List.foldl_cons, List.foldl_cons, ih]
      congr 1
      by_cases h1 : x.k = 1
      · have e1 : ¬ (y.k = 2 ∧ y.b = b ∧ y.v = v) := fun hh => by have := r.k; omega
        have e2 : ¬ (x.k = 2 ∧ x.b = b ∧ x.v = v) := fun hh => by omega
        rw [if_neg e1, if_neg e2]
      · rw [r.2 h1]
  exact key nz

/-- A read that counts, told anew. -/
def retell (l : List Sn) (ns : List Nm) (m : List Sn) (f : Ft) : Ft := match m[f.i.toNat]? with
  | some y => { f with got := y.v, was := lastW (l.take f.i.toNat) f.b y.v, k := kindP ns f.n (lastW (l.take f.i.toNat) f.b y.v) y.v }
  | none => f

theorem Sim.emit {l m : List Sn} (h : Sim l m) (hlen : m.length = l.length) (ns : List Nm) : ∀ (ps : List (Nm × Nat)) (d : List Sn), emit m ns ps d = (emit l ns ps d).map (retell l ns m)
  | [], _ => rfl
  | (n, i) :: ps, d => by
    unfold Go.Proofs.Ytgdmgeihgkbjaaa.emit
    cases hx : l[i]? with
    | none =>
      have : m[i]? = none := by rw [List.getElem?_eq_none_iff] at hx ⊢; omega
      rw [this]
      exact h.emit hlen ns ps d
    | some x =>
      obtain ⟨y, hy, r⟩ := h.get hx
      rw [hy]
      simp only [r.k, r.b]
      by_cases h2 : x.k = 2
      · have e : y = x := r.2 (by omega)
        simp only [h2, if_true, e]
        exact h.emit hlen ns ps _
      · simp only [h2, if_false]
        by_cases h1 : x.k = 1
        · simp only [h1, if_true, List.map_cons]
          rw [h.emit hlen ns ps d]
          congr 1
          unfold ftOf retell
          simp only [Int.toNat_natCast, hy, r.b, (h.take i).lastW]
        · simp only [h1, if_false]
          exact h.emit hlen ns ps d

theorem Sim.reads {l m : List Sn} (h : Sim l m) : readsP m = (readsP l).map (retell l (ordR l) m) := by
  unfold readsP
  rw [h.ord, h.pairs, h.emit h.length]

theorem Sim.held {l m : List Sn} (h : Sim l m) : ∀ (ps : List (Nm × Nat)) (d : List Sn), heldP m ps d = heldP l ps d
  | [], _ => rfl
  | (n, i) :: ps, d => by
    unfold heldP
    cases hx : l[i]? with
    | none =>
      have : m[i]? = none := by have := h.length; rw [List.getElem?_eq_none_iff] at hx ⊢; omega
      rw [this]
      exact h.held ps d
    | some x =>
      obtain ⟨y, hy, r⟩ := h.get hx
      rw [hy]
      simp only [r.k]
      by_cases h2 : x.k = 2
      · have e : y = x := r.2 (by omega)
        simp only [h2, if_true, e]
        exact h.held ps _
      · simp only [h2, if_false]
        exact h.held ps d

theorem names_held (l : List Sn) : ∀ (ns : List Nm) (h : List Sn) (s : List V8 × Bool), h.map (·.v) = s.1 → (heldP l (pairsP l ns) h).map (·.v) = (ns.foldl (repName l) s).1
  | [], h, s, hs => hs
  | n :: ns, h, s, hs => by
    have hp : pairsP l (n :: ns) = (idxN n l 0).map (fun i => (n, i)) ++ pairsP l ns := by simp [pairsP]
    obtain ⟨h1, _⟩ := name_serial l [] n l 0 h s (fun j => by simp) hs
    have h1' : (heldP l ((idxN n l 0).map fun i => (n, i)) h).map (·.v) = (repName l s n).1 := h1
    have happ : ∀ (a b : List (Nm × Nat)) (h : List Sn), heldP l (a ++ b) h = heldP l b (heldP l a h) := by
      intro a
      induction a with
      | nil => intro b h; rfl
      | cons p a ih =>
        intro b h
        obtain ⟨q, i⟩ := p
        simp only [List.cons_append, heldP]
        cases l[i]? with
        | none => exact ih b h
        | some x =>
          simp only
          split
          · exact ih b _
          · exact ih b h
    rw [List.foldl_cons, hp, happ]
    exact names_held l ns _ _ h1'

/-- What the blocks hold in the end is by the writes alone. -/
theorem Sim.state {l m : List Sn} (h : Sim l m) : (repP m).1 = (repP l).1 := by
  have h1 := names_held l (ordR l) h0 (st0, true) (by decide)
  have h2 := names_held m (ordR m) h0 (st0, true) (by decide)
  show ((ordR m).foldl (repName m) (st0, true)).1 = ((ordR l).foldl (repName l) (st0, true)).1
  rw [← h1, ← h2, h.ord, h.pairs, h.held]

/-! ### the places of reads -/

theorem idxN_sorted (n : Nm) : ∀ (l : List Sn) (k : Nat), (idxN n l k).Pairwise (· < ·)
  | [], _ => List.Pairwise.nil
  | x :: r, k => by
    unfold idxN
    split
    · refine List.Pairwise.cons (fun j hj => ?_) (idxN_sorted n r (k + 1))
      have := (idxN_mem r n (k + 1) j hj).1
      omega
    · exact idxN_sorted n r (k + 1)

theorem pairs_nodup (l : List Sn) : ∀ (ns : List Nm), ns.Nodup → (pairsP l ns).Pairwise (fun p q => p.2 ≠ q.2)
  | [], _ => List.Pairwise.nil
  | n :: ns, h => by
    have hp : pairsP l (n :: ns) = (idxN n l 0).map (fun i => (n, i)) ++ pairsP l ns := by simp [pairsP]
    rw [List.nodup_cons] at h
    rw [hp, List.pairwise_append]
    refine ⟨?_, pairs_nodup l ns h.2, ?_⟩
    · rw [List.pairwise_map]
      exact (idxN_sorted n l 0).imp fun hlt e => by simp only at e; omega
    · intro p hp q hq e
      obtain ⟨i, hi, rfl⟩ := List.mem_map.1 hp
      obtain ⟨_, x, hx, hn⟩ := idxN_mem l n 0 i hi
      obtain ⟨m, j⟩ := q
      obtain ⟨hm, y, hy, hn'⟩ := pairs_mem hq
      simp only at e
      subst e
      simp only [Nat.sub_zero] at hx
      rw [hx] at hy
      cases hy
      rw [hn] at hn'
      subst hn'
      exact h.1 hm

theorem emit_sub (l : List Sn) (ns : List Nm) : ∀ (ps : List (Nm × Nat)) (h : List Sn), ((emit l ns ps h).map fun f => f.i.toNat).Sublist (ps.map (·.2))
  | [], _ => List.Sublist.slnil
  | (n, i) :: ps, h => by
    unfold emit
    rw [List.map_cons]
    cases l[i]? with
    | none => exact (emit_sub l ns ps h).cons _
    | some x =>
      simp only
      split
      · exact (emit_sub l ns ps _).cons _
      · split
        · rw [List.map_cons]
          exact (emit_sub l ns ps h).cons_cons _
        · exact (emit_sub l ns ps h).cons _

theorem reads_nodup {l : List Sn} (hm : mayP l = true) : (readsP l).Pairwise (fun f g => f.i.toNat ≠ g.i.toNat) := by
  have h1 := pairs_nodup l (ordR l) (ordR_nodup hm)
  have h2 := emit_sub l (ordR l) (pairsP l (ordR l)) h0
  have h3 : ((pairsP l (ordR l)).map (·.2)).Pairwise (· ≠ ·) := by rw [List.pairwise_map]; exact h1
  have h4 := h3.sublist h2
  rw [List.pairwise_map] at h4
  exact h4

theorem wrong_nodup {l : List Sn} (hm : mayP l = true) : (wrongP l).Pairwise (fun f g => f.i.toNat ≠ g.i.toNat) := (reads_nodup hm).filter _

/-- What a read that counts says of the history. -/
structure ReadOK (l : List Sn) (f : Ft) (i : Nat) (x : Sn) : Prop where
  at_ : f.i = (i : Int)
  hx : l[i]? = some x
  kx : x.k = 1
  nx : x.n = f.n
  bx : x.b = f.b
  vx : x.v = f.got
  on : f.n ∈ ordR l

theorem read_ok {l : List Sn} (hm : mayP l = true) {f : Ft} (hf : f ∈ readsP l) : ∃ i x, ReadOK l f i x := by
  obtain ⟨n, i, x, h, hp, hx, h1, hh, hlen, rfl⟩ := emit_mem hm (ordR l) _ h0 (holdOK0 l) (by decide) f hf
  obtain ⟨hn, x', hx', hxn⟩ := pairs_mem hp
  rw [hx] at hx'
  cases hx'
  exact ⟨i, x, rfl, hx, h1, hxn, rfl, rfl, hn⟩

theorem idxN_in (n : Nm) : ∀ (l : List Sn) (k i : Nat) (x : Sn), l[i]? = some x → x.n = n → k + i ∈ idxN n l k
  | [], _, _, _, h, _ => by simp at h
  | y :: r, k, i, x, h, hn => by
    unfold idxN
    cases i with
    | zero =>
      simp at h; subst h
      rw [if_pos hn]
      simp
    | succ i =>
      have := idxN_in n r (k + 1) i x (by simpa using h) hn
      rw [show k + (i + 1) = k + 1 + i by omega]
      split
      · exact List.mem_cons_of_mem _ this
      · exact this

theorem emit_has {l : List Sn} (ns : List Nm) {n : Nm} {i : Nat} {x : Sn} (hx : l[i]? = some x) (h1 : x.k = 1) : ∀ (ps : List (Nm × Nat)) (h : List Sn), (n, i) ∈ ps → ∃ f ∈ emit l ns ps h, f.i.toNat = i
  | [], _, hp => by simp at hp
  | (n', j) :: ps, h, hp => by
    have rest : ∀ d, (n, i) ∈ ps → ∃ f ∈ emit l ns ps d, f.i.toNat = i := fun d hq => emit_has ns hx h1 ps d hq
    unfold emit
    rcases List.mem_cons.1 hp with e | hq
    · cases e
      rw [hx]
      have h2 : ¬ x.k = 2 := by omega
      simp only [h1, if_true]
      exact ⟨_, List.mem_cons_self, by simp [ftOf]⟩
    · cases l[j]? with
      | none => exact rest h hq
      | some y =>
        simp only
        split
        · exact rest _ hq
        · split
          · obtain ⟨f, hf, e⟩ := rest h hq
            exact ⟨f, List.mem_cons_of_mem _ hf, e⟩
          · exact rest h hq

theorem reads_has {l : List Sn} {i : Nat} {x : Sn} (hx : l[i]? = some x) (h1 : x.k = 1) (hn : x.n ∈ ordR l) : ∃ f ∈ readsP l, f.i.toNat = i := by
  refine emit_has (ordR l) (n := x.n) hx h1 _ _ ?_
  unfold pairsP
  refine List.mem_flatMap.2 ⟨x.n, hn, List.mem_map.2 ⟨i, ?_, rfl⟩⟩
  have := idxN_in x.n l 0 i x hx rfl
  simpa using this

end Go.Proofs.Ytgdmgeihgkbjaaa
