/- Several texts in one: Rise, NmKey, Life, Lives, Sort, RangeM, Scan, Hist, Ord, Order, OrdFns, Until, Replay, Fault, Entry, Look -/
import Derived.Test.YtgdmgeihgkbjaaaPa
import Derived.Maps.AppendAt
import Derived.WideMake
import Derived.Shelf.SlSortCmp.WholeK
import Derived.Shelf.SlSortCmp.NoneTotal
import Derived.Maps.RangeWalk
/- Maps at the operation; 'model.rising'. -/
namespace Go.Proofs.Ytgdmgeihgkbjaaa
open Go.RowKit Go.Shelf

section
variable {κ β : Type} [DecidableEq κ] {kenc : κ → Value} {venc : β → Value}

theorem wpList_look {T K E : TypeId} (hT : Try.prog.underlying T = some (.map K E)) (hk : KeyOK K kenc) {zero : Value} (hz : ∀ w, (zeroValue E).run Try.prog w = .ok zero w) {w : World} {b : Nat} {m : List (κ × β)} (hm : MapIs kenc venc w b m)
    {ops : Array Oper} {rest : List Oper} {o : Oper} {a : Act} {Q : Exit → Act → World → Prop} (hg : o.guard = none) (x y : Operand) (ho : o.op = .lookup T x y false) (hx : a.eval x = .map (some b)) (k : κ) (hy : a.eval y = kenc k)
    (h : wpList Try.prog ops Q rest (a.put o.dst (((look m k).map venc).getD zero)) w) : wpList Try.prog ops Q (o :: rest) a w := by
  refine wpList_plain hg fun K' hK' => ?_
  unfold Oper.wp
  simp only [execOp, ho, hx, hy, Sem.run_bind, run_look hT hk hz hm k, Result.andThen_ok, Sem.run_pure]
  exact hK' _ _ h

theorem wpList_put {T K E : TypeId} (hT : Try.prog.underlying T = some (.map K E)) (hk : KeyOK K kenc) {w : World} {b : Nat} {m : List (κ × β)} (hm : MapIs kenc venc w b m)
    {ops : Array Oper} {rest : List Oper} {o : Oper} {a : Act} {Q : Exit → Act → World → Prop} (hg : o.guard = none) (x y z : Operand) (ho : o.op = .mapUpdate T x y z) (hx : a.eval x = .map (some b)) (k : κ) (hy : a.eval y = kenc k) (v : β) (hz : a.eval z = venc v)
    (h : ∀ w', w.grownBy w' (some b) → MapIs kenc venc w' b (put m k v) → wpList Try.prog ops Q rest (a.put o.dst undef) w') : wpList Try.prog ops Q (o :: rest) a w := by
  refine wpList_plain hg fun K' hK' => ?_
  obtain ⟨es, clock, hr, hm'⟩ := run_put hT hk hm k v
  unfold Oper.wp
  simp only [execOp, ho, hx, hy, hz, Sem.run_bind, hr, Result.andThen_ok, Sem.run_pure]
  exact hK' _ _ (h _ ⟨rfl, rfl, rfl, by simp, fun j _ hj => World.putObj_heap_other (fun e => hj (by rw [e]))⟩ hm')

theorem wpListIn_put {F : Fence} {n : Nat} {T K E : TypeId} (hT : Try.prog.underlying T = some (.map K E)) (hk : KeyOK K kenc) {w : World} {b : Nat} {m : List (κ × β)} (hm : MapIs kenc venc w b m)
    {ops : Array Oper} {rest : List Oper} {o : Oper} {a : Act} {Q : Exit → Act → World → Prop} (hg : o.guard = none) (x y z : Operand) (ho : o.op = .mapUpdate T x y z) (hx : a.eval x = .map (some b)) (k : κ) (hy : a.eval y = kenc k) (v : β) (hz : a.eval z = venc v)
    (h : ∀ w', w.grownBy w' (some b) → MapIs kenc venc w' b (put m k v) → wpListIn F n Try.prog ops Q rest (a.put o.dst undef) w') : wpListIn F n Try.prog ops Q (o :: rest) a w := by
  refine wpListIn_plain hg fun K' hK' => ?_
  obtain ⟨es, clock, hr, hm'⟩ := run_put hT hk hm k v
  unfold Oper.wpIn
  refine ⟨by simp [Oper.about, ho], ?_⟩
  rw [Oper.semAt_plain F _ _ (by rw [ho]; intro c hc'; cases hc')]
  simp only [execOp, ho, hx, hy, hz, Sem.run_bind, hr, Result.andThen_ok, Sem.run_pure]
  exact hK' _ _ (h _ ⟨rfl, rfl, rfl, by simp, fun j _ hj => World.putObj_heap_other (fun e => hj (by rw [e]))⟩ hm')

theorem wpListIn_look {F : Fence} {n : Nat} {T K E : TypeId} (hT : Try.prog.underlying T = some (.map K E)) (hk : KeyOK K kenc) {zero : Value} (hz : ∀ w, (zeroValue E).run Try.prog w = .ok zero w) {w : World} {b : Nat} {m : List (κ × β)} (hm : MapIs kenc venc w b m)
    {ops : Array Oper} {rest : List Oper} {o : Oper} {a : Act} {Q : Exit → Act → World → Prop} (hg : o.guard = none) (x y : Operand) (ho : o.op = .lookup T x y false) (hx : a.eval x = .map (some b)) (k : κ) (hy : a.eval y = kenc k)
    (h : wpListIn F n Try.prog ops Q rest (a.put o.dst (((look m k).map venc).getD zero)) w) : wpListIn F n Try.prog ops Q (o :: rest) a w := by
  refine wpListIn_plain hg fun K' hK' => ?_
  unfold Oper.wpIn
  refine ⟨by simp [Oper.about, ho], ?_⟩
  rw [Oper.semAt_plain F _ _ (by rw [ho]; intro c hc'; cases hc')]
  simp only [execOp, ho, hx, hy, Sem.run_bind, run_look hT hk hz hm k, Result.andThen_ok, Sem.run_pure]
  exact hK' _ _ h

end

theorem grownBy_putObj (w : World) (b : Nat) (o : Obj) : w.grownBy (w.putObj b o) (some b) :=
  ⟨rfl, rfl, rfl, by simp, fun _ _ hj => World.putObj_heap_other (fun e => hj (by rw [e]))⟩

theorem grownBy_of_below {w W : World} (h : Below w.heap.size w W) {row : Option Nat} : w.grownBy W row :=
  ⟨h.os, h.tape, h.output, h.size, fun k hk _ => h.block k hk⟩

theorem zero4 (w : World) : (zeroValue 4).run Try.prog w = .ok (.bool false) w := by
  simp [go_sem]

def intsC (l : List Int) : List Value := l.map intV
/-- The first q numbers of which f holds. -/
def upTo (f : Int → Bool) (q : Nat) : List Int := ((List.range q).map (fun i : Nat => (i : Int))).filter f

theorem upTo_succ (f : Int → Bool) (q : Nat) : upTo f (q + 1) = if f q then upTo f q ++ [(q : Int)] else upTo f q := by
  unfold upTo
  rw [List.range_succ, List.map_append, List.filter_append]
  by_cases h : f q <;> simp [h]

theorem upTo_length (f : Int → Bool) (q : Nat) : (upTo f q).length ≤ q := by
  have := List.length_filter_le f ((List.range q).map (fun i : Nat => (i : Int)))
  simpa [upTo] using this

theorem info3z : (Try.prog.info? 3).map (fun i => (i.zero, i.size, i.bytes)) = some (some (.int .i64 0), 1, 8) := by kernel_rfl

def has (m : List (Int × Bool)) (k : Int) : Bool := (look m k).getD false

set_option maxRecDepth 100000 in
set_option maxHeartbeats 1000000 in
theorem rising_any (b : Nat) (m : List (Int × Bool)) (w : World) (hm : MapIs intV boolV w b m) :
    Calls Try.prog 67 #[.map (some b)] w fun e w' => ∃ v, e = .returned v ∧ w'.ownsRow w.heap.size 3 1 v (upTo (has m) 32).length (intsC (upTo (has m) 32)) ∧ w.grownBy w' (some b) := by
  obtain ⟨i0, hi, hz0, hz1, hz2⟩ := info_parts info3z
  go_enter Try.func67, Try.ntmps67
  go_wp2
  go_loopw [2, 4] (fun vo i wr => ∃ q : Nat, q ≤ 32 ∧ i = .int .i64 q ∧ wr.ownsRow w.heap.size 3 1 vo (upTo (has m) q).length (intsC (upTo (has m) q)) ∧ Below w.heap.size w wr) (fun _ i _ => 32 - (intOf i).toNat)
  case atStart => exact ⟨0, by omega, rfl, World.ownsRow_nil _ _ _ _, Below.refl _ _⟩
  case round =>
    obtain ⟨q, hq, rfl, hrow, hB⟩ := hrel
    have hmr : MapIs intV boolV wr b m := hm.kept (hB.block _ hm.lt)
    have HR := Lib.hid hrow
    have HB := Lib.hid hB
    have HM := Lib.hid hmr
    have hsz := hB.size
    have hlq := upTo_length (has m) q
    clear hrow hB hmr
    by_cases hlt : q < 32
    · by_cases hf : has m q = true
      · have hf' : (((look m (q : Int)).map boolV).getD (.bool false)) = .bool true := by
          unfold has at hf
          cases hl : look m (q : Int) with
          | none => rw [hl] at hf; cases hf
          | some v => rw [hl] at hf; simp at hf; simp [boolV, hf]
        have HU := Lib.hid (upTo_succ (has m) q)
        have HF := Lib.hid hf
        clear hf
        go_wp2_with (first | (refine wpList_look Try.underlying108 intKey zero4 HM.out rfl _ _ rfl rfl (q : Int) rfl ?_; rw [hf']) | (at_builtin; refine wpList_append_own_at _ rfl _ _ 30 rfl w.heap.size 3 i0 (.int .i64 0) 1 8 Try.underlying30 hi hz0 hz1 hz2 rfl (by decide) _ _ _ rfl (HR.out.alloc _) ⟨wr.heap.size, 0, none⟩ 1 1 [.int .i64 (q : Int)] rfl rfl (cell_one_new _ _ _) (by intro u hu; simp at hu; subst hu; rfl) (by unfold maxLen; omega) (by omega) (by simp; omega) ?_; intro v4 w4 hown4 hgrow4 hnil4 hloc4))
        go_roundw
        case rel =>
          refine ⟨q + 1, by omega, by go_num, ?_, ?_⟩
          · rw [HU.out, HF.out]
            simpa [intsC, intV] using hown4
          · refine (HB.out.alloc HB.out.size _).grown hgrow4 (by simp; omega) (fun k e => ?_)
            exact (HR.out.lt k e).1
        case measure => simp [intOf]; omega
      · have hf' : (((look m (q : Int)).map boolV).getD (.bool false)) = .bool false := by
          unfold has at hf
          cases hl : look m (q : Int) with
          | none => rfl
          | some v => rw [hl] at hf; simp at hf; simp [boolV, hf]
        have HU := Lib.hid (upTo_succ (has m) q)
        have HF := Lib.hid hf
        clear hf
        go_wp2_with (refine wpList_look Try.underlying108 intKey zero4 HM.out rfl _ _ rfl rfl (q : Int) rfl ?_; rw [hf'])
        go_roundw
        case rel => exact ⟨q + 1, by omega, by go_num, by rw [HU.out, if_neg HF.out]; exact HR.out, HB.out⟩
        case measure => simp [intOf]; omega
    · obtain rfl : q = 32 := by omega
      have hrow := HR.out
      have hB := HB.out
      obtain ⟨clock, hr, _⟩ := run_clear (kenc := intV) (venc := boolV) Try.underlying108 0 HM.out
      go_wp2_with fail
      go_ret
      have hg : wr.grownBy (wr.putObj b (.map #[] clock)) (some b) := grownBy_putObj _ _ _
      have hlt2 := hm.lt
      refine ⟨_, rfl, hrow.kept hg (.inr fun e => ?_), (grownBy_of_below hB).trans hg⟩
      have := (hrow.lt b e).1
      omega

end Go.Proofs.Ytgdmgeihgkbjaaa
/- Names as keys of a map. -/
namespace Go.Proofs.Ytgdmgeihgkbjaaa
open Go.RowKit

def nmV (n : Nm) : Value := .agg #[.int .i64 n.s, .int .i64 n.i, .int .i64 n.t]

theorem equal_nm (a b : Nm) (w : World) : (Op.equal 34 (nmV a) (nmV b)).run Try.prog w = .ok (decide (a = b)) w := eqIn_nm 9998 a b w

theorem asking_nm (a : Nm) : ∀ (es : List MapEntry) (m : List Nm) (i : Nat) (w : World), es.map (·.key) = m.map nmV →
    (Instr.findAsking 34 (nmV a) es i).run Try.prog w = .ok ((m.findIdx? (· = a)).bind fun j => (es[j]?).map fun e => (i + j, e.val)) w
  | [], [], _, _, _ => rfl
  | [], _ :: _, _, _, h => by simp at h
  | _ :: _, [], _, _, h => by simp at h
  | e :: es, x :: m, i, w, h => by
    simp only [List.map_cons, List.cons.injEq] at h
    unfold Instr.findAsking
    simp only [h.1, Sem.run_bind, equal_nm, Result.andThen_ok]
    by_cases hx : x = a
    · subst hx
      simp [List.findIdx?_cons]
    · have hne : ¬ a = x := fun e => hx e.symm
      simp only [hne, decide_false, Bool.false_eq_true, if_false]
      rw [asking_nm a es m (i + 1) w h.2]
      simp only [List.findIdx?_cons, hx, decide_false, Bool.false_eq_true, if_false]
      cases m.findIdx? (· = a) with
      | none => rfl
      | some j => simp; congr 1; funext e; congr 1; omega

theorem nmKey : KeyOK 34 nmV where
  chk e a w := by
    unfold Instr.checkKey nmV
    simp [go_sem]
    unfold Instr.checkKey
    simp [go_sem]
  find a es m w h := by
    unfold Instr.findKey
    simp only [Sem.run_bind, Try.runUnderlying34, Result.andThen_ok]
    cases es with
    | nil =>
      cases m with
      | nil => rfl
      | cons x m => simp at h
    | cons e es =>
      cases m with
      | nil => simp at h
      | cons x m =>
        have hk : e.key = nmV x := by simpa using (List.cons.inj h).1
        have hn : ∀ t, Instr.findNow (.struct t) (nmV a) (e :: es) 0 = none := by
          intro t
          unfold Instr.findNow
          rw [hk]
          rfl
        rw [hn]
        have := asking_nm a (e :: es) (x :: m) 0 w h
        simpa using this
  same a := by simp [nmV, Instr.sameBits]

end Go.Proofs.Ytgdmgeihgkbjaaa
/- 'order.lives': the lives of names; the plain side and 'once' -/
namespace Go.Proofs.Ytgdmgeihgkbjaaa
open Go.RowKit Go.Shelf

structure Lf where
  b : Int
  c : Int
  a : Int
  d : Int
  deriving DecidableEq, Repr, Inhabited

def Lf.arr (f : Lf) : Array Value := #[.int .i64 f.b, .int .i64 f.c, .int .i64 f.a, .int .i64 f.d]

/-- One step of a history, on the lives so far. -/
def livP (i : Nat) (x : Sn) (m : List (Nm × Lf)) : Option (List (Nm × Lf)) :=
  if x.n.good then
    match look m x.n with
    | none => if x.k = 0 then some (put m x.n ⟨(i : Int) + 1, 0, 0, 0⟩) else none
    | some f =>
      if x.k = 1 ∨ x.k = 2 then (if f.c = 0 ∧ 0 ≤ x.b ∧ x.b < 32 then some m else none)
      else if x.k = 3 then (if f.c = 0 then some (put m x.n { f with c := (i : Int) + 1 }) else none)
      else if x.k = 4 then (if f.a = 0 ∧ (x.e ≠ 0 ∨ 0 < f.c) then some (put m x.n { f with a := (i : Int) + 1 }) else none)
      else if x.k = 5 then (if f.d = 0 ∧ 0 < f.c then some (put m x.n { f with d := (i : Int) + 1 }) else none)
      else none
  else none

def livesF : Nat → List Sn → List (Nm × Lf) → Option (List (Nm × Lf))
  | _, [], m => some m
  | i, x :: r, m => (livP i x m).bind (livesF (i + 1) r)

def livesP (l : List Sn) : Option (List (Nm × Lf)) := livesF 0 l []

/-- With the blocks in which the lives lie. -/
abbrev LM := List (Nm × (Nat × Lf))
def lfPtr (v : Nat × Lf) : Value := .pointer (some ⟨v.1, 0, none⟩)
def projL (m : LM) : List (Nm × Lf) := m.map fun p => (p.1, p.2.2)

theorem look_proj (m : LM) (n : Nm) : look (projL m) n = (look m n).map (·.2) := by
  induction m with
  | nil => rfl
  | cons p m ih =>
    unfold look projL at ih ⊢
    by_cases h : p.1 = n
    · simp [h]
    · simpa [h] using ih

theorem put_proj (m : LM) (n : Nm) (v : Nat × Lf) : put (projL m) n v.2 = projL (put m n v) := by
  induction m with
  | nil => rfl
  | cons p m ih =>
    unfold projL at ih ⊢
    simp only [List.map_cons, put]
    by_cases h : p.1 = n
    · simp [h]
    · simp [h, ih]

theorem mem_put {κ β : Type} [DecidableEq κ] {m : List (κ × β)} {k : κ} {v : β} {p : κ × β} (h : p ∈ put m k v) : p = (k, v) ∨ p ∈ m := by
  induction m with
  | nil => simp [put] at h; exact .inl h
  | cons q m ih =>
    simp only [put] at h
    split at h
    · rcases List.mem_cons.1 h with h | h
      · exact .inl h
      · exact .inr (by simp [h])
    · rcases List.mem_cons.1 h with h | h
      · exact .inr (by simp [h])
      · exact (ih h).imp id (fun h => by simp [h])

theorem look_mem {κ β : Type} [DecidableEq κ] {m : List (κ × β)} {k : κ} {v : β} (h : look m k = some v) : (k, v) ∈ m := by
  unfold look at h
  obtain ⟨p, hp, rfl⟩ := Option.map_eq_some_iff.1 h
  have h1 := List.find?_some hp
  have h2 := List.mem_of_find?_eq_some hp
  simp at h1
  rw [← h1]
  exact h2

/-- The map M holds the lives m; each lies in a block of its own. -/
structure LivesAt (base M : Nat) (W : World) (m : LM) : Prop where
  map : MapIs nmV lfPtr W M m
  at_ : ∀ p ∈ m, base ≤ p.2.1 ∧ W.heap[p.2.1]? = some (.cells p.2.2.arr 86 (0, 0))
  apart : m.Pairwise fun p q => p.2.1 ≠ q.2.1
  keys : m.Pairwise fun p q => p.1 ≠ q.1
  low : base ≤ M

theorem put_same_ptr {m : LM} {n : Nm} {b : Nat} {f f' : Lf} (h : look m n = some (b, f)) : (put m n (b, f')).map (fun p => (nmV p.1, lfPtr p.2)) = m.map (fun p => (nmV p.1, lfPtr p.2)) := by
  induction m with
  | nil => cases h
  | cons p m ih =>
    unfold look at h
    simp only [put]
    by_cases hp : p.1 = n
    · simp [hp] at h
      subst hp
      simp [lfPtr, h]
    · rw [if_neg hp]
      have : look m n = some (b, f) := by unfold look; simpa [hp] using h
      simp [ih this]

theorem put_keys {m : LM} {n : Nm} {v v' : Nat × Lf} (h : look m n = some v) : (put m n v').map (·.1) = m.map (·.1) := by
  induction m with
  | nil => cases h
  | cons p m ih =>
    unfold look at h
    simp only [put]
    by_cases hp : p.1 = n
    · simp [hp]
    · rw [if_neg hp]
      have : look m n = some v := by unfold look; simpa [hp] using h
      simp [ih this]

theorem put_blocks {m : LM} {n : Nm} {b : Nat} {f f' : Lf} (h : look m n = some (b, f)) : (put m n (b, f')).map (·.2.1) = m.map (·.2.1) := by
  induction m with
  | nil => cases h
  | cons p m ih =>
    unfold look at h
    simp only [put]
    by_cases hp : p.1 = n
    · simp [hp] at h
      simp [hp, h]
    · rw [if_neg hp]
      have : look m n = some (b, f) := by unfold look; simpa [hp] using h
      simp [ih this]

theorem put_new {m : LM} {n : Nm} {v : Nat × Lf} (h : look m n = none) : put m n v = m ++ [(n, v)] := by
  induction m with
  | nil => rfl
  | cons p m ih =>
    unfold look at h
    by_cases hp : p.1 = n
    · simp [hp] at h
    · have : look m n = none := by unfold look; simpa [hp] using h
      simp [put, hp, ih this]

theorem look_none_keys {m : LM} {n : Nm} (h : look m n = none) : ∀ p ∈ m, p.1 ≠ n := by
  intro p hp e
  unfold look at h
  simp only [Option.map_eq_none_iff, List.find?_eq_none] at h
  exact h p hp (by simp [e])

/-- In a list whose blocks are apart, whoever lies in b is the one. -/
theorem apart_one {m : LM} (h : m.Pairwise fun p q => p.2.1 ≠ q.2.1) {p q : Nm × (Nat × Lf)} (hp : p ∈ m) (hq : q ∈ m) (e : p.2.1 = q.2.1) : p = q := by
  induction m with
  | nil => cases hp
  | cons x m ih =>
    obtain ⟨h1, h2⟩ := List.pairwise_cons.1 h
    rcases List.mem_cons.1 hp with ep | kp <;> rcases List.mem_cons.1 hq with eq | kq
    · rw [ep, eq]
    · exact absurd (by rw [← ep]; exact e) (h1 q kq)
    · exact absurd (by rw [← eq]; exact e.symm) (h1 p kp)
    · exact ih h2 kp kq

theorem mem_put_other {m : LM} {n : Nm} {v : Nat × Lf} (hk : m.Pairwise fun p q => p.1 ≠ q.1) {p : Nm × (Nat × Lf)} (h : p ∈ put m n v) : p = (n, v) ∨ (p ∈ m ∧ p.1 ≠ n) := by
  induction m with
  | nil => simp [put] at h; exact .inl h
  | cons q m ih =>
    obtain ⟨h1, h2⟩ := List.pairwise_cons.1 hk
    simp only [put] at h
    split at h
    · rename_i hq
      rcases List.mem_cons.1 h with h | h
      · exact .inl h
      · exact .inr ⟨by simp [h], fun e => h1 p h (by rw [hq, e])⟩
    · rename_i hq
      rcases List.mem_cons.1 h with h | h
      · subst h; exact .inr ⟨by simp, hq⟩
      · exact (ih h2 h).imp id (fun h => ⟨by simp [h.1], h.2⟩)

/-- A life is turned. -/
theorem LivesAt.turn {base M : Nat} {W W' : World} {m : LM} (h : LivesAt base M W m) {n : Nm} {b : Nat} {f f' : Lf} (hl : look m n = some (b, f)) (hg : W.grownBy W' (some b)) (hb : W'.heap[b]? = some (.cells f'.arr 86 (0, 0))) :
    LivesAt base M W' (put m n (b, f')) := by
  have hmem := look_mem hl
  have hM : M ≠ b := by
    rintro rfl
    obtain ⟨es, c, h1, _⟩ := h.map
    have := (h.at_ _ hmem).2
    rw [h1] at this
    cases this
  refine ⟨?_, ?_, ?_, ?_, h.low⟩
  · obtain ⟨es, c, h1, h2, h3⟩ := h.map.kept (w' := W') (hg.block _ h.map.lt (fun e => hM (by cases e; rfl)))
    exact ⟨es, c, h1, by rw [h2]; exact (put_same_ptr hl).symm, h3⟩
  · intro p hp
    rcases mem_put_other h.keys hp with rfl | ⟨hp, hne⟩
    · exact ⟨(h.at_ _ hmem).1, hb⟩
    · refine ⟨(h.at_ p hp).1, cells_turn (h.at_ p hp).2 hg (fun e => hne ?_)⟩
      have := apart_one h.apart hp hmem e
      rw [this]
  · have := h.apart
    rw [← List.pairwise_map (f := fun p : Nm × (Nat × Lf) => p.2.1) (R := fun a b => a ≠ b)] at this ⊢
    rwa [put_blocks hl]
  · have := h.keys
    rw [← List.pairwise_map (f := fun p : Nm × (Nat × Lf) => p.1) (R := fun a b => a ≠ b)] at this ⊢
    rwa [put_keys hl]

/-- A new life: the block is laid, then the map is written. -/
theorem LivesAt.born {base M : Nat} {W W' : World} {m : LM} (h : LivesAt base M W m) {n : Nm} {f : Lf} (hl : look m n = none) (hbase : base ≤ W.heap.size) (hg : (W.alloc (.cells f.arr 86)).grownBy W' (some M))
    (hm : MapIs nmV lfPtr W' M (put m n (W.heap.size, f))) : LivesAt base M W' (put m n (W.heap.size, f)) := by
  have hM : M < W.heap.size := h.map.lt
  have hnew : W'.heap[W.heap.size]? = some (.cells f.arr 86 (0, 0)) := cells_turn (heap_alloc_new W _) hg (by omega)
  refine ⟨hm, ?_, ?_, ?_, h.low⟩
  · intro p hp
    rcases mem_put hp with rfl | hp
    · exact ⟨hbase, hnew⟩
    · refine ⟨(h.at_ p hp).1, cells_turn ((Below.heap_alloc W _ _ (lt_of_heap (h.at_ p hp).2)).trans (h.at_ p hp).2) hg (fun e => ?_)⟩
      obtain ⟨es, c, h1, _⟩ := h.map
      have := (h.at_ p hp).2
      rw [e, h1] at this
      cases this
  · rw [put_new hl, List.pairwise_append]
    refine ⟨h.apart, by simp, ?_⟩
    intro p hp q hq
    simp at hq
    subst hq
    have := lt_of_heap (h.at_ p hp).2
    simp
    omega
  · rw [put_new hl, List.pairwise_append]
    refine ⟨h.keys, by simp, ?_⟩
    intro p hp q hq
    simp at hq
    subst hq
    exact look_none_keys hl p hp

theorem LivesAt.kept {base M : Nat} {W W' : World} {m : LM} (h : LivesAt base M W m) (hb : ∀ k, base ≤ k → k < W.heap.size → W'.heap[k]? = W.heap[k]?) : LivesAt base M W' m :=
  ⟨h.map.kept (hb _ h.low h.map.lt), fun p hp => ⟨(h.at_ p hp).1, (hb _ (h.at_ p hp).1 (lt_of_heap (h.at_ p hp).2)).trans (h.at_ p hp).2⟩, h.apart, h.keys, h.low⟩

/-- 'once': a place that is set for the first time. -/
theorem once_any (B o : Nat) (v i : Int) (w : World) (hc : w.cell? ⟨B, o, none⟩ = some (.int .i64 v)) (hf : w.frozen? ⟨B, o, none⟩ = false) :
    Calls Try.prog 68 #[.pointer (some ⟨B, o, none⟩), .int .i64 i] w fun e w' => e = .returned (.bool (v == 0)) ∧ w' = w.setCell ⟨B, o, none⟩ (.int .i64 (wrap64 (i + 1))) := by
  go_enter Try.func68, Try.ntmps68
  go_wp2
  go_ret
  exact ⟨rfl, rfl⟩

end Go.Proofs.Ytgdmgeihgkbjaaa
/- 'order.lives' -/
namespace Go.Proofs.Ytgdmgeihgkbjaaa
open Go.RowKit Go.Shelf
attribute [local go_sem] run_makeMap_plain

theorem zero84 (w : World) : (zeroValue 84).run Try.prog w = .ok (.pointer none) w := by
  simp [go_sem]

/-- What lives hands back. -/
def LivesR (base : Nat) (l : List Sn) (e : Ending) (W : World) : Prop :=
  (livesP l = none ∧ e = .returned (.tuple #[.map none, .bool false])) ∨ ∃ M m, livesP l = some (projL m) ∧ e = .returned (.tuple #[.map (some M), .bool true]) ∧ LivesAt base M W m

theorem setCell_heap {W : World} {B j : Nat} {cs : Array Value} {t : TypeId} {fr : Nat × Nat} (h : W.heap[B]? = some (.cells cs t fr)) (v : Value) : (W.setCell ⟨B, j, none⟩ v).heap[B]? = some (.cells (cs.setIfInBounds j v) t fr) := by
  obtain ⟨hlt, hk⟩ := Array.getElem?_eq_some_iff.1 h
  show (W.heap.modify B _)[B]? = _
  rw [Array.getElem?_eq_getElem (by rw [Array.size_modify]; exact hlt), Array.getElem_modify_self, hk]
  rfl

theorem grownBy_setCellJ (W : World) (b j : Nat) (v : Value) : W.grownBy (W.setCell ⟨b, j, none⟩ v) (some b) :=
  ⟨rfl, rfl, rfl, (KeepsWalks.setCell W _ v).size, fun k _ hk => Below.heap_setCell _ _ _ k (fun e => hk (by rw [e]))⟩

theorem grown_cell {W W' : World} {b k j : Nat} (h : W.grownBy W' (some b)) (hk : k < W.heap.size) (hne : k ≠ b) : W'.cell? ⟨k, j, none⟩ = W.cell? ⟨k, j, none⟩ := by
  have e := h.block k hk (fun e => hne (by cases e; rfl))
  unfold World.cell?
  rw [e]

/-- 'once' on a place of a life: set for the first time. -/
theorem once_yes (B o : Nat) (cs : Array Value) (i : Int) (w : World) (hb : w.heap[B]? = some (.cells cs 86 (0, 0))) (hc : cs[o]? = some (.int .i64 0)) (hi : wrap64 (i + 1) = i + 1) :
    Calls Try.prog 68 #[.pointer (some ⟨B, o, none⟩), .int .i64 i] w fun e w' => e = .returned (.bool true) ∧ w.grownBy w' (some B) ∧ w'.heap[B]? = some (.cells (cs.setIfInBounds o (.int .i64 (i + 1))) 86 (0, 0)) :=
  (once_any B o 0 i w (by rw [cell_of_row w B _ _ 86 (0, 0) hb]; exact hc) (by simp [World.frozen?, hb])).mono fun e w' ⟨he, hw⟩ => ⟨he, by rw [hw]; exact grownBy_setCellJ _ _ _ _, by rw [hw, hi]; exact setCell_heap hb _⟩

/-- 'once', not for the first time. -/
theorem once_no (B o : Nat) (cs : Array Value) (v i : Int) (w : World) (hb : w.heap[B]? = some (.cells cs 86 (0, 0))) (hc : cs[o]? = some (.int .i64 v)) (hv : v ≠ 0) :
    Calls Try.prog 68 #[.pointer (some ⟨B, o, none⟩), .int .i64 i] w fun e w' => e = .returned (.bool false) ∧ w.grownBy w' (some B) :=
  (once_any B o v i w (by rw [cell_of_row w B _ _ 86 (0, 0) hb]; exact hc) (by simp [World.frozen?, hb])).mono fun e w' ⟨he, hw⟩ => ⟨by rw [he]; simp [hv], by rw [hw]; exact grownBy_setCellJ _ _ _ _⟩

set_option maxRecDepth 100000 in
set_option maxHeartbeats 2000000 in
theorem lives_any (l : List Sn) (v : Value) (w : World) (hl : l.length ≤ 100000) (hv : Sns w.heap.size w v l) :
    Calls Try.prog 51 #[v] w fun e w' => LivesR w.heap.size l e w' ∧ Below w.heap.size w w' := by
  obtain ⟨a, cap, rfl, hn, ha⟩ := hv
  have hM0 : LivesAt w.heap.size w.heap.size (w.alloc (.map #[] 0)) [] := ⟨MapIs.new w, by simp, by simp, by simp, Nat.le_refl _⟩
  have hb0 := below_alloc1 (w := w) (.map #[] 0)
  have HN := Lib.hid hn
  have HA := Lib.hid ha
  clear hn ha
  go_enter Try.func51, Try.ntmps51
  go_wp2_with fail
  go_loopw [2, 12] (fun mo i wr => ∃ (q M : Nat) (m : LM), q ≤ l.length ∧ mo = .map (some M) ∧ i = .int .i64 q ∧ livesP l = livesF q (l.drop q) (projL m) ∧ LivesAt w.heap.size M wr m ∧ Below w.heap.size w wr) (fun _ i _ => l.length - (intOf i).toNat)
  case atStart => exact ⟨0, w.heap.size, [], Nat.zero_le _, rfl, rfl, rfl, hM0, hb0⟩
  case round =>
    obtain ⟨q, M, m, hq, rfl, rfl, hF, hL, hB⟩ := hrel
    have HF := Lib.hid hF
    have HL := Lib.hid hL
    have HB := Lib.hid hB
    clear hF hL hB hM0 hb0
    by_cases hlt : q < l.length
    · obtain ⟨x, hx⟩ : ∃ x, l[q]? = some x := ⟨_, List.getElem?_eq_getElem hlt⟩
      obtain ⟨b, off, rfl, hb, hr⟩ := rows_some HN.out HA.out hlt
      obtain ⟨c0, c1, c2, c3, c4, c5, c6, c7, c8, c9, c10, c11, c12, c13⟩ := (hr.below hb HB.out).sn hx
      have hstep : livesP l = (livP q x (projL m)).bind (livesF (q + 1) (l.drop (q + 1))) := by rw [HF.out, drop_cons hx]; rfl
      have HS := Lib.hid hstep
      have HLT := Lib.hid hlt
      clear hr hx hstep hlt
      obtain ⟨W1, hW1⟩ : ∃ W1, wr.alloc (.cells (snArr x) 36) = W1 := ⟨_, rfl⟩
      have b1 : Below wr.heap.size wr W1 := hW1 ▸ below_alloc1 _
      have x1 : W1.heap[wr.heap.size]? = some (.cells (snArr x) 36 (0, 0)) := hW1 ▸ heap_alloc_new _ _
      have hW1' : wr.alloc (.cells #[.int .i8 x.k, .int .i64 x.n.s, .int .i64 x.n.i, .int .i64 x.n.t, .int .i64 x.b, .int .u8 x.v.a, .int .u8 x.v.b, .int .u8 x.v.c, .int .u8 x.v.d, .int .u8 x.v.e, .int .u8 x.v.f, .int .u8 x.v.g, .int .u8 x.v.h, .int .i64 x.e] 36) = W1 := hW1
      have HW1 := Lib.hid hW1'
      have B1 := Lib.hid b1
      have X1 := Lib.hid x1
      clear hW1 hW1' b1 x1
      go_wp2_with fail
      rw [HW1.out]
      refine (named_any x.n.s x.n.i x.n.t W1).mono ?_
      rintro e w2 ⟨rfl, b2⟩
      have bw : Below wr.heap.size wr w2 := B1.out.trans (b2.mono B1.out.size)
      have L2 : LivesAt w.heap.size M w2 m := HL.out.kept (fun k _ hk => bw.block k hk)
      have x2 := (b2.block _ (lt_of_heap X1.out)).trans X1.out
      have B2 := Lib.hid (HB.out.trans (bw.mono HB.out.size))
      have HL2 := Lib.hid L2
      obtain ⟨d0, d1, d2, d3, d4, d5, d6, d7, d8, d9, d10, d11, d12, d13⟩ := snArr_at x2
      have X2 := Lib.hid x2
      clear b2 bw L2 x2 HL HB HW1 B1 X1
      generalize hgd : Nm.good ⟨x.n.s, x.n.i, x.n.t⟩ = gd
      have hgd' : x.n.good = gd := hgd
      have HG := Lib.hid hgd'
      clear hgd hgd'
      cases gd
      · have hno : livesP l = none := by rw [HS.out, livP, HG.out]; rfl
        have HNO := Lib.hid hno
        clear hno
        go_wp2_with fail
        go_ret2
        exact ⟨.inl ⟨HNO.out, rfl⟩, B2.out⟩
      · have hlp := look_proj m x.n
        cases hlk : look m x.n with
        | none =>
          rw [hlk] at hlp
          have hz : (((look m x.n).map lfPtr).getD (.pointer none)) = .pointer none := by rw [hlk]; rfl
          have HLP := Lib.hid hlp
          have HLK := Lib.hid hlk
          clear hlp hlk
          by_cases hk : x.k = 0
          · have e1 : (x.k != 0) = false := by simp [hk]
            have HP : Hid (livP q x (projL m) = some (put (projL m) x.n ⟨(q : Int) + 1, 0, 0, 0⟩)) := by
              show _ = _
              unfold livP; rw [if_pos HG.out, HLP.out]; simp [hk]
            clear hk
            go_wp2_with (first | (refine wpList_look Try.underlying81 nmKey zero84 HL2.out.map rfl (.tmp 21) (.tmp 23) rfl rfl x.n rfl ?_; rw [hz]) | (refine wpList_put (venc := lfPtr) Try.underlying81 nmKey (HL2.out.map.kept (Below.heap_alloc _ _ _ HL2.out.map.lt)) rfl (.tmp 30) (.tmp 32) (.tmp 36) rfl rfl x.n rfl (w2.heap.size, ⟨(q : Int) + 1, 0, 0, 0⟩) rfl ?_; intro w3 hg3 hm3))
            go_roundw
            case rel => exact ⟨q + 1, M, put m x.n (w2.heap.size, ⟨(q : Int) + 1, 0, 0, 0⟩), by have := HLT.out; omega, rfl, by go_num, by rw [HS.out, HP.out, put_proj m x.n (w2.heap.size, ⟨(q : Int) + 1, 0, 0, 0⟩)]; rfl, HL2.out.born HLK.out B2.out.size hg3 hm3, (B2.out.alloc B2.out.size _).grown hg3 (by have := B2.out.size; simp; omega) (fun k e => by cases e; exact HL2.out.low)⟩
            case measure => have := HLT.out; simp [intOf]; omega
          · have e1 : (x.k != 0) = true := by simp [hk]
            have hno : livesP l = none := by rw [HS.out, livP, HG.out, HLP.out]; simp [hk]
            have HNO := Lib.hid hno
            clear hno hk
            go_wp2_with (first | (refine wpList_look Try.underlying81 nmKey zero84 HL2.out.map rfl (.tmp 21) (.tmp 23) rfl rfl x.n rfl ?_; rw [hz]))
            go_ret2
            exact ⟨.inl ⟨HNO.out, rfl⟩, B2.out⟩
        | some bf =>
          obtain ⟨bb, f⟩ := bf
          rw [hlk] at hlp
          have hz : (((look m x.n).map lfPtr).getD (.pointer none)) = .pointer (some ⟨bb, 0, none⟩) := by rw [hlk]; rfl
          obtain ⟨hbb, hfb⟩ := HL2.out.at_ _ (look_mem hlk)
          have f0 : w2.cell? ⟨bb, 0, none⟩ = some (.int .i64 f.b) := by rw [cell_of_row w2 bb _ _ 86 (0, 0) hfb]; rfl
          have f1 : w2.cell? ⟨bb, 1, none⟩ = some (.int .i64 f.c) := by rw [cell_of_row w2 bb _ _ 86 (0, 0) hfb]; rfl
          have f2 : w2.cell? ⟨bb, 2, none⟩ = some (.int .i64 f.a) := by rw [cell_of_row w2 bb _ _ 86 (0, 0) hfb]; rfl
          have f3 : w2.cell? ⟨bb, 3, none⟩ = some (.int .i64 f.d) := by rw [cell_of_row w2 bb _ _ 86 (0, 0) hfb]; rfl
          have hfz : ∀ j, w2.frozen? ⟨bb, j, none⟩ = false := fun j => by simp [World.frozen?, hfb]
          have HLP := Lib.hid hlp
          have HLK := Lib.hid hlk
          have HFB := Lib.hid hfb
          have HFZ := Lib.hid hfz
          clear hlp hlk hfb hfz
          have HBB := Lib.hid hbb
          have HNE : Hid (wr.heap.size ≠ bb) := by
            show _ ≠ _
            intro e
            have h1 := HFB.out
            rw [← e, X2.out] at h1
            have h2 := congrArg (fun o => match o with | some (Obj.cells c _ _) => c.size | _ => 0) h1
            simp [snArr, Lf.arr] at h2
          clear hbb
          by_cases hk12 : x.k = 1 ∨ x.k = 2
          · by_cases hc : f.c = 0 ∧ 0 ≤ x.b ∧ x.b < 32
            · have hP : livP q x (projL m) = some (projL m) := by unfold livP; rw [if_pos HG.out, HLP.out]; simp only [Option.map_some]; rw [if_pos hk12, if_pos hc]
              have HP := Lib.hid hP
              obtain ⟨hc1, hc2, hc3⟩ := hc
              have e0 : (f.c == 0) = true := by simp [hc1]
              clear hP hc1
              by_cases hk1 : x.k = 1
              · have e1 : (x.k == 1) = true := by simp [hk1]
                clear hk12 hk1
                go_wp2_with (refine wpList_look Try.underlying81 nmKey zero84 HL2.out.map rfl (.tmp 21) (.tmp 23) rfl rfl x.n rfl ?_; rw [hz])
                go_roundw
                case rel => exact ⟨q + 1, M, m, by have := HLT.out; omega, rfl, by go_num, by rw [HS.out, HP.out]; rfl, HL2.out, B2.out⟩
                case measure => have := HLT.out; simp [intOf]; omega
              · have e1 : (x.k == 1) = false := by simp [hk1]
                have e2 : (x.k == 2) = true := by simp; omega
                clear hk12 hk1
                go_wp2_with (refine wpList_look Try.underlying81 nmKey zero84 HL2.out.map rfl (.tmp 21) (.tmp 23) rfl rfl x.n rfl ?_; rw [hz])
                go_roundw
                case rel => exact ⟨q + 1, M, m, by have := HLT.out; omega, rfl, by go_num, by rw [HS.out, HP.out]; rfl, HL2.out, B2.out⟩
                case measure => have := HLT.out; simp [intOf]; omega
            · have hno : livesP l = none := by
                rw [HS.out]
                have : livP q x (projL m) = none := by unfold livP; rw [if_pos HG.out, HLP.out]; simp only [Option.map_some]; rw [if_pos hk12, if_neg hc]
                rw [this]; rfl
              have HNO := Lib.hid hno
              clear hno
              have h3 : f.c ≠ 0 ∨ (f.c = 0 ∧ x.b < 0) ∨ (f.c = 0 ∧ 0 ≤ x.b ∧ 32 ≤ x.b) := by omega
              have hk2 : (x.k == 1) = true ∨ ((x.k == 1) = false ∧ (x.k == 2) = true) := by simp; omega
              have HK2 := Lib.hid hk2
              clear hc hk12 hk2
              rcases h3 with h3 | ⟨h3, h4⟩ | ⟨h3, h4, h5⟩
              · have e0 : (f.c == 0) = false := by simp [h3]
                clear h3
                rcases HK2.out with e1 | ⟨e1, e2⟩
                all_goals
                  go_wp2_with (refine wpList_look Try.underlying81 nmKey zero84 HL2.out.map rfl (.tmp 21) (.tmp 23) rfl rfl x.n rfl ?_; rw [hz])
                  go_ret2
                  exact ⟨.inl ⟨HNO.out, rfl⟩, B2.out⟩
              · have e0 : (f.c == 0) = true := by simp [h3]
                clear h3
                rcases HK2.out with e1 | ⟨e1, e2⟩
                all_goals
                  go_wp2_with (refine wpList_look Try.underlying81 nmKey zero84 HL2.out.map rfl (.tmp 21) (.tmp 23) rfl rfl x.n rfl ?_; rw [hz])
                  go_ret2
                  exact ⟨.inl ⟨HNO.out, rfl⟩, B2.out⟩
              · have e0 : (f.c == 0) = true := by simp [h3]
                have e9 : decide (x.b < 32) = false := by simp; omega
                clear h3 h5
                rcases HK2.out with e1 | ⟨e1, e2⟩
                all_goals
                  go_wp2_with (refine wpList_look Try.underlying81 nmKey zero84 HL2.out.map rfl (.tmp 21) (.tmp 23) rfl rfl x.n rfl ?_; rw [hz])
                  go_ret2
                  exact ⟨.inl ⟨HNO.out, rfl⟩, B2.out⟩
          · have e1 : (x.k == 1) = false := by simp; omega
            have e2 : (x.k == 2) = false := by simp; omega
            have hwq : wrap64 ((q : Int) + 1) = (q : Int) + 1 := by have := HLT.out; unfold wrap64; omega
            have HWQ := Lib.hid hwq
            have hP0 : livP q x (projL m) = (if x.k = 3 then (if f.c = 0 then some (put (projL m) x.n { f with c := (q : Int) + 1 }) else none)
                else if x.k = 4 then (if f.a = 0 ∧ (x.e ≠ 0 ∨ 0 < f.c) then some (put (projL m) x.n { f with a := (q : Int) + 1 }) else none)
                else if x.k = 5 then (if f.d = 0 ∧ 0 < f.c then some (put (projL m) x.n { f with d := (q : Int) + 1 }) else none) else none) := by
              unfold livP; rw [if_pos HG.out, HLP.out]; simp only [Option.map_some]; rw [if_neg hk12]
            have HP0 := Lib.hid hP0
            clear hk12 hwq hP0
            by_cases hk3 : x.k = 3
            · have e3 : (x.k == 3) = true := by simp [hk3]
              have HK3 := Lib.hid hk3
              clear hk3
              by_cases hc : f.c = 0
              · have HP : Hid (livP q x (projL m) = some (put (projL m) x.n { f with c := (q : Int) + 1 })) := by show _ = _; rw [HP0.out, if_pos HK3.out, if_pos hc]
                have HC := Lib.hid hc
                clear hc
                go_wp2_with (refine wpList_look Try.underlying81 nmKey zero84 HL2.out.map rfl (.tmp 21) (.tmp 23) rfl rfl x.n rfl ?_; rw [hz])
                refine (once_yes bb 1 f.arr q w2 HFB.out (by rw [← HC.out]; rfl) HWQ.out).mono ?_
                rintro e w3 ⟨rfl, hg3, hb3⟩
                have hL3 := HL2.out.turn (f' := { f with c := (q : Int) + 1 }) HLK.out hg3 hb3
                have HB3 : Hid (Below w.heap.size w w3) := B2.out.grown hg3 B2.out.size (fun k e => by cases e; exact HBB.out)
                have HL3 := Lib.hid hL3
                clear hL3 hg3 hb3
                go_wp2_with fail
                go_roundw
                case rel => exact ⟨q + 1, M, put m x.n (bb, { f with c := (q : Int) + 1 }), by have := HLT.out; omega, rfl, by go_num, by rw [HS.out, HP.out, put_proj m x.n (bb, { f with c := (q : Int) + 1 })]; rfl, HL3.out, HB3.out⟩
                case measure => have := HLT.out; simp [intOf]; omega
              · have HNO : Hid (livesP l = none) := by show _ = _; rw [HS.out, HP0.out, if_pos HK3.out, if_neg hc]; rfl
                have HC := Lib.hid hc
                clear hc
                go_wp2_with (refine wpList_look Try.underlying81 nmKey zero84 HL2.out.map rfl (.tmp 21) (.tmp 23) rfl rfl x.n rfl ?_; rw [hz])
                refine (once_no bb 1 f.arr f.c q w2 HFB.out rfl HC.out).mono ?_
                rintro e w3 ⟨rfl, hg3⟩
                have HB3 : Hid (Below w.heap.size w w3) := B2.out.grown hg3 B2.out.size (fun k e => by cases e; exact HBB.out)
                clear hg3
                go_wp2_with fail
                go_ret2
                exact ⟨.inl ⟨HNO.out, rfl⟩, HB3.out⟩
            · have e3 : (x.k == 3) = false := by simp [hk3]
              have hP1 : livP q x (projL m) = (if x.k = 4 then (if f.a = 0 ∧ (x.e ≠ 0 ∨ 0 < f.c) then some (put (projL m) x.n { f with a := (q : Int) + 1 }) else none)
                else if x.k = 5 then (if f.d = 0 ∧ 0 < f.c then some (put (projL m) x.n { f with d := (q : Int) + 1 }) else none) else none) := by rw [HP0.out, if_neg hk3]
              have HP1 := Lib.hid hP1
              clear hk3 hP1 HP0
              by_cases hk4 : x.k = 4
              · have e4 : (x.k == 4) = true := by simp [hk4]
                have HK4 := Lib.hid hk4
                clear hk4
                by_cases hc : f.a = 0
                · have HC := Lib.hid hc
                  clear hc
                  have fin : x.e ≠ 0 ∨ 0 < f.c → Hid (livP q x (projL m) = some (put (projL m) x.n { f with a := (q : Int) + 1 })) := fun h => by show _ = _; rw [HP1.out, if_pos HK4.out, if_pos ⟨HC.out, h⟩]
                  have fin2 : ¬ (x.e ≠ 0 ∨ 0 < f.c) → Hid (livesP l = none) := fun h => by show _ = _; rw [HS.out, HP1.out, if_pos HK4.out, if_neg (fun h' => h h'.2)]; rfl
                  have FIN := Lib.hid fin
                  have FIN2 := Lib.hid fin2
                  clear fin fin2
                  have h3 : x.e ≠ 0 ∨ (x.e = 0 ∧ 0 < f.c) ∨ (x.e = 0 ∧ f.c ≤ 0) := by omega
                  rcases h3 with h3 | ⟨h3, h4⟩ | ⟨h3, h4⟩
                  · have HP := FIN.out (.inl h3)
                    have e5 : (x.e != 0) = true := by simp [h3]
                    clear h3
                    go_wp2_with (refine wpList_look Try.underlying81 nmKey zero84 HL2.out.map rfl (.tmp 21) (.tmp 23) rfl rfl x.n rfl ?_; rw [hz])
                    refine (once_yes bb 2 f.arr q w2 HFB.out (by rw [← HC.out]; rfl) HWQ.out).mono ?_
                    rintro e w3 ⟨rfl, hg3, hb3⟩
                    have hL3 := HL2.out.turn (f' := { f with a := (q : Int) + 1 }) HLK.out hg3 hb3
                    have HB3 : Hid (Below w.heap.size w w3) := B2.out.grown hg3 B2.out.size (fun k e => by cases e; exact HBB.out)
                    have HL3 := Lib.hid hL3
                    have d13' : w3.cell? ⟨wr.heap.size, 13, none⟩ = some (.int .i64 x.e) := (grown_cell hg3 (lt_of_heap X2.out) (HNE.out)).trans d13
                    clear hL3 hg3 hb3
                    go_wp2_with fail
                    go_roundw
                    case rel => exact ⟨q + 1, M, put m x.n (bb, { f with a := (q : Int) + 1 }), by have := HLT.out; omega, rfl, by go_num, by rw [HS.out, HP.out, put_proj m x.n (bb, { f with a := (q : Int) + 1 })]; rfl, HL3.out, HB3.out⟩
                    case measure => have := HLT.out; simp [intOf]; omega
                  · have HP := FIN.out (.inr h4)
                    have e5 : (x.e != 0) = false := by simp [h3]
                    have e6 : decide (f.c > 0) = true := by simpa using h4
                    clear h3
                    go_wp2_with (refine wpList_look Try.underlying81 nmKey zero84 HL2.out.map rfl (.tmp 21) (.tmp 23) rfl rfl x.n rfl ?_; rw [hz])
                    refine (once_yes bb 2 f.arr q w2 HFB.out (by rw [← HC.out]; rfl) HWQ.out).mono ?_
                    rintro e w3 ⟨rfl, hg3, hb3⟩
                    have hL3 := HL2.out.turn (f' := { f with a := (q : Int) + 1 }) HLK.out hg3 hb3
                    have HB3 : Hid (Below w.heap.size w w3) := B2.out.grown hg3 B2.out.size (fun k e => by cases e; exact HBB.out)
                    have HL3 := Lib.hid hL3
                    have d13' : w3.cell? ⟨wr.heap.size, 13, none⟩ = some (.int .i64 x.e) := (grown_cell hg3 (lt_of_heap X2.out) (HNE.out)).trans d13
                    have f1' : w3.cell? ⟨bb, 1, none⟩ = some (.int .i64 f.c) := by rw [cell_of_row w3 bb _ _ 86 (0, 0) hb3]; rfl
                    clear hL3 hg3 hb3
                    go_wp2_with fail
                    go_roundw
                    case rel => exact ⟨q + 1, M, put m x.n (bb, { f with a := (q : Int) + 1 }), by have := HLT.out; omega, rfl, by go_num, by rw [HS.out, HP.out, put_proj m x.n (bb, { f with a := (q : Int) + 1 })]; rfl, HL3.out, HB3.out⟩
                    case measure => have := HLT.out; simp [intOf]; omega
                  · have HNO := FIN2.out (by omega)
                    have e5 : (x.e != 0) = false := by simp [h3]
                    have e6 : decide (f.c > 0) = false := by simpa using h4
                    clear h3
                    go_wp2_with (refine wpList_look Try.underlying81 nmKey zero84 HL2.out.map rfl (.tmp 21) (.tmp 23) rfl rfl x.n rfl ?_; rw [hz])
                    refine (once_yes bb 2 f.arr q w2 HFB.out (by rw [← HC.out]; rfl) HWQ.out).mono ?_
                    rintro e w3 ⟨rfl, hg3, hb3⟩
                    have HB3 : Hid (Below w.heap.size w w3) := B2.out.grown hg3 B2.out.size (fun k e => by cases e; exact HBB.out)
                    have d13' : w3.cell? ⟨wr.heap.size, 13, none⟩ = some (.int .i64 x.e) := (grown_cell hg3 (lt_of_heap X2.out) (HNE.out)).trans d13
                    have f1' : w3.cell? ⟨bb, 1, none⟩ = some (.int .i64 f.c) := by rw [cell_of_row w3 bb _ _ 86 (0, 0) hb3]; rfl
                    clear hg3 hb3
                    go_wp2_with fail
                    go_ret2
                    exact ⟨.inl ⟨HNO.out, rfl⟩, HB3.out⟩
                · have HNO : Hid (livesP l = none) := by show _ = _; rw [HS.out, HP1.out, if_pos HK4.out, if_neg (fun h => hc h.1)]; rfl
                  have HC := Lib.hid hc
                  clear hc
                  go_wp2_with (refine wpList_look Try.underlying81 nmKey zero84 HL2.out.map rfl (.tmp 21) (.tmp 23) rfl rfl x.n rfl ?_; rw [hz])
                  refine (once_no bb 2 f.arr f.a q w2 HFB.out rfl HC.out).mono ?_
                  rintro e w3 ⟨rfl, hg3⟩
                  have HB3 : Hid (Below w.heap.size w w3) := B2.out.grown hg3 B2.out.size (fun k e => by cases e; exact HBB.out)
                  clear hg3
                  go_wp2_with fail
                  go_ret2
                  exact ⟨.inl ⟨HNO.out, rfl⟩, HB3.out⟩
              · have e4 : (x.k == 4) = false := by simp [hk4]
                have hP2 : livP q x (projL m) = (if x.k = 5 then (if f.d = 0 ∧ 0 < f.c then some (put (projL m) x.n { f with d := (q : Int) + 1 }) else none) else none) := by rw [HP1.out, if_neg hk4]
                have HP2 := Lib.hid hP2
                clear hk4 hP2 HP1
                by_cases hk5 : x.k = 5
                · have e5 : (x.k == 5) = true := by simp [hk5]
                  have HK5 := Lib.hid hk5
                  clear hk5
                  by_cases hc : f.d = 0
                  · have HC := Lib.hid hc
                    clear hc
                    by_cases h4 : 0 < f.c
                    · have HP : Hid (livP q x (projL m) = some (put (projL m) x.n { f with d := (q : Int) + 1 })) := by show _ = _; rw [HP2.out, if_pos HK5.out, if_pos ⟨HC.out, h4⟩]
                      have e6 : decide (f.c > 0) = true := by simpa using h4
                      go_wp2_with (refine wpList_look Try.underlying81 nmKey zero84 HL2.out.map rfl (.tmp 21) (.tmp 23) rfl rfl x.n rfl ?_; rw [hz])
                      refine (once_yes bb 3 f.arr q w2 HFB.out (by rw [← HC.out]; rfl) HWQ.out).mono ?_
                      rintro e w3 ⟨rfl, hg3, hb3⟩
                      have hL3 := HL2.out.turn (f' := { f with d := (q : Int) + 1 }) HLK.out hg3 hb3
                      have HB3 : Hid (Below w.heap.size w w3) := B2.out.grown hg3 B2.out.size (fun k e => by cases e; exact HBB.out)
                      have HL3 := Lib.hid hL3
                      have f1' : w3.cell? ⟨bb, 1, none⟩ = some (.int .i64 f.c) := by rw [cell_of_row w3 bb _ _ 86 (0, 0) hb3]; rfl
                      clear hL3 hg3 hb3
                      go_wp2_with fail
                      go_roundw
                      case rel => exact ⟨q + 1, M, put m x.n (bb, { f with d := (q : Int) + 1 }), by have := HLT.out; omega, rfl, by go_num, by rw [HS.out, HP.out, put_proj m x.n (bb, { f with d := (q : Int) + 1 })]; rfl, HL3.out, HB3.out⟩
                      case measure => have := HLT.out; simp [intOf]; omega
                    · have HNO : Hid (livesP l = none) := by show _ = _; rw [HS.out, HP2.out, if_pos HK5.out, if_neg (fun h => h4 h.2)]; rfl
                      have e6 : decide (f.c > 0) = false := by simpa using h4
                      have h4' : f.c ≤ 0 := by omega
                      clear h4
                      go_wp2_with (refine wpList_look Try.underlying81 nmKey zero84 HL2.out.map rfl (.tmp 21) (.tmp 23) rfl rfl x.n rfl ?_; rw [hz])
                      refine (once_yes bb 3 f.arr q w2 HFB.out (by rw [← HC.out]; rfl) HWQ.out).mono ?_
                      rintro e w3 ⟨rfl, hg3, hb3⟩
                      have HB3 : Hid (Below w.heap.size w w3) := B2.out.grown hg3 B2.out.size (fun k e => by cases e; exact HBB.out)
                      have f1' : w3.cell? ⟨bb, 1, none⟩ = some (.int .i64 f.c) := by rw [cell_of_row w3 bb _ _ 86 (0, 0) hb3]; rfl
                      clear hg3 hb3
                      go_wp2_with fail
                      go_ret2
                      exact ⟨.inl ⟨HNO.out, rfl⟩, HB3.out⟩
                  · have HNO : Hid (livesP l = none) := by show _ = _; rw [HS.out, HP2.out, if_pos HK5.out, if_neg (fun h => hc h.1)]; rfl
                    have HC := Lib.hid hc
                    clear hc
                    go_wp2_with (refine wpList_look Try.underlying81 nmKey zero84 HL2.out.map rfl (.tmp 21) (.tmp 23) rfl rfl x.n rfl ?_; rw [hz])
                    refine (once_no bb 3 f.arr f.d q w2 HFB.out rfl HC.out).mono ?_
                    rintro e w3 ⟨rfl, hg3⟩
                    have HB3 : Hid (Below w.heap.size w w3) := B2.out.grown hg3 B2.out.size (fun k e => by cases e; exact HBB.out)
                    clear hg3
                    go_wp2_with fail
                    go_ret2
                    exact ⟨.inl ⟨HNO.out, rfl⟩, HB3.out⟩
                · have e5 : (x.k == 5) = false := by simp [hk5]
                  have HNO : Hid (livesP l = none) := by show _ = _; rw [HS.out, HP2.out, if_neg hk5]; rfl
                  clear hk5
                  go_wp2_with (refine wpList_look Try.underlying81 nmKey zero84 HL2.out.map rfl (.tmp 21) (.tmp 23) rfl rfl x.n rfl ?_; rw [hz])
                  go_ret2
                  exact ⟨.inl ⟨HNO.out, rfl⟩, B2.out⟩
    · go_wp2_with fail
      go_ret2
      exact ⟨.inr ⟨M, m, by rw [HF.out, drop_end hlt]; rfl, rfl, HL.out⟩, HB.out⟩

end Go.Proofs.Ytgdmgeihgkbjaaa
/- 'slices.SortFunc' laid at names, and the closure that 'order.Order' hands it -/
namespace Go.Proofs.Ytgdmgeihgkbjaaa
open Go.Shelf Go.RowKit Go.Lib Go.Sort

def sortNm_ren : Go.Shelf.Ren := ⟨fun | 6 => 52 | 15 => 71 | 14 => 70 | 28 => 88 | 29 => 89 | 20 => 80 | 21 => 81 | 22 => 82 | 23 => 83 | 24 => 84 | 25 => 85 | 26 => 86 | 27 => 87 | 46 => 91 | 47 => 92 | 48 => 93 | 49 => 94 | 50 => 95 | 57 => 96 | n => n, fun | 22 => 45 | 24 => 34 | 25 => 89 | 3 => 3 | 39 => 114 | 0 => 0 | 53 => 140 | 55 => 142 | 4 => 4 | 46 => 133 | 45 => 132 | 50 => 137 | 5 => 5 | 9 => 9 | 66 => 147 | 70 => 110 | 76 => 152 | 77 => 153 | n => n, fun | n => n⟩
theorem sortNm : Go.Proofs.SlLaysF0.n6 Try.prog sortNm_ren := {
  mixed := by kernel_rfl
  f6 := ⟨Try.f52.name, by decide, Try.func52.trans (congrArg some (by kernel_rfl))⟩
  f14 := ⟨Try.f70.name, by decide, Try.func70.trans (congrArg some (by kernel_rfl))⟩
  f15 := Try.func71.trans (congrArg some (by kernel_rfl))
  f20 := ⟨Try.f80.name, by decide, Try.func80.trans (congrArg some (by kernel_rfl))⟩
  f21 := ⟨Try.f81.name, by decide, Try.func81.trans (congrArg some (by kernel_rfl))⟩
  f22 := ⟨Try.f82.name, by decide, Try.func82.trans (congrArg some (by kernel_rfl))⟩
  f23 := ⟨Try.f83.name, by decide, Try.func83.trans (congrArg some (by kernel_rfl))⟩
  f24 := ⟨Try.f84.name, by decide, Try.func84.trans (congrArg some (by kernel_rfl))⟩
  f25 := ⟨Try.f85.name, by decide, Try.func85.trans (congrArg some (by kernel_rfl))⟩
  f26 := ⟨Try.f86.name, by decide, Try.func86.trans (congrArg some (by kernel_rfl))⟩
  f27 := ⟨Try.f87.name, by decide, Try.func87.trans (congrArg some (by kernel_rfl))⟩
  f28 := Try.func88.trans (congrArg some (by kernel_rfl))
  f29 := Try.func89.trans (congrArg some (by kernel_rfl))
  f46 := ⟨Try.f91.name, by decide, Try.func91.trans (congrArg some (by kernel_rfl))⟩
  f47 := Try.func92.trans (congrArg some (by kernel_rfl))
  f48 := Try.func93.trans (congrArg some (by kernel_rfl))
  f49 := ⟨Try.f94.name, by decide, Try.func94.trans (congrArg some (by kernel_rfl))⟩
  f50 := ⟨Try.f95.name, by decide, Try.func95.trans (congrArg some (by kernel_rfl))⟩
  f57 := ⟨Try.f96.name, by decide, Try.func96.trans (congrArg some (by kernel_rfl))⟩
  t0 := Try.underlying0
  a0 := Try.isAgg0
  z0 := Try.sizeOf0
  v0 := Try.zeroValue0
  t3 := Try.underlying3
  a3 := Try.isAgg3
  z3 := Try.sizeOf3
  v3 := Try.zeroValue3
  t4 := Try.underlying4
  a4 := Try.isAgg4
  z4 := Try.sizeOf4
  v4 := Try.zeroValue4
  t5 := Try.underlying5
  a5 := Try.isAgg5
  z5 := Try.sizeOf5
  v5 := Try.zeroValue5
  t9 := Try.underlying9
  a9 := Try.isAgg9
  z9 := Try.sizeOf9
  v9 := Try.zeroValue9
  t22 := Try.underlying45
  a22 := Try.isAgg45
  z22 := Try.sizeOf45
  v22 := Try.zeroValue45
  t25 := Try.underlying89
  a25 := Try.isAgg89
  z25 := Try.sizeOf89
  v25 := Try.zeroValue89
  t39 := Try.underlying114
  a39 := Try.isAgg114
  z39 := Try.sizeOf114
  v39 := Try.zeroValue114
  t45 := Try.underlying132
  a45 := Try.isAgg132
  z45 := Try.sizeOf132
  v45 := Try.zeroValue132
  t46 := Try.underlying133
  a46 := Try.isAgg133
  z46 := Try.sizeOf133
  v46 := Try.zeroValue133
  t50 := Try.underlying137
  a50 := Try.isAgg137
  z50 := Try.sizeOf137
  v50 := Try.zeroValue137
  t53 := Try.underlying140
  a53 := Try.isAgg140
  z53 := Try.sizeOf140
  v53 := Try.zeroValue140
  t55 := Try.underlying142
  a55 := Try.isAgg142
  z55 := Try.sizeOf142
  v55 := Try.zeroValue142
  t66 := Try.underlying147
  a66 := Try.isAgg147
  z66 := Try.sizeOf147
  v66 := Try.zeroValue147
  t70 := Try.underlying110
  a70 := Try.isAgg110
  z70 := Try.sizeOf110
  v70 := Try.zeroValue110
  t76 := Try.underlying152
  a76 := Try.isAgg152
  z76 := Try.sizeOf152
  v76 := Try.zeroValue152
  t77 := Try.underlying153
  a77 := Try.isAgg153
  z77 := Try.sizeOf153
  v77 := Try.zeroValue153 }

/-- 'cmp.Compare' at int. -/
theorem cmp_any (a b : Int) (w : World) : Calls Try.prog 54 #[.int .i64 a, .int .i64 b] w fun e w' => e = .returned (.int .i64 (Lib.compareInt a b)) ∧ w' = w := by
  have key : Lib.compareInt a b = if a < b then -1 else if b < a then 1 else 0 := by unfold Lib.compareInt; rfl
  rw [key]
  by_cases h1 : a < b
  · rw [if_pos h1]
    go_enter Try.func54, Try.ntmps54
    go_wp2
    go_ret
    exact ⟨rfl, rfl⟩
  · rw [if_neg h1]
    by_cases h2 : b < a
    · rw [if_pos h2]
      go_enter Try.func54, Try.ntmps54
      go_wp2
      go_ret
      exact ⟨rfl, rfl⟩
    · rw [if_neg h2]
      go_enter Try.func54, Try.ntmps54
      go_wp2
      go_ret
      exact ⟨rfl, rfl⟩

theorem lt_of_cellA {w : World} {a : Addr} {v : Value} (h : w.cell? a = some v) : a.block < w.heap.size := by
  unfold World.cell? at h
  cases e : w.heap[a.block]? with
  | none => rw [e] at h; cases h
  | some o => exact lt_of_heap e

theorem closure_any (x y : Nm) (m : LM) (M Bm bx by_ : Nat) (fx fy : Lf) (W : World) (hc : W.cell? ⟨Bm, 0, none⟩ = some (.map (some M))) (hm : MapIs nmV lfPtr W M m) (hx : look m x = some (bx, fx)) (hy : look m y = some (by_, fy))
    (bx0 : W.heap[bx]? = some (.cells fx.arr 86 (0, 0))) (by0 : W.heap[by_]? = some (.cells fy.arr 86 (0, 0))) :
    Calls Try.prog 53 #[.agg #[.int .i64 x.s, .int .i64 x.i, .int .i64 x.t], .agg #[.int .i64 y.s, .int .i64 y.i, .int .i64 y.t], .pointer (some ⟨Bm, 0, none⟩)] W
      fun e w' => e = .returned (.int .i64 (Lib.compareInt fx.c fy.c)) ∧ ∃ q os', w' = grow (W.drewN q) os' := by
  obtain ⟨W2, hW2⟩ : ∃ W2, (W.alloc (.cells #[.int .i64 x.s, .int .i64 x.i, .int .i64 x.t] 34)).alloc (.cells #[.int .i64 y.s, .int .i64 y.i, .int .i64 y.t] 34) = W2 := ⟨_, rfl⟩
  have hB : Below W.heap.size W W2 := hW2 ▸ (below_alloc1 _).trans ((below_alloc1 _).mono (by simp))
  have hlx : ((look m x).map lfPtr).getD (.pointer none) = .pointer (some ⟨bx, 0, none⟩) := by rw [hx]; rfl
  have hly : ((look m y).map lfPtr).getD (.pointer none) = .pointer (some ⟨by_, 0, none⟩) := by rw [hy]; rfl
  have hm2 : MapIs nmV lfPtr W2 M m := hm.kept (hB.block _ hm.lt)
  have l1 : ∀ n, (Instr.lookup 81 (.map (some M)) (.agg #[.int .i64 x.s, .int .i64 x.i, .int .i64 x.t]) false).run Try.prog (W2.drewN n) = .ok (.pointer (some ⟨bx, 0, none⟩)) (W2.drewN n) := by
    intro n; rw [← hlx]; exact run_look (w := W2.drewN n) Try.underlying81 nmKey zero84 (hm2.kept (w' := W2.drewN n) (show (W2.drewN n).heap[M]? = W2.heap[M]? from rfl)) x
  have l2 : ∀ n, (Instr.lookup 81 (.map (some M)) (.agg #[.int .i64 y.s, .int .i64 y.i, .int .i64 y.t]) false).run Try.prog (W2.drewN n) = .ok (.pointer (some ⟨by_, 0, none⟩)) (W2.drewN n) := by
    intro n; rw [← hly]; exact run_look (w := W2.drewN n) Try.underlying81 nmKey zero84 (hm2.kept (w' := W2.drewN n) (show (W2.drewN n).heap[M]? = W2.heap[M]? from rfl)) y
  have cB : W2.cell? ⟨Bm, 0, none⟩ = some (.map (some M)) := by
    rw [← hc]; exact hB.cell (p := ⟨Bm, 0, none⟩) (lt_of_cellA hc)
  have cx : W2.cell? ⟨bx, 1, none⟩ = some (.int .i64 fx.c) := by
    rw [cell_of_row W2 bx _ _ 86 (0, 0) ((hB.block _ (lt_of_heap bx0)).trans bx0)]; rfl
  have cy : W2.cell? ⟨by_, 1, none⟩ = some (.int .i64 fy.c) := by
    rw [cell_of_row W2 by_ _ _ 86 (0, 0) ((hB.block _ (lt_of_heap by0)).trans by0)]; rfl
  have x0 : W2.cell? ⟨W.heap.size, 0, none⟩ = some (.int .i64 x.s) := by rw [← hW2]; simp
  have x1 : W2.cell? ⟨W.heap.size, 1, none⟩ = some (.int .i64 x.i) := by rw [← hW2]; simp
  have x2 : W2.cell? ⟨W.heap.size, 2, none⟩ = some (.int .i64 x.t) := by rw [← hW2]; simp
  have y0 : W2.cell? ⟨W.heap.size + 1, 0, none⟩ = some (.int .i64 y.s) := by rw [← hW2]; simp
  have y1 : W2.cell? ⟨W.heap.size + 1, 1, none⟩ = some (.int .i64 y.i) := by rw [← hW2]; simp
  have y2 : W2.cell? ⟨W.heap.size + 1, 2, none⟩ = some (.int .i64 y.t) := by rw [← hW2]; simp
  have HW2 := Lib.hid hW2
  clear hW2 hc hm hx hy bx0 by0 hB hlx hly hm2
  go_enter Try.func53, Try.ntmps53
  go_wp2_with fail
  rw [HW2.out]
  go_quiet ((go_at_call 54; exact Calls.quiet_of_same (cmp_any _ _ _)))
  go_wp2_with fail
  go_ret
  exact ⟨rfl, _, _, by rw [← HW2.out, alloc_eq_grow, alloc_eq_grow, grow_grow]; rfl⟩

theorem arr_get {β : Type} (A : Array β) (i : Nat) : A.toList[i]? = A[i]? := by simp

theorem pairwise_idx' {α : Type} {R : α → α → Prop} : ∀ {l : List α}, (∀ (i j : Nat) (x y : α), l[i]? = some x → l[j]? = some y → i < j → R x y) → l.Pairwise R
  | [], _ => List.Pairwise.nil
  | a :: l, h => List.Pairwise.cons (fun b hb => by
      obtain ⟨j, hj⟩ := List.getElem?_of_mem hb
      exact h 0 (j + 1) a b rfl (by simpa using hj) (by omega)) (pairwise_idx' fun i j x y hi hj hlt => h (i + 1) (j + 1) x y (by simpa using hi) (by simpa using hj) (by omega))

theorem Nm.cells_one (n : Nm) : ∀ c ∈ n.cells, c.oneCell' = true := by
  intro c hc
  simp only [Nm.cells, List.mem_cons, List.not_mem_nil, or_false] at hc
  rcases hc with rfl | rfl | rfl <;> rfl

/-- The commit's place, as the map holds it. -/
def comOf (m : LM) (n : Nm) : Int := ((look m n).map (·.2.c)).getD 0

section
variable {α : Type} [Inhabited α]

theorem sortWorld_grown (enc : α → List Value) (k : Nat) (w : World) (blk off n : Nat) (dk : Array α) (os : Array Obj) : w.grownBy (sortWorldK enc k w blk off n dk os) (some blk) := by
  refine ⟨rfl, rfl, rfl, size_sortWorldK_c enc k w blk off n dk os, fun j hj hne => ?_⟩
  have hne' : blk ≠ j := fun e => hne (by rw [e])
  unfold sortWorldK putRowK putRow mapBlock grow
  show ((Array.modify w.heap blk _) ++ os)[j]? = _
  rw [Array.getElem?_append, Array.size_modify, if_pos hj, Array.getElem?_modify, if_neg hne']

theorem sortWorld_block (enc : α → List Value) (k : Nat) (w : World) (blk off n : Nat) (dk : Array α) (os : Array Obj) {cs : Array Value} {t : TypeId} {fr : Nat × Nat} (h : w.heap[blk]? = some (.cells cs t fr)) :
    (sortWorldK enc k w blk off n dk os).heap[blk]? = some (.cells (putCells id off (flatK enc k dk) cs) t fr) := by
  have hj := lt_of_heap h
  unfold sortWorldK putRowK putRow mapBlock grow
  show ((Array.modify w.heap blk _) ++ os)[blk]? = _
  rw [Array.getElem?_append, Array.size_modify, if_pos hj, Array.getElem?_modify, if_pos rfl, h]
  rfl

theorem flatK_list (enc : α → List Value) (k : Nat) (hk : ∀ x, (enc x).length = k) (d : Array α) : (flatK enc k d).toList = d.toList.flatMap enc := by
  have hl : (d.toList.flatMap enc).length = d.size * k := by rw [flat_length hk]; simp
  refine List.ext_getElem? fun i => ?_
  by_cases hi : i < d.size * k
  · have k0 : 0 < k := by
      rcases Nat.eq_zero_or_pos k with h | h
      · subst h; simp at hi
      · exact h
    have hq : i / k < d.size := by rw [Nat.div_lt_iff_lt_mul k0]; exact hi
    have hr : i % k < k := Nat.mod_lt _ k0
    have h1 := get_flatK enc k d i hi
    have h2 := flat_get hk d.toList (i / k) d[i / k] (by simp [hq]) (i % k) hr
    rw [Nat.div_add_mod' i k] at h2
    rw [h2]
    have hs : i < (flatK enc k d).size := by simpa using hi
    rw [getElem!_pos (flatK enc k d) i hs, getElem!_pos d (i / k) hq] at h1
    rw [arr_get, Array.getElem?_eq_getElem hs, h1]
    have hr' : i % k < (enc d[i / k]).length := by rw [hk]; exact hr
    rw [getElem!_pos (enc d[i / k]) (i % k) hr', List.getElem?_eq_getElem hr']
  · rw [List.getElem?_eq_none (by rw [Array.length_toList, size_flatK]; omega), List.getElem?_eq_none (by rw [hl]; omega)]

theorem putCells_take (F cs : Array Value) (h : F.size ≤ cs.size) : (putCells id 0 F cs).toList.take F.size = F.toList := by
  refine List.ext_getElem? fun i => ?_
  rw [List.getElem?_take]
  by_cases hi : i < F.size
  · rw [if_pos hi]
    simp only [putCells, Array.getElem?_toList, Array.getElem?_mapIdx]
    rw [Array.getElem?_eq_getElem (show i < cs.size by omega), Array.getElem?_eq_getElem hi]
    simp [hi]
  · rw [if_neg hi, List.getElem?_eq_none (by simp; omega)]

end

theorem isAgg34 (w : World) : (isAgg 34).run Try.prog w = .ok true w := by kernel_rfl
theorem sizeOf34 (w : World) : (Go.sizeOf 34).run Try.prog w = .ok 3 w := by kernel_rfl

theorem ltOf_cmp {α : Type} (f : α → Int) (x y : α) : ltOf (fun x y => Lib.compareInt (f x) (f y)) x y = decide (f x < f y) := by
  unfold ltOf Lib.compareInt
  by_cases h1 : f x < f y
  · simp [h1]
  · by_cases h2 : f y < f x <;> simp [h1, h2]

theorem swo_cmp {α : Type} (f : α → Int) : SWO (ltOf fun x y => Lib.compareInt (f x) (f y)) where
  irrefl x := by rw [ltOf_cmp]; simp
  trans x y z h1 h2 := by rw [ltOf_cmp] at *; simp at *; omega
  ntrans x y z h1 h2 := by rw [ltOf_cmp] at *; simp at *; omega

/-- The names, sorted by their commits. -/
theorem sort_any (m : LM) (M Bm base base0 : Nat) (out : List Nm) (v : Value) (W : World) (hL : LivesAt base0 M W m) (hc : W.heap[Bm]? = some (.cells #[.map (some M)] 81 (0, 0)))
    (hown : W.ownsRow base 34 3 v out.length (out.flatMap Nm.cells)) (hm : ∀ n ∈ out, (look m n).isSome = true) (hlen : out.length < 100000000) :
    Calls Try.prog 52 #[v, .func (.func 53) #[] #[.pointer (some ⟨Bm, 0, none⟩)]] W fun e W' => e = .returned (.tuple #[]) ∧ ∃ out' : List Nm, out'.Perm out ∧ out'.Pairwise (fun a b => comOf m a ≤ comOf m b) ∧
      W'.ownsRow base 34 3 v out'.length (out'.flatMap Nm.cells) ∧ W.grownBy W' v.ownBlock := by
  cases out with
  | nil =>
    have hv : ∃ p cap, v = .slice p 0 cap := by
      rcases hown.2 with ⟨rfl, _⟩ | ⟨g, cap, cur, rfl, _⟩
      · exact ⟨_, _, rfl⟩
      · exact ⟨_, _, rfl⟩
    obtain ⟨p, cap, rfl⟩ := hv
    have h := AnyF.slices_SortFunc_none (P := Try.prog) sortNm p cap (.func (.func 53) #[] #[.pointer (some ⟨Bm, 0, none⟩)]) W
    refine Calls.mono h fun e W' ⟨he, hw⟩ => ⟨he, [], List.Perm.nil, List.Pairwise.nil, ?_, ?_⟩
    · subst hw; exact hown
    · subst hw; exact ⟨rfl, rfl, rfl, Nat.le_refl _, fun _ _ _ => rfl⟩
  | cons n0 rest =>
    generalize hout : n0 :: rest = out at *
    have h0 : (look m n0).isSome = true := hm n0 (by rw [← hout]; simp)
    let α := { n : Nm // (look m n).isSome = true }
    haveI : Inhabited α := ⟨⟨n0, h0⟩⟩
    let enc : α → List Value := fun x => x.1.cells
    have hk : ∀ x, (enc x).length = 3 := fun _ => rfl
    obtain ⟨d, hd⟩ : ∃ d : Array α, d.toList.map (·.1) = out := ⟨(out.pmap (fun n h => (⟨n, h⟩ : α)) hm).toArray, by simp [List.map_pmap]⟩
    have hfl : d.toList.flatMap enc = out.flatMap Nm.cells := by rw [← hd, List.flatMap_map]
    have hds : d.size = out.length := by rw [← hd]; simp
    have hpos : 0 < out.length := by rw [← hout]; simp
    rcases hown.2 with ⟨_, hz⟩ | ⟨g, cap, cur, rfl, hb, hg, hn, hcap, hcs, ht⟩
    · omega
    have hgB : g ≠ Bm := by rintro rfl; rw [hg] at hc; cases hc
    have hgM : g ≠ M := by
      rintro rfl
      obtain ⟨es, c, h1, _⟩ := hL.map
      rw [hg] at h1; cases h1
    have hH : HoldsK enc 3 W g 0 d := by
      unfold HoldsK Holds
      intro j hj
      have hj' : j < d.size * 3 := by simpa using hj
      refine ⟨?_, by simp [World.frozen?, hg]⟩
      rw [cell_of_row W g _ cur 34 (0, 0) hg, Nat.zero_add]
      have e1 : (flatK enc 3 d).toList[j]? = cur.toList[j]? := by
        rw [flatK_list enc 3 hk, hfl, ← ht, List.getElem?_take, if_pos (by rw [← hds]; exact hj')]
      rw [arr_get, arr_get, Array.getElem?_eq_getElem hj] at e1
      rw [← e1, getElem!_pos (flatK enc 3 d) j hj]; rfl
    have hcmp : CmpLays Try.prog 53 #[.pointer (some ⟨Bm, 0, none⟩)] enc 3 (fun x y : α => Lib.compareInt (comOf m x.1) (comOf m y.1)) g 0 d.size W := by
      intro mm os dk _ x y
      have hgr := sortWorld_grown enc 3 W g 0 mm dk os
      generalize sortWorldK enc 3 W g 0 mm dk os = W1 at hgr ⊢
      obtain ⟨⟨bx, fx⟩, ex⟩ := Option.isSome_iff_exists.1 x.2
      obtain ⟨⟨by_, fy⟩, ey⟩ := Option.isSome_iff_exists.1 y.2
      have gx := (hL.at_ _ (look_mem ex)).2
      have gy := (hL.at_ _ (look_mem ey)).2
      have nx : bx ≠ g := by
        rintro rfl
        rw [hg] at gx
        have h2 := congrArg (fun o => match o with | some (Obj.cells _ t _) => t | _ => 0) gx
        simp at h2
      have ny : by_ ≠ g := by
        rintro rfl
        rw [hg] at gy
        have h2 := congrArg (fun o => match o with | some (Obj.cells _ t _) => t | _ => 0) gy
        simp at h2
      have e1 : comOf m x.1 = fx.c := by simp [comOf, ex]
      have e2 : comOf m y.1 = fy.c := by simp [comOf, ey]
      show Calls _ _ _ _ fun e w' => e = .returned (.int .i64 (Lib.compareInt (comOf m x.1) (comOf m y.1))) ∧ _
      rw [e1, e2]
      exact closure_any x.1 y.1 m M Bm bx by_ fx fy W1 (by rw [cell_of_row W1 Bm _ _ 81 (0, 0) (cells_turn hc hgr (Ne.symm hgB))]; rfl) (hL.map.kept (hgr.block _ hL.map.lt (fun e => hgM (by cases e; rfl)))) ex ey (cells_turn gx hgr nx) (cells_turn gy hgr ny)
    have eg : ∀ args w, (callFunc 53 args).run Try.prog w = .ok (.enter 53 args) w := enters_of Try.func53 (by kernel_rfl) rfl
    have h := AnyQ.slices_SortFunc (P := Try.prog) sortNm 3 isAgg34 sizeOf34 enc hk (fun x v hv => Nm.cells_one x.1 v hv) (fun x y : α => Lib.compareInt (comOf m x.1) (comOf m y.1)) (swo_cmp fun x : α => comOf m x.1) 53 #[.pointer (some ⟨Bm, 0, none⟩)] g 0 cap d W eg hcmp hH (lt_of_heap hg) (by rw [hds]; omega)
    rw [hds] at h
    refine Calls.mono h fun e W' ⟨he, d', n, os, hp, hs, hw⟩ => ⟨he, d'.toList.map (·.1), ?_, ?_, ?_, ?_⟩
    · obtain ⟨p1, _, p3⟩ := hp
      have p3' : d'.toList.Perm d.toList := by
        rw [← hds] at p3
        have e1 : d'.extract 0 d.size = d' := by rw [← p1]; simp
        have e2 : d.extract 0 d.size = d := by simp
        rwa [e1, e2] at p3
      rw [← hd]
      exact p3'.map _
    · rw [List.pairwise_map]
      refine pairwise_idx' fun i j x y hi hj hlt => ?_
      have hj2 : j < d'.size := by
        have := (List.getElem?_eq_some_iff.1 hj).1
        simpa using this
      have hi2 : i < d'.size := by omega
      have := hs i j (Nat.zero_le _) hlt (by rw [← hds, ← hp.1]; exact hj2)
      rw [ltOf_cmp (fun x : α => comOf m x.1), getElem!_pos d' j hj2, getElem!_pos d' i hi2] at this
      rw [arr_get, Array.getElem?_eq_getElem hj2] at hj
      rw [arr_get, Array.getElem?_eq_getElem hi2] at hi
      cases hj; cases hi
      simpa using this
    · subst hw
      have hb2 := sortWorld_block enc 3 W g 0 n d' os hg
      have hlen' : (d'.toList.map (·.1)).length = out.length := by simp [hp.1, hds]
      have hfs : (flatK enc 3 d').size = out.length * 3 := by rw [size_flatK, hp.1, hds]
      have hcl : cur.size = cap * 3 := hcs
      have hle : out.length * 3 ≤ cap * 3 := Nat.mul_le_mul_right 3 hn
      refine ⟨flat_length (f := Nm.cells) (k := 3) (fun _ => rfl) _, .inr ⟨g, cap, _, by rw [hlen'], hb, hb2, by rw [hlen']; exact hn, hcap, by simp [putCells, hcl], ?_⟩⟩
      rw [hlen', ← hfs, putCells_take _ _ (by rw [hfs]; omega), flatK_list enc 3 hk, List.flatMap_map]
    · subst hw
      exact sortWorld_grown enc 3 W g 0 n d' os

end Go.Proofs.Ytgdmgeihgkbjaaa
/- Ranging over a map of the calls' own ('MapIs'): what is still to come, as a list; the step, whichever entry the tape says. -/
namespace Go.Proofs.Ytgdmgeihgkbjaaa
open Go.RowKit
open Go.ChangeMaps (setBlock)

/-- Block r ranges over the map in block M, which holds m; rest is still to come. -/
def RangesM {κ β : Type} (kenc : κ → Value) (venc : β → Value) (w : World) (M r : Nat) (m rest : List (κ × β)) : Prop :=
  ∃ es clock since seen c0, w.heap[M]? = some (.map es clock) ∧ es.toList.map (fun e => (e.key, e.val)) = m.map (fun p => (kenc p.1, venc p.2)) ∧ (es.toList.map (·.born)).Nodup ∧ (∀ e ∈ es.toList, e.born < clock) ∧
    w.heap[r]? = some (.mapIter (some M) since seen c0) ∧ (∀ x ∈ es.toList, x.born < since) ∧ since ≤ c0 ∧ since ≤ clock ∧ (leftOf es seen).toList.map (fun e => (e.key, e.val)) = rest.map (fun p => (kenc p.1, venc p.2))

section
variable {κ β : Type} {kenc : κ → Value} {venc : β → Value}

theorem RangesM.map {w : World} {M r : Nat} {m rest : List (κ × β)} (h : RangesM kenc venc w M r m rest) : MapIs kenc venc w M m := by
  obtain ⟨es, clock, since, seen, c0, h1, h2, h3, h4, _⟩ := h
  exact ⟨es, clock, h1, h2, h3, h4⟩

theorem RangesM.ne {w : World} {M r : Nat} {m rest : List (κ × β)} (h : RangesM kenc venc w M r m rest) : r ≠ M := by
  obtain ⟨es, clock, since, seen, c0, h1, _, _, _, h5, _⟩ := h
  rintro rfl
  rw [h1] at h5; cases h5

theorem RangesM.lt {w : World} {M r : Nat} {m rest : List (κ × β)} (h : RangesM kenc venc w M r m rest) : r < w.heap.size := by
  obtain ⟨es, clock, since, seen, c0, h1, _, _, _, h5, _⟩ := h
  exact (Array.getElem?_eq_some_iff.1 h5).1

theorem RangesM.kept {w w' : World} {M r : Nat} {m rest : List (κ × β)} (h : RangesM kenc venc w M r m rest) (hM : w'.heap[M]? = w.heap[M]?) (hr : w'.heap[r]? = w.heap[r]?) : RangesM kenc venc w' M r m rest := by
  obtain ⟨es, clock, since, seen, c0, h1, h2, h3, h4, h5, h6⟩ := h
  exact ⟨es, clock, since, seen, c0, hM.trans h1, h2, h3, h4, hr.trans h5, h6⟩

theorem run_range_m {w : World} {T K E : TypeId} (hT : Try.prog.underlying T = some (.map K E)) {M : Nat} {m : List (κ × β)} (h : MapIs kenc venc w M m) :
    ∃ w', (Instr.range T (.map (some M))).run Try.prog w = .ok (.pointer (some ⟨w.heap.size, 0, none⟩)) w' ∧ RangesM kenc venc w' M w.heap.size m m ∧ w.grownBy w' none ∧ w'.heap.size = w.heap.size + 1 := by
  have hlt := h.lt
  obtain ⟨es, clock, hb, h2, h3, h4⟩ := h
  refine ⟨_, run_range_map w T K E M es clock hT hb, ⟨es, clock, clock, #[], clock, ((MapKept.heap_alloc w _).2 M hlt).trans hb, h2, h3, h4, (MapKept.heap_alloc w _).1, h4, Nat.le_refl _, Nat.le_refl _, ?_⟩, World.grownBy_alloc w _ none, by simp⟩
  have e : (leftOf es #[]).toList = es.toList := by unfold leftOf; rw [Array.toList_filter, List.filter_eq_self]; intro x _; simp
  rw [e]; exact h2

theorem filter_one {L : List MapEntry} (hn : (L.map (·.born)).Nodup) {i : Nat} {e : MapEntry} (he : L[i]? = some e) : L.filter (fun x => !(x.born == e.born)) = L.eraseIdx i := by
  induction L generalizing i with
  | nil => simp at he
  | cons a L ih =>
    simp only [List.map_cons, List.nodup_cons] at hn
    cases i with
    | zero =>
      simp at he; subst he
      rw [List.filter_cons_of_neg (by simp), List.eraseIdx_cons_zero, List.filter_eq_self]
      intro x hx
      have : x.born ≠ a.born := fun e => hn.1 (by rw [← e]; exact List.mem_map_of_mem hx)
      simpa using this
    | succ i =>
      have he' : L[i]? = some e := by simpa using he
      have : a.born ≠ e.born := fun e1 => hn.1 (by rw [e1]; exact List.mem_map_of_mem (List.mem_of_getElem? he'))
      rw [List.filter_cons_of_pos (by simpa using this), List.eraseIdx_cons_succ, ih hn.2 he']

theorem map_eraseIdx {α β : Type} (f : α → β) : ∀ (l : List α) (i : Nat), (l.eraseIdx i).map f = (l.map f).eraseIdx i
  | [], _ => rfl
  | _ :: _, 0 => rfl
  | _ :: l, i + 1 => by simp [map_eraseIdx f l i]

theorem left_push (es : Array MapEntry) (seen : Array Nat) (hn : (es.toList.map (·.born)).Nodup) {i : Nat} {e : MapEntry} (he : (leftOf es seen).toList[i]? = some e) : (leftOf es (seen.push e.born)).toList = (leftOf es seen).toList.eraseIdx i := by
  have hn' : ((leftOf es seen).toList.map (·.born)).Nodup := by
    unfold leftOf
    rw [Array.toList_filter]
    exact hn.sublist (List.Sublist.map _ List.filter_sublist)
  rw [← filter_one hn' he]
  unfold leftOf
  rw [Array.toList_filter, Array.toList_filter, List.filter_filter]
  congr 1
  funext x
  rw [contains_push]
  cases seen.contains x.born <;> cases (x.born == e.born) <;> rfl

/-- The step. -/
theorem RangesM.next {w : World} {M r : Nat} {m rest : List (κ × β)} (h : RangesM kenc venc w M r m rest) (ty : TypeId) :
    (rest = [] ∧ (Instr.next (.pointer (some ⟨r, 0, none⟩)) false ty).run Try.prog w = .ok (.tuple #[.bool false]) w) ∨
    ∃ (i : Nat) (p : κ × β) (w' : World), rest[i]? = some p ∧ (Instr.next (.pointer (some ⟨r, 0, none⟩)) false ty).run Try.prog w = .ok (.tuple #[.bool true, kenc p.1, venc p.2]) w' ∧
      RangesM kenc venc w' M r m (rest.eraseIdx i) ∧ w.grownBy w' (some r) ∧ w'.heap.size = w.heap.size ∧ (Instr.entry (.pointer (some ⟨r, 0, none⟩))).run Try.prog w' = .ok (.tuple #[kenc p.1, venc p.2]) w' := by
  have hne := h.ne
  obtain ⟨es, clock, since, seen, c0, hb, h2, h3, h4, hr, hold, hsc, hsk, hl⟩ := h
  have hlen : (leftOf es seen).size = rest.length := by
    have := congrArg List.length hl
    simpa using this
  rcases run_next_at (P := Try.prog) w ty r M since c0 seen es clock hr hb hold hsc with ⟨h0, hrun⟩ | ⟨e, he, w1, hal, hrun⟩
  · exact Or.inl ⟨List.length_eq_zero_iff.1 (by omega), hrun⟩
  · obtain ⟨hem, hes⟩ := mem_left he
    obtain ⟨i, hi⟩ := List.getElem?_of_mem he
    have hir : i < rest.length := by
      have := (List.getElem?_eq_some_iff.1 hi).1
      rw [← hlen]; simpa using this
    have hp : (e.key, e.val) = (kenc rest[i].1, venc rest[i].2) := by
      have := congrArg (fun l => l[i]?) hl
      simp only [List.getElem?_map, hi, Option.map_some, List.getElem?_eq_getElem hir, Option.some.injEq] at this
      exact this
    obtain ⟨hpk, hpv⟩ := Prod.mk.inj hp
    have hr1 : w1.heap[r]? = some (.mapIter (some M) since seen c0) := by rcases hal with rfl | rfl <;> exact hr
    have hb1 : w1.heap[M]? = some (.map es clock) := by rcases hal with rfl | rfl <;> exact hb
    have hset := Go.MapKept.heap_set (o' := .mapIter (some M) since (seen.push e.born) clock) hr1
    have hb' : (setBlock w1 r (.mapIter (some M) since (seen.push e.born) clock)).heap[M]? = some (.map es clock) := (hset.2 M (fun e1 => hne e1.symm)).trans hb1
    rw [hpk, hpv] at hrun
    refine Or.inr ⟨i, rest[i], _, List.getElem?_eq_getElem hir, hrun, ⟨es, clock, since, seen.push e.born, clock, hb', h2, h3, h4, hset.1, hold, hsk, hsk, ?_⟩, ?_, ?_, ?_⟩
    · rw [left_push es seen h3 hi, map_eraseIdx, hl, map_eraseIdx]
    · rcases hal with rfl | rfl <;> exact ⟨rfl, rfl, rfl, by simp [setBlock], fun i _ hi => hset.2 i (fun e1 => hi (by rw [e1]))⟩
    · rcases hal with rfl | rfl <;> simp [setBlock]
    · have := run_entry_at (P := Try.prog) _ r M since seen es clock e hset.1 hb' hem h3
      rw [hpk, hpv] at this
      exact this

end

theorem wpList_range_m {κ β : Type} {kenc : κ → Value} {venc : β → Value} {ops : Array Oper} {rest : List Oper} {o : Oper} {a : Act} {w : World} {Q : Exit → Act → World → Prop} (hgd : o.guard = none) (x : Operand) (T : TypeId) (ho : o.op = .range T x)
    {K E : TypeId} (hT : Try.prog.underlying T = some (.map K E)) {M : Nat} {m : List (κ × β)} (hm : MapIs kenc venc w M m) (hx : a.eval x = .map (some M))
    (h : ∀ w', RangesM kenc venc w' M w.heap.size m m → w.grownBy w' none → w'.heap.size = w.heap.size + 1 → wpList Try.prog ops Q rest (a.put o.dst (.pointer (some ⟨w.heap.size, 0, none⟩))) w') : wpList Try.prog ops Q (o :: rest) a w := by
  refine wpList_plain hgd fun K' hK' => ?_
  obtain ⟨w', hrun, r1, r2, r3⟩ := run_range_m hT hm
  unfold Oper.wp
  simp only [execOp, ho, hx, Sem.run_bind, hrun, Result.andThen_ok, Sem.run_pure]
  exact hK' _ _ (h w' r1 r2 r3)

theorem wpList_next_m {κ β : Type} {kenc : κ → Value} {venc : β → Value} {ops : Array Oper} {todo : List Oper} {o : Oper} {a : Act} {w : World} {Q : Exit → Act → World → Prop} (hgd : o.guard = none) (x : Operand) (ho : o.op = .next x false)
    {M r : Nat} {m rest : List (κ × β)} (hm : RangesM kenc venc w M r m rest) (hx : a.eval x = .pointer (some ⟨r, 0, none⟩))
    (hDone : rest = [] → wpList Try.prog ops Q todo (a.put o.dst (.tuple #[.bool false])) w)
    (hMore : ∀ (i : Nat) (p : κ × β) (w' : World), rest[i]? = some p → RangesM kenc venc w' M r m (rest.eraseIdx i) → w.grownBy w' (some r) → w'.heap.size = w.heap.size →
      (Instr.entry (.pointer (some ⟨r, 0, none⟩))).run Try.prog w' = .ok (.tuple #[kenc p.1, venc p.2]) w' → wpList Try.prog ops Q todo (a.put o.dst (.tuple #[.bool true, kenc p.1, venc p.2])) w') : wpList Try.prog ops Q (o :: todo) a w := by
  refine wpList_plain hgd fun K' hK' => ?_
  unfold Oper.wp
  rcases hm.next o.type with ⟨h0, hrun⟩ | ⟨i, p, w', hp, hrun, hrg, hgr, hsz, hen⟩
  · simp only [execOp, ho, hx, Sem.run_bind, hrun, Result.andThen_ok, Sem.run_pure]
    exact hK' _ _ (hDone h0)
  · simp only [execOp, ho, hx, Sem.run_bind, hrun, Result.andThen_ok, Sem.run_pure]
    exact hK' _ _ (hMore i p w' hp hrg hgr hsz hen)

theorem eraseIdx_perm {α : Type} {l : List α} {i : Nat} {x : α} (h : l[i]? = some x) : l.Perm (x :: l.eraseIdx i) := by
  induction l generalizing i with
  | nil => simp at h
  | cons a l ih =>
    cases i with
    | zero => simp at h; subst h; exact List.Perm.refl _
    | succ i =>
      have := ih (i := i) (by simpa using h)
      rw [List.eraseIdx_cons_succ]
      exact (this.cons a).trans (List.Perm.swap _ _ _)

end Go.Proofs.Ytgdmgeihgkbjaaa
/- Scans of a history for a name's step. -/
namespace Go.Proofs.Ytgdmgeihgkbjaaa
open Go.RowKit

def hit (k : Int) (n : Nm) (x : Sn) : Bool := decide (x.k = k) && decide (x.n = n)
def firstAt (k : Int) (n : Nm) : List Sn → Nat → Int
  | [], _ => -1
  | x :: r, i => if hit k n x then i else firstAt k n r (i + 1)

set_option maxHeartbeats 1000000 in
theorem first_any (l : List Sn) (v : Value) (k : Int) (n : Nm) (w : World) (hl : l.length ≤ 100000) (hv : Sns w.heap.size w v l) :
    Calls Try.prog 62 #[v, .int .i8 k, .agg #[.int .i64 n.s, .int .i64 n.i, .int .i64 n.t]] w
      fun e w' => e = .returned (.int .i64 (firstAt k n l 0)) ∧ Below w.heap.size w w' := by
  obtain ⟨a, cap, rfl, hn, ha⟩ := hv
  have HN := Lib.hid hn
  have HA := Lib.hid ha
  clear hn ha
  go_enter Try.func62, Try.ntmps62
  go_wp2
  go_loopw [7] (fun i wr => ∃ q : Nat, q ≤ l.length ∧ i = .int .i64 q ∧ firstAt k n l 0 = firstAt k n (l.drop q) q ∧ (∃ m, wr = (w.alloc (.cells #[.int .i64 n.s, .int .i64 n.i, .int .i64 n.t] 34)).drewN m)) (fun i _ => l.length - (intOf i).toNat)
  case atStart => exact ⟨0, Nat.zero_le _, rfl, rfl, 0, rfl⟩
  case round =>
    obtain ⟨q, hq, rfl, hF, m, rfl⟩ := hrel
    have HF := Lib.hid hF
    clear hF
    by_cases hlt : q < l.length
    · obtain ⟨x, hx⟩ : ∃ x, l[q]? = some x := ⟨_, List.getElem?_eq_getElem hlt⟩
      obtain ⟨b, off, rfl, hb, hr⟩ := rows_some HN.out HA.out hlt
      obtain ⟨c0, c1, c2, c3, _⟩ := hr.sn hx
      have HX := Lib.hid hx
      clear hr hx
      by_cases hk : x.k = k
      · have hk' : (x.k == k) = true := by simpa using hk
        have hen := eql_nm x.n n
        by_cases hn : x.n = n
        · have hn' : decide (x.n = n) = true := by simpa using hn
          go_wp2
          go_quiet (fail)
          go_wp2
          go_ret
          exact ⟨by rw [HF.out, drop_cons HX.out]; simp [firstAt, hit, hk, hn], Below.drewN' (Below.drewN' (below_alloc1 _) _) _⟩
        · have hn' : decide (x.n = n) = false := by simpa using hn
          go_wp2
          go_quiet (fail)
          go_wp2
          go_roundw
          case rel => exact ⟨q + 1, by omega, by go_num, by rw [HF.out, drop_cons HX.out]; simp [firstAt, hit, hn], _, rfl⟩
          case measure => simp [intOf]; omega
      · have hk' : (x.k == k) = false := by simpa using hk
        go_wp2
        go_quiet (fail)
        go_wp2
        go_roundw
        case rel => exact ⟨q + 1, by omega, by go_num, by rw [HF.out, drop_cons HX.out]; simp [firstAt, hit, hk], _, rfl⟩
        case measure => simp [intOf]; omega
    · go_wp2
      go_ret
      exact ⟨by rw [HF.out, drop_end hlt]; rfl, Below.drewN' (below_alloc1 _) _⟩

end Go.Proofs.Ytgdmgeihgkbjaaa
/- Histories that may be, and the order of those that were decided: the plain law. -/
namespace Go.Proofs.Ytgdmgeihgkbjaaa
open Go.RowKit

/-- Has n a step of kind k in p? -/
def isC (k : Int) (n : Nm) (p : List Sn) : Bool := p.any (hit k n)

theorem isC_append (k : Int) (n : Nm) (p r : List Sn) : isC k n (p ++ r) = (isC k n p || isC k n r) := by simp [isC]
theorem isC_nil (k : Int) (n : Nm) : isC k n [] = false := rfl
theorem isC_cons (k : Int) (n : Nm) (x : Sn) (r : List Sn) : isC k n (x :: r) = (hit k n x || isC k n r) := rfl
theorem isC_one (k : Int) (n : Nm) (x : Sn) : isC k n [x] = hit k n x := by simp [isC]
theorem isC_mem {k : Int} {n : Nm} {p : List Sn} : isC k n p = true ↔ ∃ x ∈ p, x.k = k ∧ x.n = n := by
  simp [isC, hit]

theorem firstAt_no {k : Int} {n : Nm} : ∀ {l : List Sn} {i : Nat}, isC k n l = false → firstAt k n l i = -1
  | [], _, _ => rfl
  | x :: r, i, h => by
    rw [isC_cons, Bool.or_eq_false_iff] at h
    rw [firstAt, h.1]
    simpa using firstAt_no h.2

theorem firstAt_yes {k : Int} {n : Nm} : ∀ {l : List Sn} {i : Nat}, isC k n l = true → ∃ q x, firstAt k n l i = ((i + q : Nat) : Int) ∧ l[q]? = some x ∧ hit k n x = true ∧ isC k n (l.take q) = false
  | [], _, h => by cases h
  | x :: r, i, h => by
    rw [isC_cons] at h
    by_cases hx : hit k n x = true
    · exact ⟨0, x, by simp [firstAt, hx], rfl, hx, rfl⟩
    · have hx' : hit k n x = false := by simpa using hx
      rw [hx', Bool.false_or] at h
      obtain ⟨q, y, h1, h2, h3, h4⟩ := firstAt_yes (i := i + 1) h
      refine ⟨q + 1, y, ?_, by simpa using h2, h3, by simp [isC_cons, hx', h4]⟩
      simp only [firstAt, hx', Bool.false_eq_true, if_false, h1]
      omega

theorem firstAt_app {k : Int} {n : Nm} : ∀ {p r : List Sn} {i : Nat}, firstAt k n (p ++ r) i = if isC k n p then firstAt k n p i else firstAt k n r (i + p.length)
  | [], r, i => by simp [isC_nil]
  | x :: p, r, i => by
    simp only [List.cons_append, firstAt, isC_cons]
    by_cases hx : hit k n x = true
    · simp [hx]
    · have hx' : hit k n x = false := by simpa using hx
      simp only [hx', Bool.false_eq_true, if_false, Bool.false_or, firstAt_app (p := p), List.length_cons]
      rw [show i + 1 + p.length = i + (p.length + 1) by omega]

theorem firstAt_ge {k : Int} {n : Nm} {l : List Sn} : isC k n l = true ↔ 0 ≤ firstAt k n l 0 := by
  cases h : isC k n l with
  | false => rw [firstAt_no h]; simp
  | true =>
    obtain ⟨q, x, h1, _⟩ := firstAt_yes (i := 0) h
    rw [h1]; simp

theorem firstAt_lt {k : Int} {n : Nm} {l : List Sn} : firstAt k n l 0 < l.length := by
  cases h : isC k n l with
  | false => rw [firstAt_no h]; omega
  | true =>
    obtain ⟨q, x, h1, h2, _⟩ := firstAt_yes (i := 0) h
    have := (List.getElem?_eq_some_iff.1 h2).1
    rw [h1]; omega

theorem firstAt_snoc {k : Int} {n : Nm} {p : List Sn} {x : Sn} : firstAt k n (p ++ [x]) 0 = if isC k n p then firstAt k n p 0 else if hit k n x then (p.length : Int) else -1 := by
  rw [firstAt_app]
  split
  · rfl
  · simp [firstAt]

/-- May x be the next step behind p? -/
def stepOK (p : List Sn) (x : Sn) : Bool :=
  x.n.good && (bif isC 0 x.n p then
    (if x.k = 1 ∨ x.k = 2 then !isC 3 x.n p && decide (0 ≤ x.b ∧ x.b < 32)
     else if x.k = 3 then !isC 3 x.n p
     else if x.k = 4 then !isC 4 x.n p && (decide (x.e ≠ 0) || isC 3 x.n p)
     else if x.k = 5 then !isC 5 x.n p && isC 3 x.n p
     else false)
    else decide (x.k = 0))

def mayF : List Sn → List Sn → Bool
  | _, [] => true
  | p, x :: r => stepOK p x && mayF (p ++ [x]) r

/-- May the history be? -/
def mayP (l : List Sn) : Bool := mayF [] l

/-- What the lives hold behind p. -/
def LvInv (p : List Sn) (m : List (Nm × Lf)) : Prop :=
  (∀ n, look m n = if isC 0 n p then some ⟨firstAt 0 n p 0 + 1, firstAt 3 n p 0 + 1, firstAt 4 n p 0 + 1, firstAt 5 n p 0 + 1⟩ else none) ∧ ∀ n, isC 0 n p = false → ∀ k, isC k n p = false

theorem lvInv_nil : LvInv [] [] := ⟨fun _ => rfl, fun _ _ _ => rfl⟩

theorem hit_iff {k : Int} {n : Nm} {x : Sn} : hit k n x = true ↔ x.k = k ∧ x.n = n := by simp [hit]
theorem hit_no {k : Int} {n : Nm} {x : Sn} (h : ¬ (x.k = k ∧ x.n = n)) : hit k n x = false := by
  cases e : hit k n x with
  | false => rfl
  | true => exact absurd (hit_iff.1 e) h

theorem fa_zero {k : Int} {n : Nm} {p : List Sn} : firstAt k n p 0 + 1 = 0 ↔ isC k n p = false := by
  cases h : isC k n p with
  | false => rw [firstAt_no h]; simp
  | true => have := firstAt_ge.1 h; simp; omega

theorem fa_pos {k : Int} {n : Nm} {p : List Sn} : 0 < firstAt k n p 0 + 1 ↔ isC k n p = true := by
  rw [firstAt_ge]; omega

theorem livP_step {p : List Sn} {m : List (Nm × Lf)} (h : LvInv p m) (x : Sn) :
    (stepOK p x = true → ∃ m', livP p.length x m = some m' ∧ LvInv (p ++ [x]) m') ∧ (stepOK p x = false → livP p.length x m = none) := by
  obtain ⟨h1, h2⟩ := h
  unfold stepOK livP
  cases hg : x.n.good
  · simp
  simp only [Bool.true_and, if_true]
  have hl := h1 x.n
  cases hb : isC 0 x.n p
  · rw [hb] at hl
    simp only [Bool.false_eq_true, if_false] at hl
    rw [hl]
    by_cases hk : x.k = 0
    · simp only [hk, decide_true, cond_false, forall_const, if_true, Bool.true_eq_false, false_implies, and_true]
      refine ⟨_, rfl, fun n => ?_, fun n hn k => ?_⟩
      · rw [look_put]
        by_cases hn : x.n = n
        · subst hn
          have e0 : hit 0 x.n x = true := hit_iff.2 ⟨hk, rfl⟩
          have e3 : hit 3 x.n x = false := hit_no (by omega)
          have e4 : hit 4 x.n x = false := hit_no (by omega)
          have e5 : hit 5 x.n x = false := hit_no (by omega)
          simp only [if_true, isC_append, isC_one, e0, Bool.or_true, firstAt_snoc, hb, h2 x.n hb, e3, e4, e5, Bool.false_eq_true, if_false]
          rfl
        · have e : ∀ k, hit k n x = false := fun k => hit_no (fun h => hn h.2)
          simp only [hn, if_false, h1, isC_append, isC_one, e, Bool.or_false, firstAt_snoc]
          split
          · congr 2 <;> (split <;> (try rfl); rename_i h; rw [firstAt_no (by simpa using h)]; rfl)
          · rfl
      · rw [isC_append, isC_one] at hn ⊢
        rw [Bool.or_eq_false_iff] at hn
        have hne : x.n ≠ n := fun e => by
          have := hit_iff.2 ⟨hk, e⟩
          rw [this] at hn; cases hn.2
        rw [h2 n hn.1 k, hit_no (fun h => hne h.2)]; rfl
    · simp [hk]
  · rw [hb] at hl
    simp only [if_true] at hl
    rw [hl]
    simp only [cond_true]
    -- a turned life
    have upd : ∀ (k : Int) (f' : Lf), x.k = k → (k = 3 ∨ k = 4 ∨ k = 5) → isC k x.n p = false →
        f' = ⟨firstAt 0 x.n p 0 + 1, (if k = 3 then (p.length : Int) + 1 else firstAt 3 x.n p 0 + 1), (if k = 4 then (p.length : Int) + 1 else firstAt 4 x.n p 0 + 1), (if k = 5 then (p.length : Int) + 1 else firstAt 5 x.n p 0 + 1)⟩ → LvInv (p ++ [x]) (put m x.n f') := by
      intro k f' hk hk' hno hf'
      refine ⟨fun n => ?_, fun n hn k' => ?_⟩
      · rw [look_put]
        by_cases hn : x.n = n
        · subst hn
          have e0 : hit 0 x.n x = false := hit_no (by omega)
          simp only [if_true, isC_append, isC_one, hb, Bool.true_or, firstAt_snoc, hf']
          rcases hk' with rfl | rfl | rfl
          · have e4 : hit 4 x.n x = false := hit_no (by omega)
            have e5 : hit 5 x.n x = false := hit_no (by omega)
            have e3 : hit 3 x.n x = true := hit_iff.2 ⟨hk, rfl⟩
            simp only [hno, e3, e4, e5, Bool.false_eq_true, if_false, if_true]
            have g : ∀ j, (if isC j x.n p = true then firstAt j x.n p 0 else -1) = firstAt j x.n p 0 := fun j => by
              split
              · rfl
              · rename_i h; rw [firstAt_no (by simpa using h)]
            simp [g]
          · have e3 : hit 3 x.n x = false := hit_no (by omega)
            have e5 : hit 5 x.n x = false := hit_no (by omega)
            have e4 : hit 4 x.n x = true := hit_iff.2 ⟨hk, rfl⟩
            simp only [hno, e3, e4, e5, Bool.false_eq_true, if_false, if_true]
            have g : ∀ j, (if isC j x.n p = true then firstAt j x.n p 0 else -1) = firstAt j x.n p 0 := fun j => by
              split
              · rfl
              · rename_i h; rw [firstAt_no (by simpa using h)]
            simp [g]
          · have e3 : hit 3 x.n x = false := hit_no (by omega)
            have e4 : hit 4 x.n x = false := hit_no (by omega)
            have e5 : hit 5 x.n x = true := hit_iff.2 ⟨hk, rfl⟩
            simp only [hno, e3, e4, e5, Bool.false_eq_true, if_false, if_true]
            have g : ∀ j, (if isC j x.n p = true then firstAt j x.n p 0 else -1) = firstAt j x.n p 0 := fun j => by
              split
              · rfl
              · rename_i h; rw [firstAt_no (by simpa using h)]
            simp [g]
        · have e : ∀ k, hit k n x = false := fun k => hit_no (fun h => hn h.2)
          simp only [hn, if_false, h1, isC_append, isC_one, e, Bool.or_false, firstAt_snoc]
          split
          · congr 2 <;> (split <;> (try rfl); rename_i h; rw [firstAt_no (by simpa using h)]; rfl)
          · rfl
      · rw [isC_append, isC_one] at hn ⊢
        rw [Bool.or_eq_false_iff] at hn
        have hne : x.n ≠ n := fun e => by rw [← e, hb] at hn; cases hn.1
        rw [h2 n hn.1 k', hit_no (fun h => hne h.2)]; rfl
    by_cases k12 : x.k = 1 ∨ x.k = 2
    · simp only [k12, if_true]
      by_cases hc : isC 3 x.n p = false ∧ 0 ≤ x.b ∧ x.b < 32
      · obtain ⟨c1, c2, c3⟩ := hc
        simp only [c1, c2, c3, fa_zero.2 c1, Bool.not_false, Bool.true_and, and_self, decide_true, if_true, forall_const, Bool.true_eq_false, false_implies, and_true]
        refine ⟨m, rfl, fun n => ?_, fun n hn k => ?_⟩
        · have e : ∀ k, k = 0 ∨ k = 3 ∨ k = 4 ∨ k = 5 → hit k n x = false := fun k hk => hit_no (fun h => by omega)
          rw [h1, isC_append, isC_one, e 0 (by simp), Bool.or_false]
          simp only [firstAt_snoc, e 0 (by simp), e 3 (by simp), e 4 (by simp), e 5 (by simp)]
          split
          · congr 2 <;> (split <;> (try rfl); rename_i h; rw [firstAt_no (by simpa using h)]; rfl)
          · rfl
        · rw [isC_append, isC_one] at hn ⊢
          rw [Bool.or_eq_false_iff] at hn
          have hne : x.n ≠ n := fun e => by rw [← e, hb] at hn; cases hn.1
          rw [h2 n hn.1 k, hit_no (fun h => hne h.2)]; rfl
      · have h' : ¬ (firstAt 3 x.n p 0 + 1 = 0 ∧ 0 ≤ x.b ∧ x.b < 32) := fun h => hc ⟨fa_zero.1 h.1, h.2⟩
        rw [if_neg h']
        refine ⟨fun h => ?_, fun _ => rfl⟩
        exfalso; apply hc
        simpa using h
    simp only [k12, if_false]
    by_cases k3 : x.k = 3
    · simp only [k3, if_true]
      cases hc : isC 3 x.n p
      · simp only [fa_zero.2 hc, if_true, Bool.not_false, forall_const, Bool.true_eq_false, false_implies, and_true]
        exact ⟨_, rfl, upd 3 _ k3 (.inl rfl) hc rfl⟩
      · have : ¬ firstAt 3 x.n p 0 + 1 = 0 := fun h => by rw [fa_zero.1 h] at hc; cases hc
        simp [this]
    simp only [k3, if_false]
    by_cases k4 : x.k = 4
    · simp only [k4, if_true]
      cases hc : isC 4 x.n p
      · by_cases he : x.e ≠ 0 ∨ isC 3 x.n p = true
        · have he' : x.e ≠ 0 ∨ 0 < firstAt 3 x.n p 0 + 1 := he.imp id fa_pos.2
          have heb : (decide (x.e ≠ 0) || isC 3 x.n p) = true := by simpa using he
          rw [if_pos ⟨fa_zero.2 hc, he'⟩, heb]
          exact ⟨fun _ => ⟨_, rfl, upd 4 _ k4 (.inr (.inl rfl)) hc rfl⟩, fun h => by cases h⟩
        · have he' : ¬ (x.e ≠ 0 ∨ 0 < firstAt 3 x.n p 0 + 1) := fun h => he (h.imp id fa_pos.1)
          have heb : (decide (x.e ≠ 0) || isC 3 x.n p) = false := by
            cases hh : (decide (x.e ≠ 0) || isC 3 x.n p) with
            | false => rfl
            | true => exact absurd (by simpa using hh) he
          rw [if_neg (fun h => he' h.2), heb]
          exact ⟨fun h => by simp at h, fun _ => rfl⟩
      · have : ¬ firstAt 4 x.n p 0 + 1 = 0 := fun h => by rw [fa_zero.1 h] at hc; cases hc
        rw [if_neg (fun h => this h.1)]
        simp
    simp only [k4, if_false]
    by_cases k5 : x.k = 5
    · simp only [k5, if_true]
      cases hc : isC 5 x.n p
      · cases h3 : isC 3 x.n p
        · have : ¬ 0 < firstAt 3 x.n p 0 + 1 := fun h => by rw [fa_pos.1 h] at h3; cases h3
          rw [if_neg (fun h => this h.2)]
          simp
        · rw [if_pos ⟨fa_zero.2 hc, fa_pos.2 h3⟩]
          exact ⟨fun _ => ⟨_, rfl, upd 5 _ k5 (.inr (.inr rfl)) hc rfl⟩, fun h => by simp at h⟩
      · have : ¬ firstAt 5 x.n p 0 + 1 = 0 := fun h => by rw [fa_zero.1 h] at hc; cases hc
        rw [if_neg (fun h => this h.1)]
        simp
    simp [k5]

theorem livesF_step : ∀ (r p : List Sn) (m : List (Nm × Lf)), LvInv p m →
    (mayF p r = true → ∃ m', livesF p.length r m = some m' ∧ LvInv (p ++ r) m') ∧ (mayF p r = false → livesF p.length r m = none)
  | [], p, m, h => by simpa [mayF, livesF] using h
  | x :: r, p, m, h => by
    obtain ⟨s1, s2⟩ := livP_step h x
    unfold mayF livesF
    cases hs : stepOK p x
    · simp [s2 hs]
    · obtain ⟨m', e, h'⟩ := s1 hs
      have := livesF_step r (p ++ [x]) m' h'
      simpa [e] using this

/-- The lives, by the history's own words. -/
theorem lives_may {l : List Sn} (h : mayP l = true) : ∃ m, livesP l = some m ∧ LvInv l m := by
  obtain ⟨m, h1, h2⟩ := (livesF_step l [] [] lvInv_nil).1 h
  exact ⟨m, h1, by simpa using h2⟩
theorem lives_no {l : List Sn} (h : mayP l = false) : livesP l = none := (livesF_step l [] [] lvInv_nil).2 h
theorem may_of_lives {l : List Sn} {m : List (Nm × Lf)} (h : livesP l = some m) : mayP l = true ∧ LvInv l m := by
  cases hm : mayP l with
  | false => rw [lives_no hm] at h; cases h
  | true =>
    obtain ⟨m', e, h'⟩ := lives_may hm
    rw [h] at e; cases e
    exact ⟨rfl, h'⟩

/-! ### what may be, place by place -/

theorem mayF_app : ∀ (q p r : List Sn), mayF p (q ++ r) = (mayF p q && mayF (p ++ q) r)
  | [], p, r => by simp [mayF]
  | x :: q, p, r => by
    simp only [List.cons_append, mayF, mayF_app q, List.append_assoc, Bool.and_assoc, List.nil_append]

theorem mayP_take {l : List Sn} (h : mayP l = true) (n : Nat) : mayP (l.take n) = true := by
  unfold mayP at h ⊢
  rw [← List.take_append_drop n l, mayF_app] at h
  simp at h
  exact h.1

theorem mayF_at : ∀ (r p : List Sn), mayF p r = true ↔ ∀ i x, r[i]? = some x → stepOK (p ++ r.take i) x = true
  | [], p => by simp [mayF]
  | y :: r, p => by
    simp only [mayF, Bool.and_eq_true, mayF_at r]
    constructor
    · rintro ⟨h0, h⟩ i x hx
      cases i with
      | zero => simp at hx; subst hx; simpa using h0
      | succ i => have := h i x (by simpa using hx); simpa using this
    · intro h
      refine ⟨by simpa using h 0 y rfl, fun i x hx => ?_⟩
      have := h (i + 1) x (by simpa using hx)
      simpa using this

theorem mayP_at {l : List Sn} : mayP l = true ↔ ∀ i x, l[i]? = some x → stepOK (l.take i) x = true := by
  have := mayF_at l []
  unfold mayP
  simpa using this

end Go.Proofs.Ytgdmgeihgkbjaaa
/- The order of those that were decided: unique, and what the laws of chapter 27 say of it. -/
namespace Go.Proofs.Ytgdmgeihgkbjaaa
open Go.RowKit

/-- Who was decided, in the order of the calls of Commit. -/
def ordR (l : List Sn) : List Nm := (l.filter fun x => decide (x.k = 3) && isC 5 x.n l).map (·.n)

/-- A name has at most one step of a kind that comes once. -/
theorem once_kind {l : List Sn} (h : mayP l = true) {i j : Nat} {x y : Sn} (hi : l[i]? = some x) (hj : l[j]? = some y) (hk : x.k = y.k) (hn : x.n = y.n) (h3 : x.k ≠ 1 ∧ x.k ≠ 2) : i = j := by
  have key : ∀ {i j : Nat} {x y : Sn}, l[i]? = some x → l[j]? = some y → x.k = y.k → x.n = y.n → x.k ≠ 1 ∧ x.k ≠ 2 → i < j → False := by
    intro i j x y hi hj hk hn h3 hlt
    have hs := mayP_at.1 h j y hj
    have hin : isC y.k y.n (l.take j) = true := isC_mem.2 ⟨x, by
      rw [List.mem_iff_getElem?]
      exact ⟨i, by rw [List.getElem?_take, if_pos hlt]; exact hi⟩, hk, hn⟩
    unfold stepOK at hs
    simp only [Bool.and_eq_true] at hs
    obtain ⟨_, hs⟩ := hs
    have h1 : ¬ (y.k = 1 ∨ y.k = 2) := by rw [← hk]; omega
    cases hb : isC 0 y.n (l.take j)
    · rw [hb] at hs
      simp at hs
      rw [hs, hb] at hin
      cases hin
    · rw [hb] at hs
      simp only [cond_true, h1, if_false] at hs
      by_cases k3 : y.k = 3
      · rw [k3] at hin; simp [k3, hin] at hs
      by_cases k4 : y.k = 4
      · rw [k4] at hin; simp [k4, hin] at hs
      by_cases k5 : y.k = 5
      · rw [k5] at hin; simp [k5, hin] at hs
      simp [k3, k4, k5] at hs
  rcases Nat.lt_trichotomy i j with hlt | rfl | hlt
  · exact (key hi hj hk hn h3 hlt).elim
  · rfl
  · exact (key hj hi hk.symm hn.symm (by rw [← hk]; exact h3) hlt).elim

theorem first_at {l : List Sn} (h : mayP l = true) {i : Nat} {x : Sn} (hi : l[i]? = some x) (h3 : x.k ≠ 1 ∧ x.k ≠ 2) : firstAt x.k x.n l 0 = i := by
  have hin : isC x.k x.n l = true := isC_mem.2 ⟨x, List.mem_of_getElem? hi, rfl, rfl⟩
  obtain ⟨q, y, h1, h2, h4, _⟩ := firstAt_yes (i := 0) hin
  obtain ⟨e1, e2⟩ := hit_iff.1 h4
  have := once_kind h hi h2 e1.symm e2.symm h3
  rw [h1, this]; simp

/-- A done name has called Commit. -/
theorem done_commit {l : List Sn} (h : mayP l = true) {n : Nm} (hd : isC 5 n l = true) : isC 3 n l = true := by
  obtain ⟨q, y, h1, h2, h4, _⟩ := firstAt_yes (i := 0) hd
  obtain ⟨e1, e2⟩ := hit_iff.1 h4
  have hs := mayP_at.1 h q y h2
  unfold stepOK at hs
  simp only [Bool.and_eq_true] at hs
  obtain ⟨_, hs⟩ := hs
  cases hb : isC 0 y.n (l.take q)
  · rw [hb] at hs; simp at hs; omega
  · rw [hb] at hs
    simp [e1] at hs
    obtain ⟨x, hx, hk, hn⟩ := isC_mem.1 hs.2
    exact isC_mem.2 ⟨x, List.mem_of_mem_take hx, hk, hn.trans e2⟩

theorem mem_ordR {l : List Sn} (h : mayP l = true) {n : Nm} : n ∈ ordR l ↔ isC 5 n l = true := by
  unfold ordR
  simp only [List.mem_map, List.mem_filter, Bool.and_eq_true, decide_eq_true_eq]
  constructor
  · rintro ⟨x, ⟨_, _, h5⟩, rfl⟩; exact h5
  · intro h5
    obtain ⟨x, hx, hk, hn⟩ := isC_mem.1 (done_commit h h5)
    exact ⟨x, ⟨hx, hk, by rw [hn]; exact h5⟩, hn⟩

theorem pairwise_idx {α : Type} {R : α → α → Prop} : ∀ {l : List α}, (∀ (i j : Nat) (x y : α), l[i]? = some x → l[j]? = some y → i < j → R x y) → l.Pairwise R
  | [], _ => List.Pairwise.nil
  | a :: l, h => List.Pairwise.cons (fun b hb => by
      obtain ⟨j, hj⟩ := List.getElem?_of_mem hb
      exact h 0 (j + 1) a b rfl (by simpa using hj) (by omega)) (pairwise_idx fun i j x y hi hj hlt => h (i + 1) (j + 1) x y (by simpa using hi) (by simpa using hj) (by omega))

/-- The order is strictly by the places of Commit. -/
theorem ordR_sorted {l : List Sn} (h : mayP l = true) : (ordR l).Pairwise fun a b => firstAt 3 a l 0 < firstAt 3 b l 0 := by
  unfold ordR
  rw [List.pairwise_map]
  have : l.Pairwise fun x y => x.k = 3 → y.k = 3 → firstAt 3 x.n l 0 < firstAt 3 y.n l 0 := by
    refine pairwise_idx fun i j x y hi hj hlt hx hy => ?_
    have h1 := first_at h hi (by omega)
    have h2 := first_at h hj (by omega)
    rw [hx] at h1
    rw [hy] at h2
    rw [h1, h2]; omega
  have h2 := this.filter fun x => decide (x.k = 3) && isC 5 x.n l
  refine h2.imp_of_mem ?_
  intro a b ha hb hr
  simp only [List.mem_filter, Bool.and_eq_true, decide_eq_true_eq] at ha hb
  exact hr ha.2.1 hb.2.1

theorem ordR_nodup {l : List Sn} (h : mayP l = true) : (ordR l).Nodup :=
  (ordR_sorted h).imp fun hlt e => by rw [e] at hlt; omega

theorem perm_of_mem {α : Type} [BEq α] [LawfulBEq α] {a b : List α} (ha : a.Nodup) (hb : b.Nodup) (h : ∀ x, x ∈ a ↔ x ∈ b) : a.Perm b := by
  rw [List.perm_iff_count]
  intro x
  rw [ha.count, hb.count]
  simp [h x]

/-- Who sorts the decided by Commit has this order. -/
theorem ord_unique {l : List Sn} (h : mayP l = true) {out : List Nm} (hn : out.Nodup) (hm : ∀ n, n ∈ out ↔ isC 5 n l = true) (hs : out.Pairwise fun a b => firstAt 3 a l 0 ≤ firstAt 3 b l 0) : out = ordR l := by
  have hp : out.Perm (ordR l) := perm_of_mem hn (ordR_nodup h) (fun n => (hm n).trans (mem_ordR h).symm)
  refine hp.eq_of_pairwise (le := fun a b => firstAt 3 a l 0 ≤ firstAt 3 b l 0) ?_ hs ((ordR_sorted h).imp fun hlt => Int.le_of_lt hlt)
  intro a b ha hb hab hba
  have ha' := done_commit h ((hm a).1 ha)
  have hb' := done_commit h ((mem_ordR h).1 hb)
  obtain ⟨q, y, h1, h2, h4, _⟩ := firstAt_yes (i := 0) ha'
  obtain ⟨q', y', h1', h2', h4', _⟩ := firstAt_yes (i := 0) hb'
  have : q = q' := by omega
  subst this
  rw [h2] at h2'
  cases h2'
  exact (hit_iff.1 h4).2.symm.trans (hit_iff.1 h4').2

/-! ### the laws -/

/-- As many are decided as there are steps that say so. -/
theorem ordR_length {l : List Sn} (h : mayP l = true) : (ordR l).length = l.countP fun x => decide (x.k = 5) := by
  have hd : (((l.filter fun x => decide (x.k = 5)).map (·.n))).Nodup := by
    show List.Pairwise _ _
    rw [List.pairwise_map]
    have : l.Pairwise fun x y => x.k = 5 → y.k = 5 → x.n ≠ y.n := by
      refine pairwise_idx fun i j x y hi hj hlt hx hy e => ?_
      have := once_kind h hi hj (hx.trans hy.symm) e (by omega)
      omega
    have h2 := this.filter fun x => decide (x.k = 5)
    refine h2.imp_of_mem ?_
    intro a b ha hb hr
    simp only [List.mem_filter, decide_eq_true_eq] at ha hb
    exact hr ha.2 hb.2
  have hp : (ordR l).Perm ((l.filter fun x => decide (x.k = 5)).map (·.n)) := perm_of_mem (ordR_nodup h) hd (fun n => by
    rw [mem_ordR h, isC_mem]
    simp only [List.mem_map, List.mem_filter, decide_eq_true_eq]
    constructor
    · rintro ⟨x, hx, hk, hn⟩; exact ⟨x, ⟨hx, hk⟩, hn⟩
    · rintro ⟨x, ⟨hx, hk⟩, hn⟩; exact ⟨x, hx, hk, hn⟩)
  rw [hp.length_eq, List.length_map, List.countP_eq_length_filter]

/-- Whoever has a step has begun ahead of it. -/
theorem begin_ahead {l : List Sn} (h : mayP l = true) {i : Nat} {x : Sn} (hi : l[i]? = some x) (h0 : x.k ≠ 0) : firstAt 0 x.n l 0 < i ∧ isC 0 x.n l = true := by
  have hs := mayP_at.1 h i x hi
  unfold stepOK at hs
  simp only [Bool.and_eq_true] at hs
  obtain ⟨_, hs⟩ := hs
  cases hb : isC 0 x.n (l.take i)
  · rw [hb] at hs; simp at hs; exact absurd hs h0
  · obtain ⟨q, y, h1, h2, h4, _⟩ := firstAt_yes (i := 0) hb
    have hlt := (List.getElem?_eq_some_iff.1 h2).1
    rw [List.length_take] at hlt
    have e : firstAt 0 x.n l 0 = firstAt 0 x.n (l.take i) 0 := by
      rw [← List.take_append_drop i l, firstAt_app, List.take_append_drop, if_pos hb]
    refine ⟨by rw [e, h1]; omega, ?_⟩
    rw [← List.take_append_drop i l, isC_append, hb]; rfl

/-- The order extends real time. -/
theorem order_time {l : List Sn} (h : mayP l = true) {a b : Nm} (ha : isC 3 a l = true) (hc : firstAt 3 a l 0 < firstAt 3 b l 0) (h2 : firstAt 4 b l 0 < firstAt 0 a l 0) : ¬ firstAt 3 b l 0 < firstAt 4 b l 0 := by
  obtain ⟨q, y, e1, e2, e3, _⟩ := firstAt_yes (i := 0) ha
  obtain ⟨k1, rfl⟩ := hit_iff.1 e3
  have := (begin_ahead h e2 (by omega)).1
  omega

theorem filter_sub {α : Type} {p q : α → Bool} : ∀ (l : List α), (∀ x, p x = true → q x = true) → (l.filter p).Sublist (l.filter q)
  | [], _ => List.Sublist.slnil
  | x :: l, h => by
    have ih := filter_sub l h
    cases hp : p x with
    | true => rw [List.filter_cons_of_pos hp, List.filter_cons_of_pos (h x hp)]; exact ih.cons_cons x
    | false =>
      rw [List.filter_cons_of_neg (by simp [hp])]
      cases hq : q x with
      | true => rw [List.filter_cons_of_pos hq]; exact ih.cons x
      | false => rw [List.filter_cons_of_neg (by simp [hq])]; exact ih

/-- A head's order is a part of the whole's. -/
theorem ordR_take {l : List Sn} (n : Nat) : (ordR (l.take n)).Sublist (ordR l) := by
  unfold ordR
  refine List.Sublist.map _ ?_
  refine List.Sublist.trans (l₂ := (l.take n).filter fun x => decide (x.k = 3) && isC 5 x.n l) ?_ ((List.take_sublist n l).filter _)
  refine filter_sub (l.take n) ?_
  intro x hx
  simp only [Bool.and_eq_true, decide_eq_true_eq] at hx ⊢
  refine ⟨hx.1, ?_⟩
  rw [← List.take_append_drop n l, isC_append, hx.2]; rfl

/-- Going over b, how many of a were met. -/
def metF (a : List Nm) : List Nm → Nat → Nat
  | [], at_ => at_
  | x :: b, at_ => metF a b (if a[at_]? = some x then at_ + 1 else at_)

theorem metF_sub : ∀ (b a : List Nm) (k : Nat), (a.drop k).Sublist b → k ≤ a.length → metF a b k = a.length
  | [], a, k, h, hk => by
    have := List.sublist_nil.1 h
    simp [metF]
    have := congrArg List.length this
    simp at this; omega
  | x :: b, a, k, h, hk => by
    unfold metF
    by_cases hx : a[k]? = some x
    · rw [if_pos hx]
      refine metF_sub b a (k + 1) ?_ (List.getElem?_eq_some_iff.1 hx).1
      have e := drop_cons hx
      rw [e] at h
      exact List.cons_sublist_cons.1 h
    · rw [if_neg hx]
      refine metF_sub b a k ?_ hk
      cases hd : a.drop k with
      | nil => exact List.nil_sublist _
      | cons y r =>
        rw [hd] at h
        have hy : a[k]? = some y := by
          have := congrArg (fun t => t[0]?) hd
          simpa using this
        rcases List.sublist_cons_iff.1 h with h | ⟨r', e, h⟩
        · exact h
        · cases e
          exact absurd hy hx

end Go.Proofs.Ytgdmgeihgkbjaaa
/- 'order.Order' -/
namespace Go.Proofs.Ytgdmgeihgkbjaaa
open Go.RowKit Go.Shelf

/-- What Order hands back. -/
def OrderR (base : Nat) (l : List Sn) (e : Ending) (W : World) : Prop :=
  (mayP l = false ∧ e = .returned (.tuple #[.slice none 0 0, .int .i64 2])) ∨ (mayP l = true ∧ ∃ v, e = .returned (.tuple #[v, .int .i64 0]) ∧ W.ownsRow base 34 3 v (ordR l).length ((ordR l).flatMap Nm.cells))

def doneL (m : LM) : List Nm := (m.filter fun p => decide (0 < p.2.2.d)).map (·.1)

theorem info34 : (Try.prog.info? 34).map (fun i => (i.zero, i.size, i.bytes)) = some (some (.agg #[.int .i64 0, .int .i64 0, .int .i64 0]), 3, 24) := by kernel_rfl

theorem look_of_mem {m : LM} (hk : m.Pairwise fun p q => p.1 ≠ q.1) {p : Nm × (Nat × Lf)} (h : p ∈ m) : look m p.1 = some p.2 := by
  induction m with
  | nil => cases h
  | cons q m ih =>
    obtain ⟨h1, h2⟩ := List.pairwise_cons.1 hk
    unfold look at ih ⊢
    rcases List.mem_cons.1 h with rfl | h
    · simp
    · have : ¬ q.1 = p.1 := h1 p h
      simpa [this] using ih h2 h

theorem lv_look {l : List Sn} {m : LM} (hinv : LvInv l (projL m)) {n : Nm} {bf : Nat × Lf} (h : look m n = some bf) : isC 0 n l = true ∧ bf.2 = ⟨firstAt 0 n l 0 + 1, firstAt 3 n l 0 + 1, firstAt 4 n l 0 + 1, firstAt 5 n l 0 + 1⟩ := by
  have h1 := hinv.1 n
  rw [look_proj, h] at h1
  split at h1
  · rename_i hc
    refine ⟨hc, ?_⟩
    simpa using h1
  · cases h1

theorem lv_some {l : List Sn} {m : LM} (hinv : LvInv l (projL m)) {n : Nm} {k : Int} (h : isC k n l = true) : ∃ b, look m n = some (b, ⟨firstAt 0 n l 0 + 1, firstAt 3 n l 0 + 1, firstAt 4 n l 0 + 1, firstAt 5 n l 0 + 1⟩) := by
  have h0 : isC 0 n l = true := by
    cases e : isC 0 n l with
    | true => rfl
    | false => rw [hinv.2 n e k] at h; cases h
  have h1 := hinv.1 n
  rw [look_proj, if_pos h0] at h1
  obtain ⟨⟨b, f⟩, h2, h3⟩ := Option.map_eq_some_iff.1 h1
  exact ⟨b, by rw [h2]; congr 2⟩

theorem done_mem {l : List Sn} {m : LM} (hinv : LvInv l (projL m)) (hk : m.Pairwise fun p q => p.1 ≠ q.1) {n : Nm} : n ∈ doneL m ↔ isC 5 n l = true := by
  unfold doneL
  simp only [List.mem_map, List.mem_filter, decide_eq_true_eq]
  constructor
  · rintro ⟨p, ⟨hp, hd⟩, rfl⟩
    have := (lv_look hinv (look_of_mem hk hp)).2
    rw [this] at hd
    exact fa_pos.1 hd
  · intro h
    obtain ⟨b, hb⟩ := lv_some hinv h
    exact ⟨(n, _), ⟨look_mem hb, fa_pos.2 h⟩, rfl⟩

theorem done_nodup {m : LM} (hk : m.Pairwise fun p q => p.1 ≠ q.1) : (doneL m).Nodup := by
  unfold doneL
  show List.Pairwise _ _
  rw [List.pairwise_map]
  exact hk.filter _

theorem done_perm {l : List Sn} {m : LM} (hmay : mayP l = true) (hinv : LvInv l (projL m)) (hk : m.Pairwise fun p q => p.1 ≠ q.1) : (doneL m).Perm (ordR l) :=
  perm_of_mem (done_nodup hk) (ordR_nodup hmay) (fun _ => (done_mem hinv hk).trans (mem_ordR hmay).symm)

theorem ordR_le (l : List Sn) : (ordR l).length ≤ l.length := by
  unfold ordR
  rw [List.length_map]
  exact List.length_filter_le _ _

theorem order_unique {l : List Sn} {m : LM} (hmay : mayP l = true) (hinv : LvInv l (projL m)) (hk : m.Pairwise fun p q => p.1 ≠ q.1) {acc out : List Nm} (ha : acc.Perm (doneL m)) (ho : out.Perm acc) (hs : out.Pairwise fun a b => comOf m a ≤ comOf m b) : out = ordR l := by
  have hp := ho.trans ha
  refine ord_unique hmay (hp.symm.nodup (done_nodup hk)) (fun n => (hp.mem_iff).trans (done_mem hinv hk)) ?_
  refine hs.imp_of_mem fun {a b} h1 h2 hab => ?_
  have e : ∀ n, n ∈ out → comOf m n = firstAt 3 n l 0 + 1 := fun n hn => by
    obtain ⟨bb, hb⟩ := lv_some hinv ((done_mem hinv hk).1 (hp.mem_iff.1 hn))
    simp [comOf, hb]
  have := e a h1
  have := e b h2
  omega

theorem owns_base {W : World} {b b' : Nat} {e : TypeId} {size n : Nat} {v : Value} {xs : List Value} (h : W.ownsRow b e size v n xs) (hb : b' ≤ b) : W.ownsRow b' e size v n xs := by
  obtain ⟨h1, h2⟩ := h
  refine ⟨h1, ?_⟩
  rcases h2 with h2 | ⟨g, cap, cur, e1, e2, e3⟩
  · exact .inl h2
  · exact .inr ⟨g, cap, cur, e1, by omega, e3⟩

theorem doneL_erase {rest : LM} {i : Nat} {p : Nm × (Nat × Lf)} (hp : rest[i]? = some p) : (doneL rest).Perm ((if 0 < p.2.2.d then [p.1] else []) ++ doneL (rest.eraseIdx i)) := by
  have h := ((eraseIdx_perm hp).filter fun p => decide (0 < p.2.2.d)).map (·.1)
  unfold doneL
  refine h.trans ?_
  by_cases hd : 0 < p.2.2.d
  · simp [hd]
  · simp [hd]

theorem cells_new3 (w : World) (o : Obj) (nm : Nm) : ∀ j u, nm.cells[j]? = some u → ((w.alloc o).alloc (.cells #[.int .i64 nm.s, .int .i64 nm.i, .int .i64 nm.t] 34)).cell? ((⟨w.heap.size + 1, 0, none⟩ : Addr).add j) = some u := by
  have h := cells_new (w.alloc o) nm.cells 34
  have e : (w.alloc o).heap.size = w.heap.size + 1 := by simp
  rw [e] at h
  exact h

set_option maxRecDepth 100000 in
set_option maxHeartbeats 2000000 in
theorem order_any (l : List Sn) (v : Value) (w : World) (hl : l.length ≤ 100000) (hv : Sns w.heap.size w v l) :
    Calls Try.prog 21 #[v] w fun e w' => OrderR w.heap.size l e w' ∧ Below w.heap.size w w' := by
  obtain ⟨i0, hi, hz0, hz1, hz2⟩ := info_parts info34
  have HV := Lib.hid hv
  clear hv
  go_enter Try.func21, Try.ntmps21
  go_wp2_with fail
  refine (lives_any l v w hl HV.out).mono ?_
  rintro e w1 ⟨hR, hB⟩
  rcases hR with ⟨hno, rfl⟩ | ⟨M, m, hl1, rfl, hL⟩
  · have hm : mayP l = false := by
      cases h : mayP l with
      | false => rfl
      | true => obtain ⟨m, h1, _⟩ := lives_may h; rw [hno] at h1; cases h1
    have HM := Lib.hid hm
    have HB := Lib.hid hB
    clear hm hB hno
    go_wp2_with fail
    go_ret2
    exact ⟨.inl ⟨HM.out, rfl⟩, HB.out.alloc HB.out.size _⟩
  · obtain ⟨hmay, hinv⟩ := may_of_lives hl1
    have hB2 : Below w1.heap.size w1 (w1.alloc (.cells #[.map (some M)] 81)) := below_alloc1 _
    have hc2 : (w1.alloc (.cells #[.map (some M)] 81)).heap[w1.heap.size]? = some (.cells #[.map (some M)] 81 (0, 0)) := heap_alloc_new _ _
    have hL2 : LivesAt w.heap.size M (w1.alloc (.cells #[.map (some M)] 81)) m := hL.kept (fun k _ hk => hB2.block k hk)
    have hs2 : (w1.alloc (.cells #[.map (some M)] 81)).heap.size = w1.heap.size + 1 := by simp
    have HMAY := Lib.hid hmay
    have HINV := Lib.hid hinv
    have HL2 := Lib.hid hL2
    have HC2 := Lib.hid hc2
    have HBB := Lib.hid (hB.trans (hB2.mono hB.size))
    have HSZ := Lib.hid hB.size
    have HS2 := Lib.hid hs2
    have HLL := Lib.hid hl1
    clear hmay hinv hL2 hc2 hB hB2 hL hl1 hs2
    go_wp2_with (first | (at_range; refine wpList_range_m rfl (.tmp 16) 81 rfl Try.underlying81 HL2.out.map rfl ?_; intro w3 hrg hg3 hs3))
    go_frame
    generalize w1.alloc (.cells #[.map (some M)] 81) = w2 at *
    have hperm := done_perm HMAY.out HINV.out HL2.out.keys
    have hbnd : (doneL m).length ≤ 100000 := by have := hperm.length_eq; have := ordR_le l; omega
    have hB3 : Below w2.heap.size w2 w3 := (Below.refl _ _).grown hg3 (Nat.le_refl _) (fun k e => by cases e)
    have HPERM := Lib.hid hperm
    have HBND := Lib.hid hbnd
    have HB3 := Lib.hid hB3
    have HRG := Lib.hid hrg
    have HS3 := Lib.hid hs3
    clear hperm hbnd hB3 hrg hg3 hs3
    go_loopg [6] m.length (fun kx vo wr => ∃ (rest : LM) (acc : List Nm), rest.length ≤ kx ∧ RangesM nmV lfPtr wr M w2.heap.size m rest ∧ wr.ownsRow (w2.heap.size + 1) 34 3 vo acc.length (acc.flatMap Nm.cells) ∧ Below w2.heap.size w2 wr ∧
      Hid ((acc ++ doneL rest).Perm (doneL m)) ∧ Hid (∀ p ∈ rest, p ∈ m) ∧ w2.heap.size < wr.heap.size)
    case atStart => exact ⟨m, [], Nat.le_refl _, HRG.out, World.ownsRow_nil _ _ _ _, HB3.out, (List.Perm.refl _ : (doneL m).Perm _), (fun _ h => h : ∀ p ∈ m, p ∈ m), by rw [HS3.out]; omega⟩
    case round =>
      obtain ⟨rest, acc, hkx, hrg, hown, hB, HP, HI, hsz⟩ := hrel
      have HRG := Lib.hid hrg
      have HOWN := Lib.hid hown
      have HB := Lib.hid hB
      clear hrg hown hB
      have hne1 : w1.heap.size < w2.heap.size := by have := HS2.out; omega
      have HNE1 := Lib.hid hne1
      clear hne1
      go_wp2_with (first | (at_next; refine wpList_next_m rfl (.tmp 17) rfl HRG.out rfl ?_ ?_))
      · intro h0
        subst h0
        have hp : acc.Perm (doneL m) := by have := HP.out; simpa [doneL] using this
        have HPP := Lib.hid hp
        have hc4 : wr.heap[w1.heap.size]? = some (.cells #[.map (some M)] 81 (0, 0)) := (HB.out.block _ HNE1.out).trans HC2.out
        have hLM : M < w2.heap.size := HL2.out.map.lt
        have hL4 : LivesAt w.heap.size M wr m := HL2.out.kept (fun k _ hk => HB.out.block k hk)
        have hall : ∀ n ∈ acc, (look m n).isSome = true := fun n hn => by
          obtain ⟨b, hb⟩ := lv_some HINV.out ((done_mem HINV.out HL2.out.keys).1 (hp.mem_iff.1 hn))
          rw [hb]; rfl
        have hlen : acc.length < 100000000 := by have := hp.length_eq; have := HBND.out; omega
        have HC := sort_any m M w1.heap.size (w2.heap.size + 1) w.heap.size acc u6 wr hL4 hc4 HOWN.out hall hlen
        have HCC := Lib.hid HC
        clear HC hc4 hL4 hall hlen hp hLM HRG HP
        go_wp2_with (refine HCC.out.mono ?_; rintro e w5 ⟨rfl, out, ho, hs, hown5, hg5⟩)
        have heq : out = ordR l := order_unique HMAY.out HINV.out HL2.out.keys HPP.out ho hs
        subst heq
        have HO5 : Hid (w5.ownsRow w.heap.size 34 3 u6 (ordR l).length ((ordR l).flatMap Nm.cells)) := owns_base hown5 (by have := HSZ.out; have := HS2.out; omega)
        have HB5 : Hid (Below w.heap.size w w5) := (HBB.out.trans (HB.out.mono HBB.out.size)).grown hg5 (by have := HBB.out.size; omega) (fun k e => by have := (HOWN.out.lt k e).1; have := HBB.out.size; omega)
        clear hown5 hg5 ho hs
        go_wp2_with fail
        go_ret2
        exact ⟨.inr ⟨HMAY.out, u6, rfl, HO5.out⟩, HB5.out⟩
      · intro i nm bb f w4 hp hrg4 hg4 hs4 hen
        have hen' : (Instr.entry (.pointer (some ⟨w2.heap.size, 0, none⟩))).run Try.prog w4 = .ok (.tuple #[.agg #[.int .i64 nm.s, .int .i64 nm.i, .int .i64 nm.t], .pointer (some ⟨bb, 0, none⟩)]) w4 := hen
        have hmem := HI.out _ (List.mem_of_getElem? hp)
        have hB4 : Below w2.heap.size w2 w4 := HB.out.grown hg4 (by omega) (fun k e => by cases e; exact Nat.le_refl _)
        have hcb : w4.heap[bb]? = some (.cells f.arr 86 (0, 0)) := (hB4.block _ (lt_of_heap (HL2.out.at_ _ hmem).2)).trans (HL2.out.at_ _ hmem).2
        have hcd : w4.cell? ⟨bb, 3, none⟩ = some (.int .i64 f.d) := by rw [cell_of_row w4 _ _ _ 86 (0, 0) hcb]; rfl
        have hbb4 : bb < w4.heap.size := lt_of_heap hcb
        have hown4 : w4.ownsRow (w2.heap.size + 1) 34 3 u6 acc.length (acc.flatMap Nm.cells) := by
          refine HOWN.out.kept hg4 ?_
          cases e : u6.ownBlock with
          | none => exact .inl rfl
          | some k => refine .inr (fun e2 => ?_); cases e2; have := (HOWN.out.lt _ e).1; omega
        have hrl : (rest.eraseIdx i).length + 1 = rest.length := by
          have := (eraseIdx_perm hp).length_eq
          simpa using this.symm
        have hpe := doneL_erase hp
        have hI' : ∀ p ∈ rest.eraseIdx i, p ∈ m := fun p h => HI.out p ((List.eraseIdx_sublist _ _).mem h)
        have HI' := Lib.hid hI'
        have HPE := Lib.hid hpe
        have HP0 := Lib.hid hp
        have HRG4 := Lib.hid hrg4
        have HB4 := Lib.hid hB4
        have HOWN4 := Lib.hid hown4
        have HRL := Lib.hid hrl
        have HS4 := Lib.hid hs4
        clear hen hmem hB4 hcb hown4 hrl hpe hp hrg4 hg4 hs4 HRG HOWN HI hI'
        rw [show nmV nm = .agg #[.int .i64 nm.s, .int .i64 nm.i, .int .i64 nm.t] from rfl, show lfPtr (bb, f) = .pointer (some ⟨bb, 0, none⟩) from rfl]
        by_cases hd : 0 < f.d
        · have e1 : decide (f.d > 0) = true := by simpa using hd
          have hnl : acc.length + 1 ≤ 100001 := by
            have h1 := HP.out.length_eq
            have := HBND.out
            simp at h1; omega
          go_wp2_with (at_builtin; refine wpList_append_own _ rfl _ _ 45 rfl (w2.heap.size + 1) 34 i0 (.agg #[.int .i64 0, .int .i64 0, .int .i64 0]) 3 24 Try.underlying45 hi hz0 hz1 hz2 rfl (by decide) _ _ _ rfl ((HOWN4.out.alloc _).alloc _) ⟨w4.heap.size + 1, 0, none⟩ 1 1 nm.cells rfl rfl (cells_new3 _ _ _) (Nm.cells_one nm) (by unfold maxLen; omega) (by omega) (by have := HS4.out; simp; omega) ?_; intro v5 w5 hown5 hg5 _)
          have hs5 := hg5.size
          have H5 := Lib.hid hown5
          have HG5 := Lib.hid hg5
          clear hown5 hg5
          go_roundg (gk - 1)
          case measure => have := HRL.out; omega
          case rel =>
            have hrow : ∀ k, u6.ownBlock = some k → w2.heap.size + 1 ≤ k := fun k e => (HOWN4.out.lt k e).1
            have hML := HRG4.out.map.lt
            have hMr : M < w2.heap.size := HL2.out.map.lt
            refine ⟨rest.eraseIdx i, acc ++ [nm], by have := HRL.out; omega, HRG4.out.kept ?_ ?_, ?_, ?_, ?_, HI', ?_⟩
            · exact (HG5.out.block _ (by simp; omega) (fun e => by have := hrow _ e.symm; omega)).trans ((heap_alloc_old _ _ (by simp; omega)).trans (heap_alloc_old _ _ hML))
            · exact (HG5.out.block _ (by have := HRG4.out.lt; simp; omega) (fun e => by have := hrow _ e.symm; omega)).trans ((heap_alloc_old _ _ (by have := HRG4.out.lt; simp; omega)).trans (heap_alloc_old _ _ HRG4.out.lt))
            · have := H5.out
              simpa using this
            · refine ((HB4.out.alloc HB4.out.size _).alloc (by have := HB4.out.size; simp; omega) _).grown HG5.out (by have := HB4.out.size; simp; omega) (fun k e => by have := hrow _ e; omega)
            · show _
              have h1 := HPE.out
              rw [if_pos hd] at h1
              have h2 := (List.Perm.append_left acc h1).symm.trans HP.out
              have h3 : ((acc ++ [nm]) ++ doneL (rest.eraseIdx i)).Perm (doneL m) := by simpa using h2
              exact h3
            · have := HS4.out
              simp at hs5; omega
        · have e1 : decide (f.d > 0) = false := by simpa using hd
          have hd' : f.d ≤ 0 := by omega
          have HD := Lib.hid hd
          clear hd
          go_wp2_with fail
          go_roundg (gk - 1)
          case measure => have := HRL.out; omega
          case rel =>
            refine ⟨rest.eraseIdx i, acc, by have := HRL.out; omega, HRG4.out.kept (heap_alloc_old _ _ HRG4.out.map.lt) (heap_alloc_old _ _ HRG4.out.lt), HOWN4.out.alloc _, HB4.out.alloc HB4.out.size _, ?_, HI', by have := HS4.out; simp; omega⟩
            show _
            have h1 := HPE.out
            rw [if_neg (show ¬ 0 < f.d by have := HD.out; omega), List.nil_append] at h1
            exact (List.Perm.append_left acc h1).symm.trans HP.out

end Go.Proofs.Ytgdmgeihgkbjaaa
namespace Go.Proofs.Ytgdmgeihgkbjaaa
open Go.RowKit Go.Shelf

/-- A slice of the call's own, read. -/
theorem rows_of_owns {α : Type} {enc : α → List Value} {k : Nat} (hk : ∀ x, (enc x).length = k) {W : World} {base : Nat} {e : TypeId} {v : Value} {l : List α} (h : W.ownsRow base e k v l.length (l.flatMap enc)) : Rows enc k W.heap.size W v l := by
  rcases h.2 with ⟨rfl, h0⟩ | ⟨g, cap, cur, rfl, hb, hg, hn, hc, hcs, ht⟩
  · have : l = [] := List.length_eq_zero_iff.1 h0
    subst this
    exact Rows.nil _ _ _ _
  · refine ⟨_, cap, rfl, (fun h => by cases h), fun b off s e _ => ?_⟩
    cases e
    refine ⟨rfl, lt_of_heap hg, fun i x hx j c hc2 => ?_⟩
    have hj : j < k := by
      have := (List.getElem?_eq_some_iff.1 hc2).1
      rwa [hk] at this
    have hi : i < l.length := (List.getElem?_eq_some_iff.1 hx).1
    have hlt : i * k + j < l.length * k := by
      have := Nat.mul_le_mul_right k hi
      rw [Nat.succ_mul] at this
      omega
    have := flat_get hk l i x hx j hj
    rw [← ht, List.getElem?_take, if_pos hlt, hc2] at this
    rw [cell_of_row W g _ cur e (0, 0) hg, Nat.zero_add]
    simpa using this

def nmAt (w : World) (b o : Nat) (n : Nm) : Prop :=
  w.cell? ⟨b, o, none⟩ = some (.int .i64 n.s) ∧ w.cell? ⟨b, o + 1, none⟩ = some (.int .i64 n.i) ∧ w.cell? ⟨b, o + 2, none⟩ = some (.int .i64 n.t)

theorem RowsAt.nm {w : World} {b off : Nat} {l : List Nm} (h : RowsAt Nm.cells 3 w b off l) {q : Nat} {n : Nm} (hx : l[q]? = some n) : nmAt w b (off + q * 3) n :=
  ⟨h q n hx 0 _ rfl, h q n hx 1 _ rfl, h q n hx 2 _ rfl⟩

/-- A block that was laid whole holds its rows, from each on. -/
theorem rows_flat {α : Type} {enc : α → List Value} {k : Nat} (hk : ∀ x, (enc x).length = k) {w : World} {b : Nat} {l : List α} {t : TypeId} {fr : Nat × Nat} (hb : w.heap[b]? = some (.cells (l.flatMap enc).toArray t fr)) (d : Nat) : RowsAt enc k w b (d * k) (l.drop d) := by
  intro i x hx j c hc
  have hj : j < k := by
    have := (List.getElem?_eq_some_iff.1 hc).1
    rwa [hk] at this
  have hx' : l[d + i]? = some x := by simpa using hx
  rw [cell_of_row w b _ _ t fr hb]
  have e : d * k + i * k + j = (d + i) * k + j := by rw [Nat.add_mul]
  rw [e, List.getElem?_toArray, flat_get hk l (d + i) x hx' j hj]
  exact hc

theorem sns_lit (w : World) (l : List Sn) : Sns (w.alloc (.cells (l.flatMap Sn.cells).toArray 36)).heap.size (w.alloc (.cells (l.flatMap Sn.cells).toArray 36)) (.slice (some ⟨w.heap.size, 0, none⟩) l.length l.length) l := by
  refine ⟨_, l.length, rfl, (fun h => by cases h), fun b off s e _ => ?_⟩
  cases e
  refine ⟨rfl, by simp, ?_⟩
  have := rows_flat (fun x => x.cells_length) (heap_alloc_new w (.cells (l.flatMap Sn.cells).toArray 36)) 0
  simpa using this

end Go.Proofs.Ytgdmgeihgkbjaaa
/- 'order.May', 'order.Ahead', 'cashboxlaw27.commits', 'cashboxlaw27.answered' -/
namespace Go.Proofs.Ytgdmgeihgkbjaaa
open Go.RowKit Go.Shelf

theorem lives_form (l : List Sn) (v : Value) (w : World) (hl : l.length ≤ 100000) (hv : Sns w.heap.size w v l) :
    Calls Try.prog 51 #[v] w fun e w' => ((mayP l = false ∧ e = .returned (.tuple #[.map none, .bool false])) ∨ ∃ M m, mayP l = true ∧ LvInv l (projL m) ∧ e = .returned (.tuple #[.map (some M), .bool true]) ∧ LivesAt w.heap.size M w' m) ∧ Below w.heap.size w w' :=
  (lives_any l v w hl hv).mono fun e w' ⟨h, hb⟩ => ⟨by
    rcases h with ⟨hno, he⟩ | ⟨M, m, hl1, he, hL⟩
    · refine .inl ⟨?_, he⟩
      cases h : mayP l with
      | false => rfl
      | true => obtain ⟨m, h1, _⟩ := lives_may h; rw [hno] at h1; cases h1
    · obtain ⟨h1, h2⟩ := may_of_lives hl1
      exact .inr ⟨M, m, h1, h2, he, hL⟩, hb⟩

theorem may22_any (l : List Sn) (v : Value) (w : World) (hl : l.length ≤ 100000) (hv : Sns w.heap.size w v l) :
    Calls Try.prog 22 #[v] w fun e w' => e = .returned (.bool (mayP l)) ∧ Below w.heap.size w w' := by
  have HC := Lib.hid (lives_form l v w hl hv)
  clear hv
  go_enter Try.func22, Try.ntmps22
  go_wp2_with fail
  refine HC.out.mono ?_
  rintro e w1 ⟨h | ⟨M, m, h⟩, hB⟩
  · obtain ⟨hm, rfl⟩ := h
    have HM := Lib.hid hm
    clear hm
    go_wp2_with fail
    go_ret
    exact ⟨by rw [HM.out]; rfl, hB⟩
  · obtain ⟨hm, _, rfl, _⟩ := h
    have HM := Lib.hid hm
    clear hm
    go_wp2_with fail
    go_ret
    exact ⟨by rw [HM.out]; rfl, hB⟩

set_option maxHeartbeats 1000000 in
theorem commits_any (l : List Sn) (v : Value) (n : Nm) (w : World) (hl : l.length ≤ 100000) (hv : Sns w.heap.size w v l) :
    Calls Try.prog 23 #[v, .agg #[.int .i64 n.s, .int .i64 n.i, .int .i64 n.t]] w
      fun e w' => e = .returned (.int .i64 (firstAt 3 n l 0)) ∧ Below w.heap.size w w' := by
  obtain ⟨a, cap, rfl, hn, ha⟩ := hv
  have HN := Lib.hid hn
  have HA := Lib.hid ha
  clear hn ha
  go_enter Try.func23, Try.ntmps23
  go_wp2
  go_loopw [8] (fun i wr => ∃ q : Nat, q ≤ l.length ∧ i = .int .i64 q ∧ firstAt 3 n l 0 = firstAt 3 n (l.drop q) q ∧ (∃ m, wr = (w.alloc (.cells #[.int .i64 n.s, .int .i64 n.i, .int .i64 n.t] 34)).drewN m)) (fun i _ => l.length - (intOf i).toNat)
  case atStart => exact ⟨0, Nat.zero_le _, rfl, rfl, 0, rfl⟩
  case round =>
    obtain ⟨q, hq, rfl, hF, m, rfl⟩ := hrel
    have HF := Lib.hid hF
    clear hF
    by_cases hlt : q < l.length
    · obtain ⟨x, hx⟩ : ∃ x, l[q]? = some x := ⟨_, List.getElem?_eq_getElem hlt⟩
      obtain ⟨b, off, rfl, hb, hr⟩ := rows_some HN.out HA.out hlt
      obtain ⟨c0, c1, c2, c3, _⟩ := hr.sn hx
      have HX := Lib.hid hx
      clear hr hx
      by_cases hk : x.k = 3
      · have hk' : (x.k == 3) = true := by simpa using hk
        have hen := eql_nm x.n n
        by_cases hn : x.n = n
        · have hn' : decide (x.n = n) = true := by simpa using hn
          go_wp2
          go_quiet (fail)
          go_wp2
          go_ret
          exact ⟨by rw [HF.out, drop_cons HX.out]; simp [firstAt, hit, hk, hn], Below.drewN' (Below.drewN' (below_alloc1 _) _) _⟩
        · have hn' : decide (x.n = n) = false := by simpa using hn
          go_wp2
          go_quiet (fail)
          go_wp2
          go_roundw
          case rel => exact ⟨q + 1, by omega, by go_num, by rw [HF.out, drop_cons HX.out]; simp [firstAt, hit, hn], _, rfl⟩
          case measure => simp [intOf]; omega
      · have hk' : (x.k == 3) = false := by simpa using hk
        go_wp2
        go_quiet (fail)
        go_wp2
        go_roundw
        case rel => exact ⟨q + 1, by omega, by go_num, by rw [HF.out, drop_cons HX.out]; simp [firstAt, hit, hk], _, rfl⟩
        case measure => simp [intOf]; omega
    · go_wp2
      go_ret
      exact ⟨by rw [HF.out, drop_end hlt]; rfl, Below.drewN' (below_alloc1 _) _⟩

def ansF (c : Int) (n : Nm) : List Sn → Nat → Bool
  | [], _ => false
  | x :: r, i => if hit 4 n x then decide ((i : Int) > c) else ansF c n r (i + 1)

/-- Was n answered behind its Commit's call? -/
def ansP (l : List Sn) (n : Nm) : Bool := ansF (firstAt 3 n l 0) n l 0

theorem ansF_first (c : Int) (n : Nm) : ∀ (l : List Sn) (i : Nat), ansF c n l i = true → firstAt 4 n l i > c ∧ 0 ≤ firstAt 4 n l i
  | [], _, h => by cases h
  | x :: r, i, h => by
    unfold ansF at h
    unfold firstAt
    split at h
    · rename_i hh; rw [if_pos hh]; simp at h; omega
    · rename_i hh; rw [if_neg hh]; exact ansF_first c n r (i + 1) h

set_option maxHeartbeats 1000000 in
theorem answered_any (l : List Sn) (v : Value) (n : Nm) (w : World) (hl : l.length ≤ 100000) (hv : Sns w.heap.size w v l) :
    Calls Try.prog 25 #[v, .agg #[.int .i64 n.s, .int .i64 n.i, .int .i64 n.t]] w
      fun e w' => e = .returned (.bool (ansP l n)) ∧ Below w.heap.size w w' := by
  have HV := Lib.hid hv
  obtain ⟨a, cap, rfl, hn, ha⟩ := hv
  have HN := Lib.hid hn
  have HA := Lib.hid ha
  clear hn ha
  go_enter Try.func25, Try.ntmps25
  go_wp2
  go_loopw [8] (fun i wr => ∃ q : Nat, q ≤ l.length ∧ i = .int .i64 q ∧ ansP l n = ansF (firstAt 3 n l 0) n (l.drop q) q ∧ (∃ m, wr = (w.alloc (.cells #[.int .i64 n.s, .int .i64 n.i, .int .i64 n.t] 34)).drewN m)) (fun i _ => l.length - (intOf i).toNat)
  case atStart => exact ⟨0, Nat.zero_le _, rfl, rfl, 0, rfl⟩
  case round =>
    obtain ⟨q, hq, rfl, hF, m, rfl⟩ := hrel
    have HF := Lib.hid hF
    clear hF
    by_cases hlt : q < l.length
    · obtain ⟨x, hx⟩ : ∃ x, l[q]? = some x := ⟨_, List.getElem?_eq_getElem hlt⟩
      obtain ⟨b, off, rfl, hb, hr⟩ := rows_some HN.out HA.out hlt
      obtain ⟨c0, c1, c2, c3, _⟩ := hr.sn hx
      have HX := Lib.hid hx
      clear hr hx
      by_cases hk : x.k = 4
      · have hk' : (x.k == 4) = true := by simpa using hk
        have hen := eql_nm x.n n
        by_cases hn : x.n = n
        · have hn' : decide (x.n = n) = true := by simpa using hn
          have hres : ansP l n = decide ((q : Int) > firstAt 3 n l 0) := by rw [HF.out, drop_cons HX.out]; simp [ansF, hit, hk, hn]
          have HR := Lib.hid hres
          clear hres
          go_wp2
          go_quiet (fail)
          go_wp2_with fail
          refine (commits_any l _ n _ hl ((HV.out.below (Below.drewN' (below_alloc1 _) _)).mono (by simp))).mono ?_
          rintro e w' ⟨rfl, hb'⟩
          have hB : Below w.heap.size w w' := (Below.drewN' (below_alloc1 (w := w) _) _).trans (hb'.mono (by simp))
          have HB := Lib.hid hB
          clear hB hb'
          go_wp2_with fail
          go_ret
          exact ⟨by rw [HR.out]; rfl, HB.out⟩
        · have hn' : decide (x.n = n) = false := by simpa using hn
          go_wp2
          go_quiet (fail)
          go_wp2
          go_roundw
          case rel => exact ⟨q + 1, by omega, by go_num, by rw [HF.out, drop_cons HX.out]; simp [ansF, hit, hn], _, rfl⟩
          case measure => simp [intOf]; omega
      · have hk' : (x.k == 4) = false := by simpa using hk
        go_wp2
        go_quiet (fail)
        go_wp2
        go_roundw
        case rel => exact ⟨q + 1, by omega, by go_num, by rw [HF.out, drop_cons HX.out]; simp [ansF, hit, hk], _, rfl⟩
        case measure => simp [intOf]; omega
    · go_wp2
      go_ret
      exact ⟨by rw [HF.out, drop_end hlt]; rfl, Below.drewN' (below_alloc1 _) _⟩

end Go.Proofs.Ytgdmgeihgkbjaaa
/- 'slices.Clone' of a history, 'order.Until' -/
namespace Go.Proofs.Ytgdmgeihgkbjaaa
open Go.RowKit Go.Shelf

set_option maxRecDepth 20000

theorem info36 : (Try.prog.info? 36).map (fun i => (i.zero, i.size, i.bytes)) = some (some (.agg #[.int .i8 0, .int .i64 0, .int .i64 0, .int .i64 0, .int .i64 0, .int .u8 0, .int .u8 0, .int .u8 0, .int .u8 0, .int .u8 0, .int .u8 0, .int .u8 0, .int .u8 0, .int .i64 0]), 14, 56) := by kernel_rfl

theorem flat_one (l : List Sn) : ∀ u ∈ l.flatMap Sn.cells, u.oneCell' = true := by
  intro u hu
  obtain ⟨x, _, hx⟩ := List.mem_flatMap.1 hu
  exact x.cells_one u hx

theorem flat_div {α : Type} {f : α → List Value} {k : Nat} (hk : ∀ x, (f x).length = k) (l : List α) {j : Nat} {u : Value} (h : (l.flatMap f)[j]? = some u) : ∃ i x jj, l[i]? = some x ∧ (f x)[jj]? = some u ∧ j = i * k + jj := by
  have hj := (List.getElem?_eq_some_iff.1 h).1
  rw [flat_length hk] at hj
  have k0 : 0 < k := by
    rcases Nat.eq_zero_or_pos k with e | e
    · subst e; simp at hj
    · exact e
  have hi : j / k < l.length := by rw [Nat.div_lt_iff_lt_mul k0]; exact hj
  have e := flat_get hk l (j / k) l[j / k] (by simp) (j % k) (Nat.mod_lt _ k0)
  rw [Nat.div_add_mod' j k, h] at e
  exact ⟨j / k, l[j / k], j % k, by simp, e.symm, (Nat.div_add_mod' j k).symm⟩

/-- The cells of a slice, as the append law asks for them. -/
theorem rows_cells {α : Type} {f : α → List Value} {k : Nat} (hk : ∀ x, (f x).length = k) {w : World} {b off : Nat} {l : List α} (h : RowsAt f k w b off l) : ∀ j u, (l.flatMap f)[j]? = some u → w.cell? ((⟨b, off, none⟩ : Addr).add j) = some u := by
  intro j u hu
  obtain ⟨i, x, jj, h1, h2, rfl⟩ := flat_div hk l hu
  have := h i x h1 jj u h2
  have e : (⟨b, off, none⟩ : Addr).add (i * k + jj) = ⟨b, off + (i * k + jj), none⟩ := by unfold Addr.add; split <;> simp_all
  rw [e, ← Nat.add_assoc]
  exact this

theorem clone_any (l : List Sn) (a : Option Addr) (cap : Nat) (w : World) (hl : l.length ≤ 100000) (hv : Sns w.heap.size w (.slice a l.length cap) l) :
    Calls Try.prog 55 #[.slice a l.length cap] w fun e w' => (∃ v', e = .returned v' ∧ w'.ownsRow w.heap.size 36 14 v' l.length (l.flatMap Sn.cells)) ∧ Below w.heap.size w w' := by
  obtain ⟨i0, hi, hz0, hz1, hz2⟩ := info_parts info36
  obtain ⟨a', cap', hav, hn, ha⟩ := hv
  cases hav
  cases a with
  | none =>
    obtain ⟨rfl, rfl⟩ := hn rfl
    clear hn ha
    have hz := fun (w : World) (n c : Nat) => Lib.run_eql_slice_nil (P := Try.prog) w 25 36 none n c 0 0 Try.underlying25
    go_enter Try.func55, Try.ntmps55
    go_wp2
    go_ret
    exact ⟨⟨_, rfl, World.ownsRow_nil _ _ _ _⟩, Below.refl _ _⟩
  | some ad =>
    have hcells : ∀ j u, (l.flatMap Sn.cells)[j]? = some u → (w.alloc (.cells #[] 36)).cell? (ad.add j) = some u := by
      cases l with
      | nil => intro j u h; simp at h
      | cons x r =>
        obtain ⟨b, off, s⟩ := ad
        obtain ⟨rfl, hb, hr⟩ := ha b off s rfl (by simp)
        intro j u hu
        have := rows_cells (fun x => Sn.cells_length x) (hr.below hb (below_alloc1 (.cells #[] 36))) j u hu
        exact this
    have hmade : (w.alloc (.cells #[] 36)).ownsRow w.heap.size 36 14 (.slice (some ⟨w.heap.size, 0, none⟩) 0 0) 0 [] := World.ownsRow_made w #[] 0 (Nat.le_refl _) (by unfold maxLen; omega) rfl
    have HC := Lib.hid hcells
    have HM := Lib.hid hmade
    have hfl : (l.flatMap Sn.cells).length = l.length * 14 := flat_length (fun x => Sn.cells_length x) l
    have HFL := Lib.hid hfl
    clear hn ha hcells hmade hfl
    have hz := fun (w : World) (n c : Nat) => Lib.run_eql_slice_nil (P := Try.prog) w 25 36 (some ad) n c 0 0 Try.underlying25
    go_enter Try.func55, Try.ntmps55
    go_wp2_with (at_builtin; refine wpList_append_own _ rfl (.tmp 5) (.tmp 6) 25 rfl w.heap.size 36 i0 _ 14 56 Try.underlying25 hi hz0 hz1 hz2 rfl (by decide) (.slice (some ⟨w.heap.size, 0, none⟩) 0 0) 0 [] rfl HM.out ad l.length cap (l.flatMap Sn.cells) rfl HFL.out HC.out (flat_one l) (by unfold maxLen; omega) (by omega) (by simp) ?_; intro v' w1 hown1 hg1 _)
    have hown2 : w1.ownsRow w.heap.size 36 14 v' l.length (l.flatMap Sn.cells) := by simpa using hown1
    have HO := Lib.hid hown2
    have HG := Lib.hid hg1
    clear hown1 hown2 hg1
    go_wp2_with fail
    go_ret
    exact ⟨⟨_, rfl, HO.out⟩, ((Below.refl _ _).alloc (Nat.le_refl _) _).grown HG.out (by simp) (fun k e => by cases e; exact Nat.le_refl _)⟩

def untilN (n : Int) (len : Nat) : Nat := (min (max n 0) len).toNat

theorem untilN_le (n : Int) (len : Nat) : untilN n len ≤ len := by unfold untilN; omega

theorem sns_take {B : Nat} {w : World} {a : Option Addr} {cap : Nat} {l : List Sn} (h : Sns B w (.slice a l.length cap) l) (m : Nat) (hm : m ≤ l.length) : Sns B w (.slice a (l.take m).length cap) (l.take m) := by
  obtain ⟨a', cap', hav, hn, ha⟩ := h
  cases hav
  refine ⟨a, cap, rfl, fun e => ?_, fun b off s e hpos => ?_⟩
  · obtain ⟨h1, h2⟩ := hn e
    exact ⟨by rw [h1]; simp, h2⟩
  · rw [List.length_take] at hpos
    obtain ⟨h1, h2, h3⟩ := ha b off s e (by omega)
    refine ⟨h1, h2, fun i x hx j c hc => h3 i x ?_ j c hc⟩
    rw [List.getElem?_take] at hx
    split at hx
    · exact hx
    · cases hx

set_option maxHeartbeats 1000000 in
theorem until_any (l : List Sn) (a : Option Addr) (cap : Nat) (n : Int) (w : World) (hl : l.length ≤ 100000) (hv : Sns w.heap.size w (.slice a l.length cap) l) (hcap : l.length ≤ cap) :
    Calls Try.prog 26 #[.slice a l.length cap, .int .i64 n] w fun e w' => (∃ v', e = .returned v' ∧ w'.ownsRow w.heap.size 36 14 v' (l.take (untilN n l.length)).length ((l.take (untilN n l.length)).flatMap Sn.cells)) ∧ Below w.heap.size w w' := by
  have hc := clone_any (l.take (untilN n l.length)) a cap w (by rw [List.length_take]; omega) (sns_take hv _ (untilN_le n l.length))
  have hlen : (l.take (untilN n l.length)).length = untilN n l.length := by rw [List.length_take]; have := untilN_le n l.length; omega
  rw [hlen] at hc ⊢
  have HC := Lib.hid hc
  have hnil : a = none → cap = 0 := by
    obtain ⟨a', cap', hav, hn, _⟩ := hv
    cases hav
    exact fun e => (hn e).2
  clear hc hlen hv
  go_enter Try.func26, Try.ntmps26
  go_wp2_with fail
  refine HC.out.mono ?_
  rintro e w1 ⟨⟨v', rfl, ho⟩, hb⟩
  have HO := Lib.hid ho
  have HB := Lib.hid hb
  clear ho hb
  go_wp2_with fail
  go_ret
  exact ⟨⟨_, rfl, HO.out⟩, HB.out⟩

end Go.Proofs.Ytgdmgeihgkbjaaa
/- 'order.Replay' -/
namespace Go.Proofs.Ytgdmgeihgkbjaaa
open Go.RowKit Go.Shelf
attribute [local go_sem] Oper.semAt_some

def z0 : V8 := ⟨0, 0, 0, 0, 0, 0, 0, 0⟩
def st0 : List V8 := List.replicate 32 z0
theorem zero24s : Try.zeroCells24 = stArr st0 := by kernel_rfl

/-- One read or write on the blocks, and whether all was serial. -/
def repStep (s : List V8 × Bool) (x : Sn) : List V8 × Bool :=
  if x.k = 1 then (s.1, s.2 && decide (s.1[x.b.toNat]?.getD z0 = x.v)) else (s.1.set x.b.toNat x.v, s.2)
def repName (l : List Sn) (s : List V8 × Bool) (n : Nm) : List V8 × Bool := ((nmSteps n l 0).map (·.2)).foldl repStep s
def repP (l : List Sn) : List V8 × Bool := (ordR l).foldl (repName l) (st0, true)

theorem repStep_length (s : List V8 × Bool) (x : Sn) : (repStep s x).1.length = s.1.length := by unfold repStep; split <;> simp
theorem repFold_length (xs : List Sn) : ∀ s : List V8 × Bool, (xs.foldl repStep s).1.length = s.1.length := by
  induction xs with
  | nil => intro s; rfl
  | cons x xs ih => intro s; rw [List.foldl_cons, ih, repStep_length]
theorem repName_length (l : List Sn) (s : List V8 × Bool) (n : Nm) : (repName l s n).1.length = s.1.length := repFold_length _ _

theorem nmSteps_mem : ∀ (l : List Sn) (n : Nm) (i : Nat) (p : Nat × Sn), p ∈ nmSteps n l i → i ≤ p.1 ∧ l[p.1 - i]? = some p.2 ∧ p.2.n = n ∧ (p.2.k = 1 ∨ p.2.k = 2)
  | [], _, _, _, h => by simp [nmSteps] at h
  | x :: r, n, i, p, h => by
    simp only [nmSteps] at h
    have key : p ∈ nmSteps n r (i + 1) → i ≤ p.1 ∧ (x :: r)[p.1 - i]? = some p.2 ∧ p.2.n = n ∧ (p.2.k = 1 ∨ p.2.k = 2) := fun h' => by
      obtain ⟨h1, h2, h3⟩ := nmSteps_mem r n (i + 1) p h'
      refine ⟨by omega, ?_, h3⟩
      have : p.1 - i = (p.1 - (i + 1)) + 1 := by omega
      rw [this]
      simpa using h2
    split at h
    · rename_i hc
      rcases List.mem_cons.1 h with rfl | h
      · exact ⟨Nat.le_refl _, by simp, hc⟩
      · exact key h
    · exact key h

/-- The marks of the rounds' loops. -/
def marksOf (Ds : List Nat) : List Deferred := Ds.map fun D => { target := .collected D, args := #[] }

theorem leaves_marks {n : Nat} {fn : Func} {tmps : Array Value} {R : Ending → World → Prop} : ∀ (Ds : List Nat) (W : World), (∀ D ∈ Ds, W.heap[D]? = some (.deferred (some []))) → Ds.Nodup →
    (∀ W', W'.os = W.os → W'.tape = W.tape → W'.output = W.output → W'.heap.size = W.heap.size → (∀ k, k ∉ Ds → W'.heap[k]? = W.heap[k]?) → LeavesIn Fence.wide n Try.prog fn tmps R [] .returning W') →
    LeavesInM Fence.wide n Try.prog fn tmps R (marksOf Ds) .returning W
  | [], W, _, _, h => h W rfl rfl rfl rfl (fun _ _ => rfl)
  | D :: Ds, W, hd, hn, h => by
    obtain ⟨hn1, hn2⟩ := List.nodup_cons.1 hn
    refine ⟨by simp, .inl ⟨D, _, rfl, run_takeDeferred (hd D (by simp)), ?_⟩⟩
    refine leaves_marks Ds _ (fun E hE => ?_) hn2 (fun W' h1 h2 h3 h4 h5 => h W' h1 h2 h3 (by rw [h4]; simp) (fun k hk => ?_))
    · have : E ≠ D := fun e => hn1 (e ▸ hE)
      exact (World.putObj_heap_other this).trans (hd E (List.mem_cons_of_mem _ hE))
    · have hk1 : k ≠ D := fun e => hk (by rw [e]; simp)
      exact (h5 k (fun hk2 => hk (List.mem_cons_of_mem _ hk2))).trans (World.putObj_heap_other hk1)

set_option maxRecDepth 100000 in
set_option maxHeartbeats 2000000 in
theorem replay_no (l : List Sn) (v : Value) (w : World) (hl : l.length ≤ 100000) (hv : Sns w.heap.size w v l) (hm : mayP l = false) :
    Calls Try.prog 27 #[v] w fun e w' => e = .returned (.tuple #[.agg (stArr st0), .bool false, .int .i64 2]) ∧ Below w.heap.size w w' := by
  have h0 : ((w.alloc (.cells (stArr st0) 24)).alloc (.cells #[.bool false] 4)).heap[w.heap.size]? = some (.cells (stArr st0) 24 (0, 0)) := heap_alloc2_old w _ _
  have h1 : ((w.alloc (.cells (stArr st0) 24)).alloc (.cells #[.bool false] 4)).heap[w.heap.size + 1]? = some (.cells #[.bool false] 4 (0, 0)) := heap_alloc2_new w _ _
  have hb : Below w.heap.size w ((w.alloc (.cells (stArr st0) 24)).alloc (.cells #[.bool false] 4)) := ((Below.refl _ _).alloc (Nat.le_refl _) _).alloc (by simp) _
  have hC := order_any l v _ hl ((hv.below hb).mono hb.size)
  obtain ⟨w2, hw2⟩ : ∃ w2, (w.alloc (.cells (stArr st0) 24)).alloc (.cells #[.bool false] 4) = w2 := ⟨_, rfl⟩
  rw [hw2] at h0 h1 hb hC
  have HW2 := Lib.hid hw2
  have HC := Lib.hid hC
  have H0 := Lib.hid h0
  have H1 := Lib.hid h1
  have HB := Lib.hid hb
  have HM := Lib.hid hm
  clear hw2 hC h0 h1 hb hm hv
  go_enter Try.func27, Try.ntmps27
  go_wp2_with (rw [zero24s])
  rw [HW2.out]
  refine HC.out.mono ?_
  rintro e w3 ⟨h, b3⟩
  rcases h with ⟨_, rfl⟩ | ⟨h2, _⟩
  · have B3 := Lib.hid b3
    have H03 : Hid (w3.heap[w.heap.size]? = some (.cells (stArr st0) 24 (0, 0))) := (b3.block _ (lt_of_heap H0.out)).trans H0.out
    have H13 : Hid (Boxed w3 (w.heap.size + 1) 4 (.bool false)) := (b3.block _ (lt_of_heap H1.out)).trans H1.out
    clear b3
    have HR : Hid (∀ w4, w3.setRow w.heap.size (stArr st0) = w4 → w4.heap[w.heap.size]? = some (.cells (stArr st0) 24 (0, 0)) ∧ Boxed w4 (w.heap.size + 1) 4 (.bool false) ∧ Below w.heap.size w w4) := by
      rintro w4 rfl
      exact ⟨setRow_heap _ _ _ _ _ _ H03.out, cells_turn H13.out (grownBy_setRow _ _ _) (by omega), ((HB.out.trans (B3.out.mono HB.out.size)).grown (grownBy_setRow _ _ _) (by have := HB.out.size; have := B3.out.size; omega) (fun k e => by cases e; omega))⟩
    go_wp2_with (first | (refine wpList_load rfl 24 (.tmp 2) rfl ⟨w.heap.size, 0, none⟩ rfl (.agg (stArr st0)) (ld_all H03.out (by decide)) ?_) | (refine wpList_store rfl 24 (.tmp 2) (.tmp 18) rfl ⟨w.heap.size, 0, none⟩ rfl (.agg (stArr st0)) rfl (st_all _ H03.out (by decide) (by decide)) ?_; obtain ⟨w4, hw4⟩ : ∃ w4, w3.setRow w.heap.size (stArr st0) = w4 := ⟨_, rfl⟩; obtain ⟨h4a, h4b, h4c⟩ := HR.out w4 hw4; rw [hw4]; have hc4 := h4b.cell; have hf4 := h4b.frozen; have H4A := Lib.hid h4a; have H4B := Lib.hid h4b; have H4C := Lib.hid h4c; clear hw4 h4a h4b h4c))
    have hl5 := ld_all (w := w4.setCell ⟨w.heap.size + 1, 0, none⟩ (.bool false)) (cells_turn H4A.out (grownBy_setCell' w4 (w.heap.size + 1) (.bool false)) (by omega)) (show st0.length = 32 by decide)
    have hc5 := (H4B.out.set (.bool false)).cell
    refine bodyPost_ret (v := .tuple #[.agg (stArr st0), .bool false, .int .i64 2]) (results_cct Try.results27 rfl hl5 rfl (by simp [go_sem, hc5]) rfl) rfl ⟨rfl, ?_⟩
    exact H4C.out.setCell (p := ⟨w.heap.size + 1, 0, none⟩) (by simp) _
  · rw [HM.out] at h2; cases h2

/-- All cells but those of the blocks from n₀ to n₁ lie as they lay. -/
def CK (n₀ n₁ : Nat) (W W' : World) : Prop := ∀ k o, (k < n₀ ∨ n₁ ≤ k) → o.isCells = true → W.heap[k]? = some o → W'.heap[k]? = some o

theorem CK.refl (n₀ n₁ : Nat) (W : World) : CK n₀ n₁ W W := fun _ _ _ _ h => h
theorem CK.trans {n₀ n₁ : Nat} {A B C : World} (h : CK n₀ n₁ A B) (k : CK n₀ n₁ B C) : CK n₀ n₁ A C := fun j o hj ho hA => k j o hj ho (h j o hj ho hA)
theorem Keep.ck {n₀ n₁ : Nat} {W W' : World} (h : Keep n₀ n₁ none W W') : CK n₀ n₁ W W' := fun k o hk ho hW => h.same k o (hk.imp id fun h => ⟨h, rowOf_none⟩) hW (.inl ho)
theorem ck_alloc {n₀ n₁ : Nat} (W : World) (o : Obj) : CK n₀ n₁ W (W.alloc o) := fun k _ _ _ h => (Below.heap_alloc W o k (lt_of_heap h)).trans h
theorem CK.grown {n₀ n₁ B : Nat} {A W W' : World} {row : Option Nat} (h : CK n₀ n₁ A W) (hg : W.grownBy W' row) (hr : ∀ r, row = some r → B ≤ r ∧ ∃ o : Obj, W.heap[r]? = some o ∧ o.isCells = false) : CK n₀ n₁ A W' := fun k o hk ho hA => by
  have hW := h k o hk ho hA
  refine (hg.block k (lt_of_heap hW) (fun e => ?_)).trans hW
  obtain ⟨_, o', ho', hc⟩ := hr k e.symm
  rw [hW] at ho'; cases ho'; rw [ho] at hc; cases hc
theorem RowsAt.ck {α : Type} {enc : α → List Value} {k n₀ n₁ : Nat} {W W' : World} {b off : Nat} {l : List α} (h : RowsAt enc k W b off l) (hk : CK n₀ n₁ W W') (hb : b < n₀ ∨ n₁ ≤ b) : RowsAt enc k W' b off l := by
  intro i x hx j c hc
  have h1 := h i x hx j c hc
  have h2 := h1
  unfold World.cell? at h2
  cases ho : W.heap[b]? with
  | none => simp only [ho] at h2; cases h2
  | some o =>
    have hd : o.isCells = true := by simp only [ho] at h2; cases o <;> first | rfl | cases h2
    exact (World.cell?_of_block (w := W) (a := ⟨b, off + i * k + j, none⟩) ((hk b o hb hd ho).trans ho.symm)).trans h1

/-- In Replay's loops: the blocks' state, the mark of being serial, what lies elsewhere, the marks of the loops. -/
structure RepI (w w4 : World) (s : List V8) (ok : Bool) (Ds : List Nat) (W : World) : Prop where
  st : W.heap[w.heap.size]? = some (.cells (stArr s) 24 (0, 0))
  ser : Boxed W (w.heap.size + 1) 4 (.bool ok)
  below : Below w.heap.size w W
  ck : CK w.heap.size (w.heap.size + 2) w4 W
  def_ : ∀ D ∈ Ds, W.heap[D]? = some (.deferred (some []))

theorem RepI.own {β : Type} {B : Nat} {w w4 : World} {Ds : List Nat} (f : β → List V8 × Bool) (hB : w.heap.size + 2 ≤ B) (hD : ∀ D ∈ Ds, D < B) : OwnFrom B (fun b W => RepI w w4 (f b).1 (f b).2 Ds W) := by
  rintro b W W' row ⟨h1, h2, h3, h4, h5⟩ hg hr
  exact ⟨kept_cells hg hr h1, kept_cells hg hr h2, kept_below h3 (Nat.le_refl _) (by omega) hg hr, h4.grown hg hr, fun D hDs => (hg.block D (lt_of_heap (h5 D hDs)) (fun e => by have := (hr D e.symm).1; have := hD D hDs; omega)).trans (h5 D hDs)⟩

theorem RepI.alloc {w w4 : World} {s : List V8} {ok : Bool} {Ds : List Nat} {W : World} (h : RepI w w4 s ok Ds W) (o : Obj) : RepI w w4 s ok Ds (W.alloc o) :=
  ⟨(Below.heap_alloc W o _ (lt_of_heap h.st)).trans h.st, h.ser.alloc o, h.below.alloc h.below.size o, h.ck.trans (ck_alloc W o), fun D hD => (Below.heap_alloc W o _ (lt_of_heap (h.def_ D hD))).trans (h.def_ D hD)⟩

theorem RepI.drew {w w4 : World} {s : List V8} {ok : Bool} {Ds : List Nat} {W : World} (h : RepI w w4 s ok Ds W) : RepI w w4 s ok Ds W.drew := ⟨h.st, h.ser, h.below.drew, h.ck, h.def_⟩

theorem RepI.turn {w w4 : World} {s s' : List V8} {ok ok' : Bool} {Ds : List Nat} {W W' : World} {j : Nat} (h : RepI w w4 s ok Ds W) (hg : W.grownBy W' (some j)) (hj : w.heap.size ≤ j ∧ j < w.heap.size + 2) (h1 : W'.heap[w.heap.size]? = some (.cells (stArr s') 24 (0, 0))) (h2 : Boxed W' (w.heap.size + 1) 4 (.bool ok'))
    (hD : ∀ D ∈ Ds, w.heap.size + 2 ≤ D) : RepI w w4 s' ok' Ds W' :=
  ⟨h1, h2, h.below.grown hg h.below.size (fun k e => by cases e; omega), fun k o hk ho hA => cells_turn (h.ck k o hk ho hA) hg (by omega), fun D hDs => cells_turn (h.def_ D hDs) hg (by have := hD D hDs; omega)⟩

theorem step_range {l : List Sn} (hm : mayP l = true) {i : Nat} {x : Sn} (hx : l[i]? = some x) (hk : x.k = 1 ∨ x.k = 2) : 0 ≤ x.b ∧ x.b < 32 := by
  have hs := mayP_at.1 hm i x hx
  unfold stepOK at hs
  simp only [Bool.and_eq_true] at hs
  obtain ⟨_, hs⟩ := hs
  cases hb : isC 0 x.n (l.take i)
  · rw [hb] at hs; simp at hs; omega
  · rw [hb] at hs
    simp only [cond_true, hk, if_true, Bool.and_eq_true, decide_eq_true_eq] at hs
    exact hs.2

/-- The loop over the names: the frame and the world at a round's head. -/
def RepO (l : List Sn) (a : Option Addr) (cap : Nat) (na : Option Addr) (nc : Nat) (w w4 : World) (a1 : Act) (W : World) : Prop :=
  ∃ (k : Nat) (s : List V8) (ok : Bool) (Ds : List Nat) (u7 u23 u24 u25 u26 u27 u28 u56 : Value), k ≤ (ordR l).length ∧ s.length = 32 ∧
      a1 = { tmps := #[.slice a l.length cap, undef, .pointer (some ⟨w.heap.size, 0, none⟩), .pointer (some ⟨w.heap.size + 1, 0, none⟩), .int .i64 0, .slice na (ordR l).length nc, undef, u7, undef, undef, undef,
        .tuple #[.slice na (ordR l).length nc, .int .i64 0], .slice a l.length cap, .tuple #[.slice na (ordR l).length nc, .int .i64 0], .slice na (ordR l).length nc, .int .i64 0, .int .i64 0, .bool false, undef, undef,
        .slice na (ordR l).length nc, .int .i64 ((ordR l).length : Int), .int .i64 (k : Int), u23, u24, u25, u26, u27, u28, undef, undef, undef, undef, undef, undef, undef, undef, undef, undef, undef, undef, undef, undef, undef, undef, undef, undef, undef, undef, undef, undef, undef, undef, undef, undef, undef, u56, undef, undef], defers := marksOf Ds } ∧
      RepI w w4 s ok Ds W ∧ (∀ D ∈ Ds, w.heap.size + 2 ≤ D) ∧ Ds.Nodup ∧ ((ordR l).drop k).foldl (repName l) (s, ok) = repP l

def RepM (l : List Sn) (a1 : Act) (_ : World) : Nat := (ordR l).length - (intOf (a1.tmps.getD 22 undef)).toNat

set_option maxRecDepth 100000 in
set_option maxHeartbeats 4000000 in
theorem replay_ok (l : List Sn) (v : Value) (w : World) (hl : l.length ≤ 100000) (hv : Sns w.heap.size w v l) (hm : mayP l = true) :
    Calls Try.prog 27 #[v] w fun e w' => e = .returned (.tuple #[.agg (stArr (repP l).1), .bool (repP l).2, .int .i64 0]) ∧ Below w.heap.size w w' := by
  have h0 : ((w.alloc (.cells (stArr st0) 24)).alloc (.cells #[.bool false] 4)).heap[w.heap.size]? = some (.cells (stArr st0) 24 (0, 0)) := heap_alloc2_old w _ _
  have h1 : ((w.alloc (.cells (stArr st0) 24)).alloc (.cells #[.bool false] 4)).heap[w.heap.size + 1]? = some (.cells #[.bool false] 4 (0, 0)) := heap_alloc2_new w _ _
  have hb : Below w.heap.size w ((w.alloc (.cells (stArr st0) 24)).alloc (.cells #[.bool false] 4)) := ((Below.refl _ _).alloc (Nat.le_refl _) _).alloc (by simp) _
  have hC := order_any l v _ hl ((hv.below hb).mono hb.size)
  obtain ⟨w2, hw2⟩ : ∃ w2, (w.alloc (.cells (stArr st0) 24)).alloc (.cells #[.bool false] 4) = w2 := ⟨_, rfl⟩
  rw [hw2] at h0 h1 hb hC
  have HW2 := Lib.hid hw2
  have HC := Lib.hid hC
  have H0 := Lib.hid h0
  have H1 := Lib.hid h1
  have HB := Lib.hid hb
  have HM := Lib.hid hm
  have HV := Lib.hid hv
  obtain ⟨a, cap, rfl, hn, ha⟩ := hv
  have HN := Lib.hid hn
  have HA := Lib.hid ha
  have hnl := ordR_le l
  clear hw2 hC h0 h1 hb hm hn ha
  refine (callsIn_wide (n := 9)).1 ?_
  refine callsIn_of_wp_marks Try.func27 rfl trivial ?_ rfl
  simp only [Try.ntmps27, List.size_toArray, List.length_cons, List.length_nil, Nat.reduceAdd, Nat.reduceSub, Array.replicate_succ, Array.replicate_zero, List.push_toArray, List.append_toArray, List.nil_append, List.cons_append]
  gi_wp2_with (rw [zero24s])
  rw [HW2.out]
  refine ⟨trivial, ?_⟩
  refine (callsIn_wide.2 HC.out).mono ?_
  rintro e w3 ⟨h3, b3⟩
  rcases h3 with ⟨hno, _⟩ | ⟨_, nv, rfl, hown⟩
  · rw [HM.out] at hno; cases hno
  obtain ⟨na, nc, rfl⟩ := ownsRow_slice hown
  obtain ⟨_, _, en, nn, nh⟩ := rows_of_owns (enc := Nm.cells) (k := 3) (fun _ => rfl) hown
  cases en
  have hnb : ∀ b off s, na = some ⟨b, off, s⟩ → w.heap.size + 2 ≤ b := fun b off s e => by
    have h1 := (hown.lt b (by rw [e]; rfl)).1
    have := lt_of_heap H1.out
    omega
  have NN := Lib.hid nn
  have NH := Lib.hid nh
  have NB := Lib.hid hnb
  have h03 : w3.heap[w.heap.size]? = some (.cells (stArr st0) 24 (0, 0)) := (b3.block _ (lt_of_heap H0.out)).trans H0.out
  have h13 : Boxed w3 (w.heap.size + 1) 4 (.bool false) := (b3.block _ (lt_of_heap H1.out)).trans H1.out
  have hc3 := h13.cell
  have hf3 := h13.frozen
  have B3 := Lib.hid (HB.out.trans (b3.mono HB.out.size))
  have H03 := Lib.hid h03
  have H13 := Lib.hid h13
  clear b3 nn nh h03 h13 hown hnb
  gi_wp2_with fail
  obtain ⟨w4, hw4⟩ : ∃ w4, w3.setCell ⟨w.heap.size + 1, 0, none⟩ (.bool true) = w4 := ⟨_, rfl⟩
  have hI4 : RepI w w4 st0 true [] w4 := by
    rw [← hw4]
    exact ⟨cells_turn H03.out (grownBy_setCell' w3 (w.heap.size + 1) (.bool true)) (by omega), H13.out.set _, B3.out.setCell (p := ⟨w.heap.size + 1, 0, none⟩) (by simp) _, CK.refl _ _ _, by simp⟩
  have hn4 : ∀ b off s, na = some ⟨b, off, s⟩ → 0 < (ordR l).length → s = none ∧ w.heap.size + 2 ≤ b ∧ RowsAt Nm.cells 3 w4 b off (ordR l) := fun b off s e hp => by
    obtain ⟨h1, h2, h3⟩ := NH.out b off s e hp
    refine ⟨h1, NB.out b off s e, ?_⟩
    rw [← hw4]
    intro i x hx j c hc
    have := NB.out b off s e
    exact (grownBy_setCell' w3 (w.heap.size + 1) (.bool true)).cell (a := ⟨b, off + i * 3 + j, none⟩) (h3 i x hx j c hc) (fun e2 => absurd (show b = w.heap.size + 1 by simpa using e2) (by omega))
  rw [hw4]
  have HI4 := Lib.hid hI4
  have HN4 := Lib.hid hn4
  clear hw4 hI4 hn4 hc3 hf3
  refine wpIn_loop (RepO l a cap na nc w w4)
    (RepM l) ?_ ?_
  · exact ⟨0, st0, true, [], undef, undef, undef, undef, undef, undef, undef, undef, Nat.zero_le _, by decide, rfl, HI4.out, by simp, by simp, rfl⟩
  rintro _ W1 ⟨k, s, ok, Ds, u7, u23, u24, u25, u26, u27, u28, u56, hk, hs, rfl, hI1, hDs, hNd, hF⟩
  have HI1 := Lib.hid hI1
  have HDS := Lib.hid hDs
  have HNO := Lib.hid hNd
  have HF := Lib.hid hF
  clear hI1 hDs hNd hF
  by_cases hlt : k < (ordR l).length
  · obtain ⟨nm, hnm⟩ : ∃ nm, (ordR l)[k]? = some nm := ⟨_, List.getElem?_eq_getElem hlt⟩
    have hne : ∃ nb noff, na = some ⟨nb, noff, none⟩ ∧ w.heap.size + 2 ≤ nb ∧ RowsAt Nm.cells 3 w4 nb noff (ordR l) := by
      rcases na with _ | ⟨nb, noff, s'⟩
      · have := (NN.out rfl).1; rw [this] at hlt; simp at hlt
      · obtain ⟨rfl, h2, h3⟩ := HN4.out nb noff s' rfl (by omega)
        exact ⟨nb, noff, rfl, h2, h3⟩
    obtain ⟨nb, noff, rfl, hnb, hnr⟩ := hne
    obtain ⟨y0, y1, y2⟩ := (hnr.ck HI1.out.ck (.inr hnb)).nm hnm
    have HNM := Lib.hid hnm
    clear hnr hnm
    gi_wp2_with fail
    have hwb : RepI w w4 s ok Ds (W1.alloc (.cells #[.int .i64 nm.s, .int .i64 nm.i, .int .i64 nm.t] 34)) := HI1.out.alloc _
    generalize W1.alloc (.cells #[.int .i64 nm.s, .int .i64 nm.i, .int .i64 nm.t] 34) = Wb at hwb ⊢
    refine ⟨trivial, ?_⟩
    refine (callsIn_wide.2 (steps56_any _ nm Wb ⟨_, _, _, rfl⟩)).mono ?_
    rintro e W0 ⟨rfl, hW0⟩
    have hI0 : RepI w w4 s ok Ds W0 := hW0 ▸ (hwb.alloc _).alloc _
    have hs0 : W0.heap.size = Wb.heap.size + 2 := by rw [← hW0]; simp
    have hbl : W0.heap[Wb.heap.size]? = some (.cells #[.slice a l.length cap] 25 (0, 0)) := hW0 ▸ heap_alloc2_old Wb _ _
    have hbn : W0.heap[Wb.heap.size + 1]? = some (.cells #[.int .i64 nm.s, .int .i64 nm.i, .int .i64 nm.t] 34 (0, 0)) := hW0 ▸ heap_alloc2_new Wb _ _
    have hbl' : W0.cell? ⟨Wb.heap.size, 0, none⟩ = some (.slice a l.length cap) := by rw [cell_of_row W0 _ _ _ 25 (0, 0) hbl]; rfl
    have hwbs : w.heap.size + 2 ≤ Wb.heap.size := by have := lt_of_heap hwb.ser; omega
    obtain ⟨bl, off, hal⟩ : ∃ bl off, 0 < l.length → a = some ⟨bl, off, none⟩ ∧ bl < w.heap.size ∧ RowsAt Sn.cells 14 w bl off l := by
      rcases a with _ | ⟨bl, off, s'⟩
      · exact ⟨0, 0, fun h => by have := (HN.out rfl).1; rw [this] at h; simp at h⟩
      · exact ⟨bl, off, fun h => by obtain ⟨rfl, h2, h3⟩ := HA.out bl off s' rfl h; exact ⟨rfl, h2, h3⟩⟩
    have hseq := steps73_in 6 Wb.heap.size (Wb.heap.size + 1) w.heap.size (w.heap.size + 2) bl off a cap l nm hl W0 (fun h => ⟨(hal h).1, (hal h).2.1, (hal h).2.2.below (hal h).2.1 hI0.below⟩) hI0.below.size (by omega) (by omega) hbl' hbn
    have HI0 := Lib.hid hI0
    have HAL := Lib.hid hal
    clear hwb hW0 hI0 hbl hbn hbl' hal
    have hdsl : ∀ D ∈ Ds, D < W0.heap.size := fun D hD => lt_of_heap (HI0.out.def_ D hD)
    have HDL := Lib.hid hdsl
    clear hdsl
    gi_wp2_with fail
    unfold SeqC at hseq
    refine wpIn_rangeFunc_ownH (F := Fence.wide) (n := 9) rfl (by omega) (gf := 73) (lb := #[.pointer (some ⟨Wb.heap.size, 0, none⟩), .pointer (some ⟨Wb.heap.size + 1, 0, none⟩)]) rfl trivial (enters_of Try.func73 (by kernel_rfl) rfl) hseq
      Keep.trans (Keep.book (by intro b h; cases h)) (Below.refl _ _) (fun _ => rfl)
      (fun pre W => RepI w w4 ((pre.map (·.1.2)).foldl repStep (s, ok)).1 ((pre.map (·.1.2)).foldl repStep (s, ok)).2 Ds W) (fun _ _ _ => False)
      (RepI.own (fun pre : List { p // p ∈ nmSteps nm l 0 } => (pre.map (·.1.2)).foldl repStep (s, ok)) (by omega) HDL.out) (fun _ _ _ _ _ hs _ _ => hs) HI0.out
      (fun x a' W => a' = { tmps := #[.slice a l.length cap, undef, .pointer (some ⟨w.heap.size, 0, none⟩), .pointer (some ⟨w.heap.size + 1, 0, none⟩), .int .i64 0, .slice (some ⟨nb, noff, none⟩) (ordR l).length nc, undef, .pointer (some ⟨W1.heap.size, 0, none⟩), cxV x.1.2.b (x.1.1 : Int), .pointer (some ⟨bl, off + x.1.1 * 14, none⟩), undef, .tuple #[.slice (some ⟨nb, noff, none⟩) (ordR l).length nc, .int .i64 0], .slice a l.length cap, .tuple #[.slice (some ⟨nb, noff, none⟩) (ordR l).length nc, .int .i64 0], .slice (some ⟨nb, noff, none⟩) (ordR l).length nc, .int .i64 0, .int .i64 0, .bool false, undef, undef, .slice (some ⟨nb, noff, none⟩) (ordR l).length nc, .int .i64 ((ordR l).length : Int), .int .i64 (k : Int), .bool true, .pointer (some ⟨nb, noff + k * 3, none⟩), .agg #[.int .i64 nm.s, .int .i64 nm.i, .int .i64 nm.t], .slice a l.length cap, .agg #[.int .i64 nm.s, .int .i64 nm.i, .int .i64 nm.t], .func (.func 73) #[] #[.pointer (some ⟨Wb.heap.size, 0, none⟩), .pointer (some ⟨Wb.heap.size + 1, 0, none⟩)], cxV x.1.2.b (x.1.1 : Int), .pointer (some ⟨bl, off + x.1.1 * 14, none⟩), undef, undef, undef, undef, undef, undef, undef, undef, undef, undef, undef, undef, undef, undef, undef, undef, undef, undef, undef, undef, undef, undef, undef, undef, undef, u56, undef, undef], defers := [] })
      (fun _ _ _ _ _ _ h _ _ => h) ?assign ?body ?done ?stop
    case stop => rintro D c pre W _ _ h; exact h.elim
    case assign =>
      rintro lp pre ⟨⟨i, x⟩, hx⟩ W K hi hK
      simp only [encPX]
      gi_wp2
      exact hK _ _ (KeepsFrom.refl _ _) (Keep.refl _ _ _ _) hi rfl
    case body =>
      rintro lp pre ⟨⟨i, x⟩, hx⟩ a' W hlp hrec hI rfl hlen
      obtain ⟨_, hli, hxn, hxk⟩ := nmSteps_mem l nm 0 (i, x) hx
      simp only [Nat.sub_zero] at hli hxn hxk
      have hpos : 0 < l.length := by have := (List.getElem?_eq_some_iff.1 hli).1; omega
      obtain ⟨hb0, hb1⟩ := step_range HM.out hli hxk
      obtain ⟨c0, c1, c2, c3, c4, c5, c6, c7, c8, c9, c10, c11, c12, c13⟩ := ((HAL.out hpos).2.2.below (HAL.out hpos).2.1 hI.below).sn hli
      have hnext : ((pre ++ [(⟨(i, x), hx⟩ : { p // p ∈ nmSteps nm l 0 })]).map (·.1.2)).foldl repStep (s, ok) = repStep ((pre.map (·.1.2)).foldl repStep (s, ok)) x := by simp
      have hlen2 : ((pre.map (·.1.2)).foldl repStep (s, ok)).1.length = 32 := by rw [repFold_length]; exact hs
      generalize (pre.map (·.1.2)).foldl repStep (s, ok) = cur at hI hnext hlen2
      obtain ⟨s2, ok2⟩ := cur
      simp only at hI hlen2
      have hj : x.b.toNat < s2.length := by omega
      have hre : ∀ ats t w, (Builtin.real_ ats t #[cxV x.b (i : Int)]).run Try.prog w = .ok (flV x.b) w := fun ats t w => run_real _ _ _ _ _
      have hcv : ∀ w, (Go.convert 96 3 (flV x.b)).run Try.prog w = .ok (.int .i64 x.b) w := fun w => run_from_float x.b hb0 hb1 w
      have hsz0 : w.heap.size + 2 ≤ W0.heap.size := by omega
      have HI := Lib.hid hI
      have HNX := Lib.hid hnext
      have HD2 := Lib.hid HDS.out
      clear hlen hrec hI hnext hseq
      by_cases hk1 : x.k = 1
      · have e1 : (x.k == 1) = true := by simp [hk1]
        obtain ⟨u, hu⟩ : ∃ u, s2[x.b.toNat]? = some u := ⟨_, List.getElem?_eq_getElem hj⟩
        have hstep : repStep (s2, ok2) x = (s2, ok2 && decide (u = x.v)) := by simp [repStep, hk1, hu]
        have HST := Lib.hid hstep
        clear hk1 hxk hstep
        gi_wp2_with fail
        obtain ⟨w0, hw0⟩ : ∃ w0, W.drew = w0 := ⟨_, rfl⟩
        have hI0 : RepI w w4 s2 ok2 Ds w0 := hw0 ▸ HI.out.drew
        have hcA := hI0.st
        have hcB := hI0.ser.cell
        have hfB := hI0.ser.frozen
        have hcl : ∀ j, w0.cell? ⟨bl, off + i * 14 + j, none⟩ = W.cell? ⟨bl, off + i * 14 + j, none⟩ := fun j => by rw [← hw0]; rfl
        rw [← hcl 5] at c5
        rw [← hcl 6] at c6
        rw [← hcl 7] at c7
        rw [← hcl 8] at c8
        rw [← hcl 9] at c9
        rw [← hcl 10] at c10
        rw [← hcl 11] at c11
        rw [← hcl 12] at c12
        have hg := grownBy_setCell' w0 (w.heap.size + 1) (.bool (ok2 && decide (u = x.v)))
        have hfin : KeepsFrom W0.heap.size W (w0.setCell ⟨w.heap.size + 1, 0, none⟩ (.bool (ok2 && decide (u = x.v)))) ∧ Keep w.heap.size (w.heap.size + 2) none W (w0.setCell ⟨w.heap.size + 1, 0, none⟩ (.bool (ok2 && decide (u = x.v)))) ∧
            (fun (pre : List { p // p ∈ nmSteps nm l 0 }) W => RepI w w4 ((pre.map (·.1.2)).foldl repStep (s, ok)).1 ((pre.map (·.1.2)).foldl repStep (s, ok)).2 Ds W) (pre ++ [⟨(i, x), hx⟩]) (w0.setCell ⟨w.heap.size + 1, 0, none⟩ (.bool (ok2 && decide (u = x.v)))) := by
          refine ⟨?_, ?_, ?_⟩
          · exact (show KeepsFrom W0.heap.size W w0 from hw0 ▸ (KeepsOthers.drew W).from _).trans (from_turn hg (.inl (by omega)))
          · exact (show Keep _ _ none W w0 from hw0 ▸ keep_drew).trans (Rnd.turn hg (by omega) (by omega) (by intro b h; cases h)).keep
          · show RepI _ _ _ _ _ _
            rw [HNX.out, HST.out]
            exact hI0.turn hg ⟨by omega, by omega⟩ (cells_turn hI0.st hg (by omega)) (hI0.ser.set _) HD2.out
        have hEq : ∀ w, (binOp .eql 23 (v8Val u) (v8Val x.v)).run Try.prog w = .ok (.bool (decide (u = x.v))) w := fun w => eql_v8 u x.v w
        have hGd : ∀ w, (eqGuard .eql 23 (.tmp 43) (.tmp 47) (v8Val u) (v8Val x.v)).run Try.prog w = .ok () w := fun w =>
          run_eqGuard_agg (P := Try.prog) w .eql 23 (.tmp 43) (.tmp 47) #[.int .u8 u.a, .int .u8 u.b, .int .u8 u.c, .int .u8 u.d, .int .u8 u.e, .int .u8 u.f, .int .u8 u.g, .int .u8 u.h] #[.int .u8 x.v.a, .int .u8 x.v.b, .int .u8 x.v.c, .int .u8 x.v.d, .int .u8 x.v.e, .int .u8 x.v.f, .int .u8 x.v.g, .int .u8 x.v.h] (by kernel_rfl)
        have HW0 := Lib.hid hw0
        clear hw0 hI0 hg hcl
        cases ok2
        · skip
          -- BEGIN R13F
          refine wpIn_region_frame mixed (fun _ => trivial) (by kernel_rfl) [(0, 39, .bool false), (1, 40, .bool false), (2, 41, undef), (3, 42, undef), (4, 43, undef), (5, 44, undef), (6, 45, undef), (7, 46, undef), (8, 47, undef), (9, 48, undef), (10, 49, .bool (false && decide (u = x.v)))] (fun L Wx => (L 11 = false → Wx = w0) ∧ (L 11 = true → Wx = w0.setCell ⟨w.heap.size + 1, 0, none⟩ (.bool (false && decide (u = x.v))))) ?_ ?_ (by rfl) (by rfl) ?_
          · exact ⟨fun _ => HW0.out, fun h => by cases h⟩
          · intro a0 ps ha0 hps
            have hsz : a0.tmps.size = 59 := by rw [ha0]; rfl
            have u2 : a0.tmps[2]? = some (.pointer (some ⟨w.heap.size, 0, none⟩)) := by rw [ha0]; rfl
            have u3 : a0.tmps[3]? = some (.pointer (some ⟨w.heap.size + 1, 0, none⟩)) := by rw [ha0]; rfl
            have u9 : a0.tmps[9]? = some (.pointer (some ⟨bl, off + i * 14, none⟩)) := by rw [ha0]; rfl
            have u10 : a0.tmps[10]? = some (.int .i64 x.b) := by rw [ha0]; rfl
            have n2 : slotOf ps 2 = none := by rw [hps]; rfl
            have n3 : slotOf ps 3 = none := by rw [hps]; rfl
            have n9 : slotOf ps 9 = none := by rw [hps]; rfl
            have n10 : slotOf ps 10 = none := by rw [hps]; rfl
            have k39 : slotOf ps 39 = some (0, .bool false) := by rw [hps]; rfl
            have q39 : keysOK ps 0 39 = true := by rw [hps]; rfl
            have k40 : slotOf ps 40 = some (1, .bool false) := by rw [hps]; rfl
            have q40 : keysOK ps 1 40 = true := by rw [hps]; rfl
            have k41 : slotOf ps 41 = some (2, undef) := by rw [hps]; rfl
            have q41 : keysOK ps 2 41 = true := by rw [hps]; rfl
            have k42 : slotOf ps 42 = some (3, undef) := by rw [hps]; rfl
            have q42 : keysOK ps 3 42 = true := by rw [hps]; rfl
            have k43 : slotOf ps 43 = some (4, undef) := by rw [hps]; rfl
            have q43 : keysOK ps 4 43 = true := by rw [hps]; rfl
            have k44 : slotOf ps 44 = some (5, undef) := by rw [hps]; rfl
            have q44 : keysOK ps 5 44 = true := by rw [hps]; rfl
            have k45 : slotOf ps 45 = some (6, undef) := by rw [hps]; rfl
            have q45 : keysOK ps 6 45 = true := by rw [hps]; rfl
            have k46 : slotOf ps 46 = some (7, undef) := by rw [hps]; rfl
            have q46 : keysOK ps 7 46 = true := by rw [hps]; rfl
            have k47 : slotOf ps 47 = some (8, undef) := by rw [hps]; rfl
            have q47 : keysOK ps 8 47 = true := by rw [hps]; rfl
            have k48 : slotOf ps 48 = some (9, undef) := by rw [hps]; rfl
            have q48 : keysOK ps 9 48 = true := by rw [hps]; rfl
            have k49 : slotOf ps 49 = some (10, .bool (false && decide (u = x.v))) := by rw [hps]; rfl
            have q49 : keysOK ps 10 49 = true := by rw [hps]; rfl
            have z11 : (ps.all fun p => !(p.1 == 11)) = true := by rw [hps]; rfl
            clear ha0 hps
            refine ⟨?_, ?_, ?_, ?_, ?_, ?_, ?_, ?_, ?_, ?_, ?_, ?_, trivial⟩
            · rintro L _ Wx ⟨rfl, hT⟩ hcl hk hd
              have hN : L 11 = false := by
                cases hh : L 11 with
                | false => rfl
                | true =>
                  have h0 := hcl 11 _ rfl (by simp [hh])
                  simp [Region.binds] at h0
                  simp [hk] at h0
              rw [if_pos (by simp [Region.wanted])]
              refine opIn_value (by intro c h; cases h) (by intro c h; cases h) (by intro c h; cases h) (v := .bool false) (w' := Wx) (by simp [execOp, go_sem, frame_tout (n3) u3, hT.1 hN, hcB]) ⟨frame_put (k39) (q39), ?_⟩
              simpa [upd] using hT
            · rintro L _ Wx ⟨rfl, hT⟩ hcl hk hd
              have hL0 : L 0 = true := by have h := hd; simp [Region.binds] at h; simp [h]
              rw [if_pos (by simp [Region.wanted])]
              refine opIn_value (by intro c h; cases h) (by intro c h; cases h) (by intro c h; cases h) (v := .bool false) (w' := Wx) (by simp [execOp, go_sem, frame_tmp (k39) hL0 (Nat.lt_of_lt_of_eq (by decide : 39 < 59) hsz.symm)]) ⟨frame_put (k40) (q40), ?_⟩
              simpa [upd] using hT
            · rintro L _ Wx ⟨rfl, hT⟩ hcl hk hd
              have hL1 : L 1 = true := by have h := hd; simp [Region.binds] at h; simp [h]
              rw [if_neg (by simp [Region.wanted, yielded, frame_tmp (k40) hL1 (Nat.lt_of_lt_of_eq (by decide : 40 < 59) hsz.symm)])]
              refine ⟨frame_put (k41) (q41), ?_⟩
              simpa [upd] using hT
            · rintro L _ Wx ⟨rfl, hT⟩ hcl hk hd
              have hL1 : L 1 = true := by have h := hd; simp [Region.binds] at h; simp [h]
              rw [if_neg (by simp [Region.wanted, yielded, frame_tmp (k40) hL1 (Nat.lt_of_lt_of_eq (by decide : 40 < 59) hsz.symm)])]
              refine ⟨frame_put (k42) (q42), ?_⟩
              simpa [upd] using hT
            · rintro L _ Wx ⟨rfl, hT⟩ hcl hk hd
              have hL1 : L 1 = true := by have h := hd; simp [Region.binds] at h; simp [h]
              have hN : L 11 = false := by
                cases hh : L 11 with
                | false => rfl
                | true =>
                  have h4 := hcl 11 _ rfl (by simp [hh])
                  simp [Region.binds] at h4
                  simp [hk] at h4
              rw [if_neg (by simp [Region.wanted, yielded, frame_tmp (k40) hL1 (Nat.lt_of_lt_of_eq (by decide : 40 < 59) hsz.symm)])]
              refine ⟨frame_put (k43) (q43), ?_⟩
              simpa [upd] using hT
            · rintro L _ Wx ⟨rfl, hT⟩ hcl hk hd
              have hL1 : L 1 = true := by have h := hd; simp [Region.binds] at h; simp [h]
              rw [if_neg (by simp [Region.wanted, yielded, frame_tmp (k40) hL1 (Nat.lt_of_lt_of_eq (by decide : 40 < 59) hsz.symm)])]
              refine ⟨frame_put (k44) (q44), ?_⟩
              simpa [upd] using hT
            · rintro L _ Wx ⟨rfl, hT⟩ hcl hk hd
              have hL1 : L 1 = true := by have h := hd; simp [Region.binds] at h; simp [h]
              rw [if_neg (by simp [Region.wanted, yielded, frame_tmp (k40) hL1 (Nat.lt_of_lt_of_eq (by decide : 40 < 59) hsz.symm)])]
              refine ⟨frame_put (k45) (q45), ?_⟩
              simpa [upd] using hT
            · rintro L _ Wx ⟨rfl, hT⟩ hcl hk hd
              have hL1 : L 1 = true := by have h := hd; simp [Region.binds] at h; simp [h]
              rw [if_neg (by simp [Region.wanted, yielded, frame_tmp (k40) hL1 (Nat.lt_of_lt_of_eq (by decide : 40 < 59) hsz.symm)])]
              refine ⟨frame_put (k46) (q46), ?_⟩
              simpa [upd] using hT
            · rintro L _ Wx ⟨rfl, hT⟩ hcl hk hd
              have hL1 : L 1 = true := by have h := hd; simp [Region.binds] at h; simp [h]
              have hN : L 11 = false := by
                cases hh : L 11 with
                | false => rfl
                | true =>
                  have h8 := hcl 11 _ rfl (by simp [hh])
                  simp [Region.binds] at h8
                  simp [hk] at h8
              rw [if_neg (by simp [Region.wanted, yielded, frame_tmp (k40) hL1 (Nat.lt_of_lt_of_eq (by decide : 40 < 59) hsz.symm)])]
              refine ⟨frame_put (k47) (q47), ?_⟩
              simpa [upd] using hT
            · rintro L _ Wx ⟨rfl, hT⟩ hcl hk hd
              have hL1 : L 1 = true := by have h := hd; simp [Region.binds] at h; simp [h]
              rw [if_neg (by simp [Region.wanted, yielded, frame_tmp (k40) hL1 (Nat.lt_of_lt_of_eq (by decide : 40 < 59) hsz.symm)])]
              refine ⟨frame_put (k48) (q48), ?_⟩
              simpa [upd] using hT
            · rintro L _ Wx ⟨rfl, hT⟩ hcl hk hd
              have hL1 : L 1 = true := by have h := hd; simp [Region.binds] at h; simp [h]
              rw [if_pos (by simp [Region.wanted])]
              refine opIn_value (by intro c h; cases h) (by intro c h; cases h) (by intro c h; cases h) (v := .bool (false && decide (u = x.v))) (w' := Wx) (by simp [execOp, go_sem, frame_tmp (k40) hL1 (Nat.lt_of_lt_of_eq (by decide : 40 < 59) hsz.symm)]) ⟨frame_put (k49) (q49), ?_⟩
              simpa [upd] using hT
            · rintro L _ Wx ⟨rfl, hT⟩ hcl hk hd
              have hL10 : L 10 = true := by have h := hd; simp [Region.binds] at h; simp [h]
              rw [if_pos (by simp [Region.wanted])]
              obtain rfl : Wx = w0 := hT.1 hk
              refine opIn_store 4 (.tmp 3) (.tmp 49) rfl ⟨w.heap.size + 1, 0, none⟩ (by rw [frame_oute n3 u3]) (.bool (false && decide (u = x.v))) (by rw [frame_in k49 hL10 (Nat.lt_of_lt_of_eq (by decide : 49 < 59) hsz.symm)]) (by simp [go_sem, hcB, hfB]; rfl) ⟨frame_putNone (z11), ?_⟩
              exact ⟨fun h => by simp [upd] at h, fun _ => rfl⟩
          · rintro L W' hT hall
            have hA11 : L 11 = true := hall 11 (by simp)
            simp only [putAll, Act.put, List.setIfInBounds_toArray, List.set_cons_succ, List.set_cons_zero]
            obtain rfl := hT.2 hA11
            clear hT hall
            have HFIN := Lib.hid hfin
            clear hfin
            gi_wp2
            have h := HFIN.out
            rw [hs0] at h
            exact ⟨h.1, h.2.1, h.2.2⟩
          -- END R13F
        · skip
          -- BEGIN R13T
          refine wpIn_region_frame mixed (fun _ => trivial) (by kernel_rfl) [(0, 39, .bool true), (1, 40, .bool true), (2, 41, .int .i64 x.b), (3, 42, .pointer (some ⟨w.heap.size, x.b.toNat * 8, none⟩)), (4, 43, v8Val u), (5, 44, .pointer (some ⟨bl, off + i * 14, none⟩)), (6, 45, .pointer (some ⟨bl, off + i * 14, none⟩)), (7, 46, .pointer (some ⟨bl, off + i * 14 + 5, none⟩)), (8, 47, v8Val x.v), (9, 48, .bool (decide (u = x.v))), (10, 49, .bool (true && decide (u = x.v)))] (fun L Wx => (L 11 = false → Wx = w0) ∧ (L 11 = true → Wx = w0.setCell ⟨w.heap.size + 1, 0, none⟩ (.bool (true && decide (u = x.v))))) ?_ ?_ (by rfl) (by rfl) ?_
          · exact ⟨fun _ => HW0.out, fun h => by cases h⟩
          · intro a0 ps ha0 hps
            have hsz : a0.tmps.size = 59 := by rw [ha0]; rfl
            have u2 : a0.tmps[2]? = some (.pointer (some ⟨w.heap.size, 0, none⟩)) := by rw [ha0]; rfl
            have u3 : a0.tmps[3]? = some (.pointer (some ⟨w.heap.size + 1, 0, none⟩)) := by rw [ha0]; rfl
            have u9 : a0.tmps[9]? = some (.pointer (some ⟨bl, off + i * 14, none⟩)) := by rw [ha0]; rfl
            have u10 : a0.tmps[10]? = some (.int .i64 x.b) := by rw [ha0]; rfl
            have n2 : slotOf ps 2 = none := by rw [hps]; rfl
            have n3 : slotOf ps 3 = none := by rw [hps]; rfl
            have n9 : slotOf ps 9 = none := by rw [hps]; rfl
            have n10 : slotOf ps 10 = none := by rw [hps]; rfl
            have k39 : slotOf ps 39 = some (0, .bool true) := by rw [hps]; rfl
            have q39 : keysOK ps 0 39 = true := by rw [hps]; rfl
            have k40 : slotOf ps 40 = some (1, .bool true) := by rw [hps]; rfl
            have q40 : keysOK ps 1 40 = true := by rw [hps]; rfl
            have k41 : slotOf ps 41 = some (2, .int .i64 x.b) := by rw [hps]; rfl
            have q41 : keysOK ps 2 41 = true := by rw [hps]; rfl
            have k42 : slotOf ps 42 = some (3, .pointer (some ⟨w.heap.size, x.b.toNat * 8, none⟩)) := by rw [hps]; rfl
            have q42 : keysOK ps 3 42 = true := by rw [hps]; rfl
            have k43 : slotOf ps 43 = some (4, v8Val u) := by rw [hps]; rfl
            have q43 : keysOK ps 4 43 = true := by rw [hps]; rfl
            have k44 : slotOf ps 44 = some (5, .pointer (some ⟨bl, off + i * 14, none⟩)) := by rw [hps]; rfl
            have q44 : keysOK ps 5 44 = true := by rw [hps]; rfl
            have k45 : slotOf ps 45 = some (6, .pointer (some ⟨bl, off + i * 14, none⟩)) := by rw [hps]; rfl
            have q45 : keysOK ps 6 45 = true := by rw [hps]; rfl
            have k46 : slotOf ps 46 = some (7, .pointer (some ⟨bl, off + i * 14 + 5, none⟩)) := by rw [hps]; rfl
            have q46 : keysOK ps 7 46 = true := by rw [hps]; rfl
            have k47 : slotOf ps 47 = some (8, v8Val x.v) := by rw [hps]; rfl
            have q47 : keysOK ps 8 47 = true := by rw [hps]; rfl
            have k48 : slotOf ps 48 = some (9, .bool (decide (u = x.v))) := by rw [hps]; rfl
            have q48 : keysOK ps 9 48 = true := by rw [hps]; rfl
            have k49 : slotOf ps 49 = some (10, .bool (true && decide (u = x.v))) := by rw [hps]; rfl
            have q49 : keysOK ps 10 49 = true := by rw [hps]; rfl
            have z11 : (ps.all fun p => !(p.1 == 11)) = true := by rw [hps]; rfl
            clear ha0 hps
            refine ⟨?_, ?_, ?_, ?_, ?_, ?_, ?_, ?_, ?_, ?_, ?_, ?_, trivial⟩
            · rintro L _ Wx ⟨rfl, hT⟩ hcl hk hd
              have hN : L 11 = false := by
                cases hh : L 11 with
                | false => rfl
                | true =>
                  have h0 := hcl 11 _ rfl (by simp [hh])
                  simp [Region.binds] at h0
                  simp [hk] at h0
              rw [if_pos (by simp [Region.wanted])]
              refine opIn_value (by intro c h; cases h) (by intro c h; cases h) (by intro c h; cases h) (v := .bool true) (w' := Wx) (by simp [execOp, go_sem, frame_tout (n3) u3, hT.1 hN, hcB]) ⟨frame_put (k39) (q39), ?_⟩
              simpa [upd] using hT
            · rintro L _ Wx ⟨rfl, hT⟩ hcl hk hd
              have hL0 : L 0 = true := by have h := hd; simp [Region.binds] at h; simp [h]
              rw [if_pos (by simp [Region.wanted])]
              refine opIn_value (by intro c h; cases h) (by intro c h; cases h) (by intro c h; cases h) (v := .bool true) (w' := Wx) (by simp [execOp, go_sem, frame_tmp (k39) hL0 (Nat.lt_of_lt_of_eq (by decide : 39 < 59) hsz.symm)]) ⟨frame_put (k40) (q40), ?_⟩
              simpa [upd] using hT
            · rintro L _ Wx ⟨rfl, hT⟩ hcl hk hd
              have hL1 : L 1 = true := by have h := hd; simp [Region.binds] at h; simp [h]
              rw [if_pos (by simp [Region.wanted, yielded, frame_tmp (k40) hL1 (Nat.lt_of_lt_of_eq (by decide : 40 < 59) hsz.symm)])]
              refine opIn_value (by intro c h; cases h) (by intro c h; cases h) (by intro c h; cases h) (v := .int .i64 x.b) (w' := Wx) (by simp [execOp, go_sem, frame_tout (n10) u10]) ⟨frame_put (k41) (q41), ?_⟩
              simpa [upd] using hT
            · rintro L _ Wx ⟨rfl, hT⟩ hcl hk hd
              have hL1 : L 1 = true := by have h := hd; simp [Region.binds] at h; simp [h]
              have hL2 : L 2 = true := by have h := hd; simp [Region.binds] at h; simp [h]
              rw [if_pos (by simp [Region.wanted, yielded, frame_tmp (k40) hL1 (Nat.lt_of_lt_of_eq (by decide : 40 < 59) hsz.symm)])]
              refine opIn_value (by intro c h; cases h) (by intro c h; cases h) (by intro c h; cases h) (v := .pointer (some ⟨w.heap.size, x.b.toNat * 8, none⟩)) (w' := Wx) (by simp [execOp, go_sem, frame_tmp (k41) hL2 (Nat.lt_of_lt_of_eq (by decide : 41 < 59) hsz.symm), frame_tout (n2) u2, hb0, hb1]) ⟨frame_put (k42) (q42), ?_⟩
              simpa [upd] using hT
            · rintro L _ Wx ⟨rfl, hT⟩ hcl hk hd
              have hL1 : L 1 = true := by have h := hd; simp [Region.binds] at h; simp [h]
              have hL3 : L 3 = true := by have h := hd; simp [Region.binds] at h; simp [h]
              have hN : L 11 = false := by
                cases hh : L 11 with
                | false => rfl
                | true =>
                  have h4 := hcl 11 _ rfl (by simp [hh])
                  simp [Region.binds] at h4
                  simp [hk] at h4
              rw [if_pos (by simp [Region.wanted, yielded, frame_tmp (k40) hL1 (Nat.lt_of_lt_of_eq (by decide : 40 < 59) hsz.symm)])]
              obtain rfl : Wx = w0 := hT.1 hN
              refine opIn_load 23 (.tmp 42) rfl ⟨w.heap.size, x.b.toNat * 8, none⟩ (by rw [frame_in (k42) hL3 (Nat.lt_of_lt_of_eq (by decide : 42 < 59) hsz.symm)]) (v8Val u) (ld_st hcA hu) ⟨frame_put (k43) (q43), ?_⟩
              simpa [upd] using hT
            · rintro L _ Wx ⟨rfl, hT⟩ hcl hk hd
              have hL1 : L 1 = true := by have h := hd; simp [Region.binds] at h; simp [h]
              rw [if_pos (by simp [Region.wanted, yielded, frame_tmp (k40) hL1 (Nat.lt_of_lt_of_eq (by decide : 40 < 59) hsz.symm)])]
              refine opIn_value (by intro c h; cases h) (by intro c h; cases h) (by intro c h; cases h) (v := .pointer (some ⟨bl, off + i * 14, none⟩)) (w' := Wx) (by simp [execOp, go_sem, frame_tout (n9) u9]) ⟨frame_put (k44) (q44), ?_⟩
              simpa [upd] using hT
            · rintro L _ Wx ⟨rfl, hT⟩ hcl hk hd
              have hL1 : L 1 = true := by have h := hd; simp [Region.binds] at h; simp [h]
              have hL5 : L 5 = true := by have h := hd; simp [Region.binds] at h; simp [h]
              rw [if_pos (by simp [Region.wanted, yielded, frame_tmp (k40) hL1 (Nat.lt_of_lt_of_eq (by decide : 40 < 59) hsz.symm)])]
              refine opIn_value (by intro c h; cases h) (by intro c h; cases h) (by intro c h; cases h) (v := .pointer (some ⟨bl, off + i * 14, none⟩)) (w' := Wx) (by simp [execOp, go_sem, frame_tmp (k44) hL5 (Nat.lt_of_lt_of_eq (by decide : 44 < 59) hsz.symm)]) ⟨frame_put (k45) (q45), ?_⟩
              simpa [upd] using hT
            · rintro L _ Wx ⟨rfl, hT⟩ hcl hk hd
              have hL1 : L 1 = true := by have h := hd; simp [Region.binds] at h; simp [h]
              have hL6 : L 6 = true := by have h := hd; simp [Region.binds] at h; simp [h]
              rw [if_pos (by simp [Region.wanted, yielded, frame_tmp (k40) hL1 (Nat.lt_of_lt_of_eq (by decide : 40 < 59) hsz.symm)])]
              refine opIn_value (by intro c h; cases h) (by intro c h; cases h) (by intro c h; cases h) (v := .pointer (some ⟨bl, off + i * 14 + 5, none⟩)) (w' := Wx) (by simp [execOp, go_sem, frame_tmp (k45) hL6 (Nat.lt_of_lt_of_eq (by decide : 45 < 59) hsz.symm)]) ⟨frame_put (k46) (q46), ?_⟩
              simpa [upd] using hT
            · rintro L _ Wx ⟨rfl, hT⟩ hcl hk hd
              have hL1 : L 1 = true := by have h := hd; simp [Region.binds] at h; simp [h]
              have hL7 : L 7 = true := by have h := hd; simp [Region.binds] at h; simp [h]
              have hN : L 11 = false := by
                cases hh : L 11 with
                | false => rfl
                | true =>
                  have h8 := hcl 11 _ rfl (by simp [hh])
                  simp [Region.binds] at h8
                  simp [hk] at h8
              rw [if_pos (by simp [Region.wanted, yielded, frame_tmp (k40) hL1 (Nat.lt_of_lt_of_eq (by decide : 40 < 59) hsz.symm)])]
              refine opIn_value (by intro c h; cases h) (by intro c h; cases h) (by intro c h; cases h) (v := v8Val x.v) (w' := Wx) (by simp [execOp, go_sem, frame_tmp (k46) hL7 (Nat.lt_of_lt_of_eq (by decide : 46 < 59) hsz.symm), hT.1 hN, v8Val, c5, c6, c7, c8, c9, c10, c11, c12]) ⟨frame_put (k47) (q47), ?_⟩
              simpa [upd] using hT
            · rintro L _ Wx ⟨rfl, hT⟩ hcl hk hd
              have hL1 : L 1 = true := by have h := hd; simp [Region.binds] at h; simp [h]
              have hL4 : L 4 = true := by have h := hd; simp [Region.binds] at h; simp [h]
              have hL8 : L 8 = true := by have h := hd; simp [Region.binds] at h; simp [h]
              rw [if_pos (by simp [Region.wanted, yielded, frame_tmp (k40) hL1 (Nat.lt_of_lt_of_eq (by decide : 40 < 59) hsz.symm)])]
              refine opIn_value (by intro c h; cases h) (by intro c h; cases h) (by intro c h; cases h) (v := .bool (decide (u = x.v))) (w' := Wx) (by simp [execOp, go_sem, frame_tmp (k43) hL4 (Nat.lt_of_lt_of_eq (by decide : 43 < 59) hsz.symm), frame_tmp (k47) hL8 (Nat.lt_of_lt_of_eq (by decide : 47 < 59) hsz.symm), hGd, hEq]) ⟨frame_put (k48) (q48), ?_⟩
              simpa [upd] using hT
            · rintro L _ Wx ⟨rfl, hT⟩ hcl hk hd
              have hL1 : L 1 = true := by have h := hd; simp [Region.binds] at h; simp [h]
              have hL9 : L 9 = true := by have h := hd; simp [Region.binds] at h; simp [h]
              rw [if_pos (by simp [Region.wanted])]
              refine opIn_value (by intro c h; cases h) (by intro c h; cases h) (by intro c h; cases h) (v := .bool (true && decide (u = x.v))) (w' := Wx) (by simp [execOp, go_sem, frame_tmp (k40) hL1 (Nat.lt_of_lt_of_eq (by decide : 40 < 59) hsz.symm), frame_tmp (k48) hL9 (Nat.lt_of_lt_of_eq (by decide : 48 < 59) hsz.symm)]) ⟨frame_put (k49) (q49), ?_⟩
              simpa [upd] using hT
            · rintro L _ Wx ⟨rfl, hT⟩ hcl hk hd
              have hL10 : L 10 = true := by have h := hd; simp [Region.binds] at h; simp [h]
              rw [if_pos (by simp [Region.wanted])]
              obtain rfl : Wx = w0 := hT.1 hk
              refine opIn_store 4 (.tmp 3) (.tmp 49) rfl ⟨w.heap.size + 1, 0, none⟩ (by rw [frame_oute n3 u3]) (.bool (true && decide (u = x.v))) (by rw [frame_in k49 hL10 (Nat.lt_of_lt_of_eq (by decide : 49 < 59) hsz.symm)]) (by simp [go_sem, hcB, hfB]; rfl) ⟨frame_putNone (z11), ?_⟩
              exact ⟨fun h => by simp [upd] at h, fun _ => rfl⟩
          · rintro L W' hT hall
            have hA11 : L 11 = true := hall 11 (by simp)
            simp only [putAll, Act.put, List.setIfInBounds_toArray, List.set_cons_succ, List.set_cons_zero]
            obtain rfl := hT.2 hA11
            clear hT hall
            have HFIN := Lib.hid hfin
            clear hfin
            gi_wp2
            have h := HFIN.out
            rw [hs0] at h
            exact ⟨h.1, h.2.1, h.2.2⟩
          -- END R13T
      · have e1 : (x.k == 1) = false := by simp [hk1]
        have hstep : repStep (s2, ok2) x = (s2.set x.b.toNat x.v, ok2) := by simp [repStep, hk1]
        have HST := Lib.hid hstep
        clear hk1 hxk hstep
        gi_wp2_with (first | (refine wpListIn_store_st rfl _ _ rfl w.heap.size x.b.toNat rfl x.v rfl HI.out.st hj ?_; intro W2 hg2 hst2; have HG2 := Lib.hid hg2; have HST2 := Lib.hid hst2; clear hg2 hst2))
        refine ⟨from_turn HG2.out (.inl (by omega)), (Rnd.turn HG2.out (Nat.le_refl _) (by omega) (by intro b h; cases h)).keep, ?_⟩
        show RepI _ _ _ _ _ _
        rw [HNX.out, HST.out]
        exact HI.out.turn HG2.out ⟨Nat.le_refl _, by omega⟩ HST2.out (cells_turn HI.out.ser HG2.out (by omega)) HD2.out
    case done =>
      rintro D xs W hD hS hI hK
      have hxs : (xs.map (·.1.2)).foldl repStep (s, ok) = repName l (s, ok) nm := by
        unfold repName
        have h := congrArg (List.map (·.2)) hS
        rw [List.map_map] at h
        rw [show xs.map (·.1.2) = (nmSteps nm l 0).map (·.2) from h]
      rw [hxs] at hI
      have hF2 : ((ordR l).drop (k + 1)).foldl (repName l) (repName l (s, ok) nm) = repP l := by
        have := HF.out
        rw [drop_cons HNM.out, List.foldl_cons] at this
        exact this
      have hl2 : (repName l (s, ok) nm).1.length = 32 := by rw [repName_length]; exact hs
      have HF2 := Lib.hid hF2
      have HI2 := Lib.hid hI
      have HK := Lib.hid hK
      clear hxs hF2 hI hK hseq
      generalize repName l (s, ok) nm = cur at *
      obtain ⟨s2, ok2⟩ := cur
      gi_wp2_with fail
      refine ⟨⟨k + 1, s2, ok2, D :: Ds, _, _, _, _, _, _, _, _, by omega, hl2, rfl, ?_, ?_, ?_, HF2.out⟩, ?_⟩
      · exact ⟨HI2.out.st, HI2.out.ser, HI2.out.below, HI2.out.ck, fun E hE => by rcases List.mem_cons.1 hE with rfl | hE; exact HK.out; exact HI2.out.def_ E hE⟩
      · intro E hE
        rcases List.mem_cons.1 hE with rfl | hE
        · omega
        · exact HDS.out E hE
      · exact List.nodup_cons.2 ⟨fun hm => by have := HDL.out D hm; omega, HNO.out⟩
      · unfold RepM; simp [intOf]; omega
  · obtain rfl : k = (ordR l).length := by omega
    have hfi : repP l = (s, ok) := by
      have := HF.out
      rw [drop_end hlt] at this
      exact this.symm
    have HFI := Lib.hid hfi
    have HA1 : Hid (W1.drew.heap[w.heap.size]? = some (.cells (stArr s) 24 (0, 0))) := HI1.out.st
    have HB1 : Hid (Boxed W1.drew (w.heap.size + 1) 4 (.bool ok)) := HI1.out.ser
    have HBL := Lib.hid HI1.out.below
    have HDF : Hid (∀ D ∈ Ds, W1.drew.heap[D]? = some (.deferred (some []))) := HI1.out.def_
    clear hfi
    gi_wp2_with fail
    -- BEGIN R16
    refine wpIn_region_frame mixed (fun _ => trivial) (by kernel_rfl) [(0, 57, .agg (stArr s)), (1, 58, .bool ok), (4, 4, .int .i64 0)] (fun L Wx => Wx.heap[w.heap.size]? = some (.cells (stArr s) 24 (0, 0)) ∧ Boxed Wx (w.heap.size + 1) 4 (.bool ok) ∧ Below w.heap.size w Wx ∧ ∀ D ∈ Ds, Wx.heap[D]? = some (.deferred (some []))) ?_ ?_ (by rfl) (by rfl) ?_
    · exact ⟨HA1.out, HB1.out, HBL.out.drew, HDF.out⟩
    · intro a0 ps ha0 hps
      have hsz : a0.tmps.size = 59 := by rw [ha0]; rfl
      have u2 : a0.tmps[2]? = some (.pointer (some ⟨w.heap.size, 0, none⟩)) := by rw [ha0]; rfl
      have u3 : a0.tmps[3]? = some (.pointer (some ⟨w.heap.size + 1, 0, none⟩)) := by rw [ha0]; rfl
      have n2 : slotOf ps 2 = none := by rw [hps]; rfl
      have n3 : slotOf ps 3 = none := by rw [hps]; rfl
      have k57 : slotOf ps 57 = some (0, .agg (stArr s)) := by rw [hps]; rfl
      have q57 : keysOK ps 0 57 = true := by rw [hps]; rfl
      have k58 : slotOf ps 58 = some (1, .bool ok) := by rw [hps]; rfl
      have q58 : keysOK ps 1 58 = true := by rw [hps]; rfl
      have z2 : (ps.all fun p => !(p.1 == 2)) = true := by rw [hps]; rfl
      have z3 : (ps.all fun p => !(p.1 == 3)) = true := by rw [hps]; rfl
      have k4 : slotOf ps 4 = some (4, .int .i64 0) := by rw [hps]; rfl
      have q4 : keysOK ps 4 4 = true := by rw [hps]; rfl
      clear ha0 hps
      refine ⟨?_, ?_, ?_, ?_, ?_, trivial⟩
      · rintro L _ Wx ⟨rfl, hT⟩ hcl hk hd
        rw [if_pos (by simp [Region.wanted])]
        refine opIn_load 24 (.tmp 2) rfl ⟨w.heap.size, 0, none⟩ (by rw [frame_oute (n2) u2]) (.agg (stArr s)) (ld_all hT.1 hs) ⟨frame_put (k57) (q57), ?_⟩
        simpa [upd] using hT
      · rintro L _ Wx ⟨rfl, hT⟩ hcl hk hd
        rw [if_pos (by simp [Region.wanted])]
        refine opIn_valueW (by intro c h; cases h) (v := .bool ok) (w' := Wx) (by simp [execOp, go_sem, frame_tout (n3) u3, hT.2.1.cell]) ⟨frame_put (k58) (q58), ?_⟩
        simpa [upd] using hT
      · rintro L _ Wx ⟨rfl, hT⟩ hcl hk hd
        have hL0 : L 0 = true := by have h := hd; simp [Region.binds] at h; simp [h]
        rw [if_pos (by simp [Region.wanted])]
        have hg := grownBy_setRow Wx w.heap.size (stArr s)
        refine opIn_store 24 (.tmp 2) (.tmp 57) rfl ⟨w.heap.size, 0, none⟩ (by rw [frame_oute n2 u2]) (.agg (stArr s)) (by rw [frame_in k57 hL0 (Nat.lt_of_lt_of_eq (by decide : 57 < 59) hsz.symm)]) (st_all s hT.1 hs hs) ⟨frame_putNone (z2), ?_⟩
        exact ⟨setRow_heap Wx _ _ _ _ _ hT.1, cells_turn hT.2.1 hg (by omega), hT.2.2.1.grown hg hT.2.2.1.size (fun k e => by cases e; omega), fun D hD => cells_turn (hT.2.2.2 D hD) hg (by have := HDS.out D hD; omega)⟩
      · rintro L _ Wx ⟨rfl, hT⟩ hcl hk hd
        have hL1 : L 1 = true := by have h := hd; simp [Region.binds] at h; simp [h]
        rw [if_pos (by simp [Region.wanted])]
        have hg := grownBy_setCell' Wx (w.heap.size + 1) (.bool ok)
        refine opIn_store 4 (.tmp 3) (.tmp 58) rfl ⟨w.heap.size + 1, 0, none⟩ (by rw [frame_oute n3 u3]) (.bool ok) (by rw [frame_in k58 hL1 (Nat.lt_of_lt_of_eq (by decide : 58 < 59) hsz.symm)]) (by simp [go_sem, hT.2.1.cell, hT.2.1.frozen]; rfl) ⟨frame_putNone (z3), ?_⟩
        exact ⟨cells_turn hT.1 hg (by omega), hT.2.1.set _, hT.2.2.1.grown hg hT.2.2.1.size (fun k e => by cases e; omega), fun D hD => cells_turn (hT.2.2.2 D hD) hg (by have := HDS.out D hD; omega)⟩
      · rintro L _ Wx ⟨rfl, hT⟩ hcl hk hd
        rw [if_pos (by simp [Region.wanted])]
        refine opIn_valueW (by intro c h; cases h) (v := .int .i64 0) (w' := Wx) (by simp [execOp, go_sem]) ⟨frame_put (k4) (q4), ?_⟩
        simpa [upd] using hT
    · rintro L W' hT hall
      simp only [putAll, Act.put, List.setIfInBounds_toArray, List.set_cons_succ, List.set_cons_zero]
      obtain ⟨t1, t2, t3, t4⟩ := hT
      clear hall
      gi_wp2_with fail
      refine leaves_marks Ds W' t4 HNO.out ?_
      intro W2 g1 g2 g3 g4 g5
      have hA2 : W2.heap[w.heap.size]? = some (.cells (stArr s) 24 (0, 0)) := (g5 _ (fun h => by have := HDS.out _ h; omega)).trans t1
      have hB2 : Boxed W2 (w.heap.size + 1) 4 (.bool ok) := (g5 _ (fun h => by have := HDS.out _ h; omega)).trans t2
      refine ⟨.tuple #[.agg (stArr s), .bool ok, .int .i64 0], results_cct Try.results27 rfl (ld_all hA2 hs) rfl (by simp [go_sem, hB2.cell]) rfl, by rw [HFI.out], ?_⟩
      exact t3.trans ⟨g1, g2, g3, by omega, fun k hk => g5 k (fun h => by have := HDS.out _ h; omega)⟩
    -- END R16

end Go.Proofs.Ytgdmgeihgkbjaaa
/- Faults: the plain side of chapter 32 -/
namespace Go.Proofs.Ytgdmgeihgkbjaaa
open Go.RowKit

structure Ft where
  i : Int
  n : Nm
  b : Int
  want : V8
  got : V8
  should : Nm
  was : Nm
  k : Int
  deriving DecidableEq, Repr, Inhabited

def Ft.cells (f : Ft) : List Value := .int .i64 f.i :: (f.n.cells ++ (.int .i64 f.b :: (f.want.cells ++ (f.got.cells ++ (f.should.cells ++ (f.was.cells ++ [.int .i8 f.k]))))))
def ftArr (f : Ft) : Array Value := #[.int .i64 f.i, .int .i64 f.n.s, .int .i64 f.n.i, .int .i64 f.n.t, .int .i64 f.b,
  .int .u8 f.want.a, .int .u8 f.want.b, .int .u8 f.want.c, .int .u8 f.want.d, .int .u8 f.want.e, .int .u8 f.want.f, .int .u8 f.want.g, .int .u8 f.want.h,
  .int .u8 f.got.a, .int .u8 f.got.b, .int .u8 f.got.c, .int .u8 f.got.d, .int .u8 f.got.e, .int .u8 f.got.f, .int .u8 f.got.g, .int .u8 f.got.h,
  .int .i64 f.should.s, .int .i64 f.should.i, .int .i64 f.should.t, .int .i64 f.was.s, .int .i64 f.was.i, .int .i64 f.was.t, .int .i8 f.k]

theorem ftArr_cells (f : Ft) : (ftArr f).toList = f.cells := rfl
theorem Ft.cells_length (f : Ft) : f.cells.length = 28 := rfl

def nz : Nm := ⟨0, 0, 0⟩
def sz : Sn := ⟨0, nz, 0, z0, 0⟩

/-- Who wrote v into block b last. -/
def lastW (p : List Sn) (b : Int) (v : V8) : Nm := p.foldl (fun a y => if y.k = 2 ∧ y.b = b ∧ y.v = v then y.n else a) nz

theorem lastW_snoc (p : List Sn) (y : Sn) (b : Int) (v : V8) : lastW (p ++ [y]) b v = if y.k = 2 ∧ y.b = b ∧ y.v = v then y.n else lastW p b v := by simp [lastW]

/-- The place of a name in the order, from 1 on; 0: it has none. -/
def placeOf (ns : List Nm) (n : Nm) : Int := match ns.findIdx? (· = n) with | some i => (i : Int) + 1 | none => 0

/-- A fault's kind. -/
def kindP (ns : List Nm) (n was : Nm) (got : V8) : Int :=
  if was = nz ∧ got ≠ z0 then 4
  else if was = n then 3
  else if was ≠ nz ∧ placeOf ns was = 0 then 2
  else if placeOf ns was > placeOf ns n then 1
  else 0

/-- A read that counts. -/
def ftOf (l : List Sn) (ns : List Nm) (h : List Sn) (n : Nm) (i : Nat) (x : Sn) : Ft :=
  let y := h[x.b.toNat]?.getD sz
  ⟨i, n, x.b, y.v, x.v, y.n, lastW (l.take i) x.b x.v, kindP ns n (lastW (l.take i) x.b x.v) x.v⟩

/-- The places of a name's steps. -/
def idxN (n : Nm) : List Sn → Nat → List Nat
  | [], _ => []
  | x :: r, i => if x.n = n then i :: idxN n r (i + 1) else idxN n r (i + 1)

/-- The reads that count, over places. -/
def emit (l : List Sn) (ns : List Nm) : List (Nm × Nat) → List Sn → List Ft
  | [], _ => []
  | (n, i) :: r, h =>
    match l[i]? with
    | none => emit l ns r h
    | some x => if x.k = 2 then emit l ns r (h.set x.b.toNat x) else if x.k = 1 then ftOf l ns h n i x :: emit l ns r h else emit l ns r h

def pairsP (l : List Sn) (ns : List Nm) : List (Nm × Nat) := ns.flatMap fun n => (idxN n l 0).map fun i => (n, i)
def h0 : List Sn := List.replicate 32 sz
/-- All reads that count. -/
def readsP (l : List Sn) : List Ft := emit l (ordR l) (pairsP l (ordR l)) h0
/-- A history's faults. -/
def wrongP (l : List Sn) : List Ft := (readsP l).filter fun f => decide (f.want ≠ f.got)

theorem idxN_mem : ∀ (l : List Sn) (n : Nm) (k i : Nat), i ∈ idxN n l k → k ≤ i ∧ ∃ x, l[i - k]? = some x ∧ x.n = n
  | [], _, _, _, h => by simp [idxN] at h
  | x :: r, n, k, i, h => by
    simp only [idxN] at h
    have key : i ∈ idxN n r (k + 1) → k ≤ i ∧ ∃ y, (x :: r)[i - k]? = some y ∧ y.n = n := fun h' => by
      obtain ⟨h1, y, h2, h3⟩ := idxN_mem r n (k + 1) i h'
      refine ⟨by omega, y, ?_, h3⟩
      have : i - k = (i - (k + 1)) + 1 := by omega
      rw [this]
      simpa using h2
    split at h
    · rcases List.mem_cons.1 h with rfl | h
      · exact ⟨Nat.le_refl _, x, by simp, by assumption⟩
      · exact key h
    · exact key h

theorem idxN_app (n : Nm) : ∀ (p r : List Sn) (k : Nat), idxN n (p ++ r) k = idxN n p k ++ idxN n r (k + p.length)
  | [], r, k => by simp [idxN]
  | x :: p, r, k => by
    simp only [List.cons_append, idxN, idxN_app n p r (k + 1), List.length_cons]
    rw [show k + 1 + p.length = k + (p.length + 1) by omega]
    split <;> simp

theorem idxN_snoc (n : Nm) (p : List Sn) (x : Sn) : idxN n (p ++ [x]) 0 = if x.n = n then idxN n p 0 ++ [p.length] else idxN n p 0 := by
  rw [idxN_app]
  simp only [idxN, Nat.zero_add]
  split <;> simp

theorem idxN_length (n : Nm) : ∀ (l : List Sn) (k : Nat), (idxN n l k).length ≤ l.length
  | [], _ => Nat.le_refl _
  | x :: r, k => by
    have := idxN_length n r (k + 1)
    simp only [idxN]
    split <;> simp <;> omega

end Go.Proofs.Ytgdmgeihgkbjaaa
/- 'm[k] = append(m[k], ..)': the entry taken, the entry stored. -/
namespace Go.Proofs.Ytgdmgeihgkbjaaa
open Go.RowKit

/-- Block M is a map that holds m, and st is the stamp of k's entry. -/
def EntryIs {κ β : Type} [DecidableEq κ] (kenc : κ → Value) (venc : β → Value) (w : World) (M : Nat) (m : List (κ × β)) (k : κ) (st : Nat) : Prop :=
  ∃ es clock, w.heap[M]? = some (.map es clock) ∧ es.toList.map (fun e => (e.key, e.val)) = m.map (fun p => (kenc p.1, venc p.2)) ∧ (es.toList.map (·.born)).Nodup ∧ (∀ e ∈ es.toList, e.born < clock) ∧
    ∃ i e, (m.map (·.1)).findIdx? (· = k) = some i ∧ es.toList[i]? = some e ∧ e.born = st

section
variable {κ β : Type} [DecidableEq κ] {kenc : κ → Value} {venc : β → Value}

theorem EntryIs.kept {w w' : World} {M : Nat} {m : List (κ × β)} {k : κ} {st : Nat} (h : EntryIs kenc venc w M m k st) (hb : w'.heap[M]? = w.heap[M]?) : EntryIs kenc venc w' M m k st := by
  obtain ⟨es, clock, h1, h2⟩ := h
  exact ⟨es, clock, hb.trans h1, h2⟩

theorem EntryIs.map {w : World} {M : Nat} {m : List (κ × β)} {k : κ} {st : Nat} (h : EntryIs kenc venc w M m k st) : MapIs kenc venc w M m := by
  obtain ⟨es, clock, h1, h2, h3, h4, _⟩ := h
  exact ⟨es, clock, h1, h2, h3, h4⟩

theorem EntryIs.lt {w : World} {M : Nat} {m : List (κ × β)} {k : κ} {st : Nat} (h : EntryIs kenc venc w M m k st) : M < w.heap.size := h.map.lt

/-- The map with k in it. -/
def withKey (m : List (κ × β)) (k : κ) (z : β) : List (κ × β) := match look m k with | some _ => m | none => put m k z

theorem run_entry_m {T K E : TypeId} (hT : Try.prog.underlying T = some (.map K E)) (hk : KeyOK K kenc) {z : β} (hz : ∀ w, (zeroValue E).run Try.prog w = .ok (venc z) w) {w : World} {b : Nat} {m : List (κ × β)} (hm : MapIs kenc venc w b m) (k : κ) :
    ∃ w' st, (Instr.mapEntry T (.map (some b)) (kenc k)).run Try.prog w = .ok (.tuple #[venc ((look m k).getD z), goInt (st : Nat)]) w' ∧ w.grownBy w' (some b) ∧ w'.heap.size = w.heap.size ∧ EntryIs kenc venc w' b (withKey m k z) k st := by
  obtain ⟨es, clock, hb, he, hn, hc⟩ := hm
  have hf := run_find hk he k w
  have hg : (getObj b).run Try.prog w = .ok (.map es clock) w := by simp [getObj, Sem.run, hb]
  have hck := hk.chk false k w
  have hset : ∀ o, (setObj b o).run Try.prog w = .ok () (w.putObj b o) := fun o => by simp [setObj, Sem.run, hb, World.putObj]
  have hlb := (Array.getElem?_eq_some_iff.1 hb).1
  have hpb : ∀ o, (w.putObj b o).heap[b]? = some o := fun o => World.putObj_heap_same hlb
  have hgr : ∀ o, w.grownBy (w.putObj b o) (some b) := fun o => grownBy_putObj w b o
  have hlen : es.size = m.length := by
    have := congrArg List.length he
    simpa using this
  have hlk := look_find m k
  unfold Instr.mapEntry
  simp only [Sem.run_bind, run_underlying hT, Result.andThen_ok, hg, hck, hf]
  cases hi : (m.map (·.1)).findIdx? (· = k) with
  | none =>
    rw [hi] at hlk
    have hlk' : look m k = none := hlk
    refine ⟨_, clock, by simp [hset, hz, hlk'], hgr (.map (es.push { key := kenc k, val := venc z, born := clock }) (clock + 1)), by simp, es.push { key := kenc k, val := venc z, born := clock }, clock + 1, hpb _, ?_, ?_, ?_, es.size, { key := kenc k, val := venc z, born := clock }, ?_, by simp, rfl⟩
    · have : withKey m k z = m ++ [(k, z)] := by unfold withKey; rw [hlk', put_idx, hi]
      rw [this]
      simp [he]
    · simp only [Array.toList_push, List.map_append, List.map_cons, List.map_nil]
      rw [List.nodup_append]
      refine ⟨hn, by simp, ?_⟩
      intro x hx y hy
      simp only [List.mem_singleton] at hy
      subst hy
      obtain ⟨e, he1, rfl⟩ := List.mem_map.1 hx
      have := hc e he1
      omega
    · intro e he1
      simp only [Array.toList_push, List.mem_append, List.mem_singleton] at he1
      rcases he1 with he1 | rfl
      · have := hc e he1; omega
      · simp
    · have : withKey m k z = m ++ [(k, z)] := by unfold withKey; rw [hlk', put_idx, hi]
      rw [this, List.map_append, List.findIdx?_append, hi]
      simp [hlen]
  | some i =>
    obtain ⟨hil, hik, _⟩ := List.findIdx?_eq_some_iff_getElem.1 hi
    have him : i < m.length := by simpa using hil
    have hie : i < es.size := by omega
    have hke : es[i].key = kenc k := by
      have h1 := keys_of he
      have h2 := congrArg (fun l => l[i]?) h1
      simp [hie, him] at h2
      simp at hik
      rw [h2, hik]
    have hv := vals_of he i
    rw [List.getElem?_eq_getElem him] at hv
    have hve : es[i].val = venc m[i].2 := by simpa [hie] using hv
    have hkst : (Instr.keyThatStays es[i].key (kenc k)).run Try.prog w = .ok (kenc k) w := by
      unfold Instr.keyThatStays
      rw [hke, if_pos (hk.same k)]
      rfl
    have hlk' : look m k = some m[i].2 := by
      rw [hlk, hi]; simp [him]
    have hmod : ∀ j : Nat, (es.modify i fun e => { e with key := kenc k })[j]? = es[j]? := by
      intro j
      rw [Array.getElem?_modify]
      by_cases hij : i = j
      · subst hij
        rw [if_pos rfl]
        simp [hie, ← hke]
      · rw [if_neg hij]
    have hsame : (es.modify i fun e => { e with key := kenc k }) = es := by
      apply Array.ext_getElem?
      intro j; exact hmod j
    refine ⟨_, es[i].born, by simp [hie, hkst, hset, hlk', hve, hsame], hgr (.map es clock), by simp, es, clock, hpb _, ?_, hn, hc, i, es[i], ?_, by simp [hie], rfl⟩
    · unfold withKey; rw [hlk']; exact he
    · unfold withKey; rw [hlk']; exact hi

theorem run_store_m {T : TypeId} {w : World} {b : Nat} {m : List (κ × β)} {k : κ} {st : Nat} (hm : EntryIs kenc venc w b m k st) (v : β) :
    ∃ w', (Instr.entryStore T (.map (some b)) (goInt (st : Nat)) (venc v)).run Try.prog w = .ok () w' ∧ w.grownBy w' (some b) ∧ w'.heap.size = w.heap.size ∧ MapIs kenc venc w' b (put m k v) := by
  obtain ⟨es, clock, hb, he, hn, hc, i, e0, hi, hes, hst⟩ := hm
  have hg : (getObj b).run Try.prog w = .ok (.map es clock) w := by simp [getObj, Sem.run, hb]
  have hset : ∀ o, (setObj b o).run Try.prog w = .ok () (w.putObj b o) := fun o => by simp [setObj, Sem.run, hb, World.putObj]
  have hlb := (Array.getElem?_eq_some_iff.1 hb).1
  have hpb : ∀ o, (w.putObj b o).heap[b]? = some o := fun o => World.putObj_heap_same hlb
  obtain ⟨hie, rfl⟩ := List.getElem?_eq_some_iff.1 hes
  have hie' : i < es.size := by simpa using hie
  have hfi : es.findIdx? (fun e => (e.born : Int) == (st : Int)) = some i := by
    have hcv : ∀ (A : Array MapEntry) (p : MapEntry → Bool), A.findIdx? p = A.toList.findIdx? p := fun A p => by cases A; simp
    rw [hcv, List.findIdx?_eq_some_iff_getElem]
    refine ⟨hie, by simp [← hst], fun j hj => ?_⟩
    have hjl : j < es.toList.length := by omega
    intro hc2
    have hb2 : es.toList[j].born = es.toList[i].born := by
      rw [hst]
      have h3 : ((es.toList[j].born : Nat) : Int) = (st : Int) := by simpa using hc2
      omega
    have h1 := List.getElem_inj (i := j) (j := i) (h₀ := by simpa using hjl) (h₁ := by simpa using hie) hn
    have := h1.1 (by simpa using hb2)
    omega
  obtain ⟨hil, hik, _⟩ := List.findIdx?_eq_some_iff_getElem.1 hi
  have him : i < m.length := by simpa using hil
  refine ⟨w.putObj b (.map (es.modify i fun e => { e with val := venc v }) clock), ?_, grownBy_putObj w b _, by simp, es.modify i fun e => { e with val := venc v }, clock, hpb _, ?_, ?_, ?_⟩
  · unfold Instr.entryStore
    simp only [Sem.run_bind, hg, Result.andThen_ok, goInt, asInt, asIntOf, Sem.run_pure, hfi, hset]
  · rw [put_idx, hi]
    apply List.ext_getElem?
    intro j
    have h1 := congrArg (fun l => l[j]?) he
    simp only [List.getElem?_map, Array.toList_modify, List.getElem?_modify] at h1 ⊢
    by_cases hij : i = j
    · subst hij
      rw [List.getElem?_set_self him]
      simp only [List.getElem?_eq_getElem hie, List.getElem?_eq_getElem him, Option.map_some, Option.some.injEq, Prod.mk.injEq] at h1
      simp at hik
      simp [hie']
      have := h1.1
      simpa [hik] using this
    · simp only [hij, if_false, Option.map_eq_map] at h1 ⊢
      rw [List.getElem?_set_ne hij]
      simpa using h1
  · have : (es.modify i fun e => { e with val := venc v }).toList.map (·.born) = es.toList.map (·.born) := by
      apply List.ext_getElem?
      intro j
      simp only [List.getElem?_map, Array.toList_modify, List.getElem?_modify]
      by_cases hij : i = j
      · subst hij; simp [hie']
      · simp [hij]
    rw [this]
    exact hn
  · intro e he1
    obtain ⟨j, hj⟩ := List.getElem?_of_mem he1
    simp only [Array.toList_modify, List.getElem?_modify] at hj
    by_cases hij : i = j
    · subst hij
      simp [hie'] at hj
      subst hj
      exact hc es[i] (by simp)
    · simp [hij] at hj
      exact hc e (by rw [Array.mem_toList_iff]; exact Array.mem_of_getElem? hj)

end

end Go.Proofs.Ytgdmgeihgkbjaaa
/- 'witness.look': a history, its order, each name's place -/
namespace Go.Proofs.Ytgdmgeihgkbjaaa
open Go.RowKit Go.Shelf
attribute [local go_sem] run_makeMap_plain

/-- The places, as the loop lays them. -/
def plF : List (Nm × Int) → List Nm → Nat → List (Nm × Int)
  | m, [], _ => m
  | m, n :: r, i => plF (put m n ((i : Int) + 1)) r (i + 1)

theorem look_plF (n : Nm) : ∀ (ns : List Nm) (m : List (Nm × Int)) (i : Nat), ns.Nodup → look (plF m ns i) n = match ns.findIdx? (· = n) with | some j => some (((i + j : Nat) : Int) + 1) | none => look m n
  | [], m, i, _ => rfl
  | x :: r, m, i, h => by
    obtain ⟨h1, h2⟩ := List.nodup_cons.1 h
    rw [plF, look_plF n r _ _ h2, List.findIdx?_cons]
    by_cases hx : x = n
    · have : r.findIdx? (· = n) = none := by
        rw [List.findIdx?_eq_none_iff]
        intro y hy
        have : y ≠ n := fun e => h1 (by rw [hx, ← e]; exact hy)
        simpa using this
      rw [this]
      simp [hx, look_put]
    · simp only [hx, decide_false, Bool.false_eq_true, if_false]
      cases hf : r.findIdx? (· = n) with
      | none => simp [look_put, hx]
      | some j => simp; omega

theorem look_place (ns : List Nm) (h : ns.Nodup) (n : Nm) : (look (plF [] ns 0) n).getD 0 = placeOf ns n := by
  rw [look_plF n ns [] 0 h]
  unfold placeOf
  cases ns.findIdx? (· = n) with
  | none => rfl
  | some j => simp

/-- A view in block Bv. -/
def ViewAt (base : Nat) (W : World) (Bv : Nat) (lv : Value) (ns : List Nm) : Prop :=
  ∃ na nc Mp, base ≤ Bv ∧ base ≤ Mp ∧ W.heap[Bv]? = some (.cells #[lv, .slice na ns.length nc, .map (some Mp)] 119 (0, 0)) ∧ MapIs nmV intV W Mp (plF [] ns 0) ∧
    (na = none → ns = [] ∧ nc = 0) ∧ ∀ b off s, na = some ⟨b, off, s⟩ → base ≤ b ∧ (0 < ns.length → s = none ∧ b < W.heap.size ∧ RowsAt Nm.cells 3 W b off ns)

theorem op_mapPut {κ β : Type} [DecidableEq κ] {kenc : κ → Value} {venc : β → Value} {o : Oper} {a : Act} {w : World} {K : Act → World → Prop} {Q : Exit → Act → World → Prop} (T : TypeId) (x y z : Operand) (ho : o.op = .mapUpdate T x y z)
    {Kt E : TypeId} (hT : Try.prog.underlying T = some (.map Kt E)) (hk : KeyOK Kt kenc) {M : Nat} {m : List (κ × β)} (hm : MapIs kenc venc w M m) (hx : a.eval x = .map (some M)) (k : κ) (hy : a.eval y = kenc k) (v : β) (hz : a.eval z = venc v)
    (h : ∀ w', w.grownBy w' (some M) → MapIs kenc venc w' M (put m k v) → K (a.put o.dst undef) w') : o.wp Try.prog a w K Q := by
  obtain ⟨es, clock, hr, hm'⟩ := run_put hT hk hm k v
  unfold Oper.wp
  simp only [execOp, ho, hx, hy, hz, Sem.run_bind, hr, Result.andThen_ok, Sem.run_pure]
  exact h _ (grownBy_putObj w M _) hm'

set_option maxRecDepth 100000 in
set_option maxHeartbeats 4000000 in
theorem look_any (l : List Sn) (v : Value) (w : World) (hl : l.length ≤ 100000) (hv : Sns w.heap.size w v l) :
    Calls Try.prog 58 #[v] w fun e w' => ((mayP l = false ∧ e = .returned (.tuple #[.pointer none, .int .i64 2])) ∨ (mayP l = true ∧ ∃ Bv, e = .returned (.tuple #[.pointer (some ⟨Bv, 0, none⟩), .int .i64 0]) ∧ ViewAt w.heap.size w' Bv v (ordR l))) ∧ Below w.heap.size w w' := by
  have HC := Lib.hid (order_any l v w hl hv)
  have hva : ∃ a c, v = .slice a l.length c := by obtain ⟨a, c, h, _⟩ := hv; exact ⟨a, c, h⟩
  obtain ⟨va, vc, rfl⟩ := hva
  have hle := ordR_le l
  clear hv
  go_enter Try.func58, Try.ntmps58
  go_wp2_with fail
  refine HC.out.mono ?_
  rintro e w1 ⟨h, b1⟩
  rcases h with ⟨hm, rfl⟩ | ⟨hm, nv, rfl, hown⟩
  · have HM := Lib.hid hm
    clear hm
    go_wp2_with fail
    go_ret2
    exact ⟨.inl ⟨HM.out, rfl⟩, b1⟩
  · obtain ⟨na, nc, rfl⟩ := ownsRow_slice hown
    have hb : ∀ b off s, na = some ⟨b, off, s⟩ → w.heap.size ≤ b := fun b off s e => (hown.lt b (by rw [e]; rfl)).1
    obtain ⟨_, _, en, nn, nh⟩ := rows_of_owns (enc := Nm.cells) (k := 3) (fun _ => rfl) hown
    cases en
    have hnd := ordR_nodup hm
    have HM := Lib.hid hm
    have HBB := Lib.hid hb
    have NN := Lib.hid nn
    have NH := Lib.hid nh
    have B1 := Lib.hid b1
    have HND := Lib.hid hnd
    clear hm hb nn nh b1 hown hnd
    generalize hns : ordR l = ns at *
    have HNS := Lib.hid hns
    clear hns
    go_wp2_with fail
    obtain ⟨w2, hw2⟩ : ∃ w2, (w1.alloc (.map #[] 0)).alloc (.cells #[.slice va l.length vc, .slice na ns.length nc, .map (some w1.heap.size)] 119) = w2 := ⟨_, rfl⟩
    have hbv : w2.heap[w1.heap.size + 1]? = some (.cells #[.slice va l.length vc, .slice na ns.length nc, .map (some w1.heap.size)] 119 (0, 0)) := hw2 ▸ heap_alloc2_new w1 _ _
    have hmp : MapIs nmV intV w2 w1.heap.size [] := hw2 ▸ (MapIs.new w1).kept (Below.heap_alloc _ _ _ (by simp))
    have hb2 : Below w1.heap.size w1 w2 := hw2 ▸ (below_alloc1 _).trans ((below_alloc1 _).mono (by simp))
    rw [hw2]
    have HBV := Lib.hid hbv
    have HMP := Lib.hid hmp
    have HB2 := Lib.hid hb2
    have HSZ := Lib.hid B1.out.size
    clear hw2 hbv hmp hb2
    obtain ⟨Mp, hMpe⟩ : ∃ Mp, Mp = w1.heap.size := ⟨_, rfl⟩
    obtain ⟨Bv, hBve⟩ : ∃ Bv, Bv = w1.heap.size + 1 := ⟨_, rfl⟩
    have hne : Bv ≠ Mp := by omega
    have hMp : w1.heap.size ≤ Mp := by omega
    have hBv : w1.heap.size ≤ Bv := by omega
    rw [← hBve, ← hMpe] at HBV
    rw [← hMpe] at HMP
    rw [← hBve, ← hMpe]
    clear hMpe hBve
    go_loopw [24] (fun io wr => ∃ (q : Nat) (mm : List (Nm × Int)), q ≤ ns.length ∧ io = .int .i64 q ∧ wr.heap[Bv]? = some (.cells #[.slice va l.length vc, .slice na ns.length nc, .map (some Mp)] 119 (0, 0)) ∧ MapIs nmV intV wr Mp mm ∧ Below w1.heap.size w1 wr ∧ plF mm (ns.drop q) q = plF [] ns 0) (fun io _ => ns.length - (intOf io).toNat)
    case atStart => exact ⟨0, [], Nat.zero_le _, rfl, HBV.out, HMP.out, HB2.out, rfl⟩
    case round =>
      obtain ⟨q, mm, hq, rfl, hbv, hmm0, hB, hpl⟩ := hrel
      by_cases hlt : q < ns.length
      · obtain ⟨nm, hnm⟩ : ∃ nm, ns[q]? = some nm := ⟨_, List.getElem?_eq_getElem hlt⟩
        obtain ⟨b, off, rfl, hb, hr⟩ := rows_some NN.out NH.out hlt
        obtain ⟨y0, y1, y2⟩ := (hr.below hb hB).nm hnm
        have HPL : Hid (plF (put mm nm ((q : Int) + 1)) (ns.drop (q + 1)) (q + 1) = plF [] ns 0) := by
          have := hpl
          rw [drop_cons hnm, plF] at this
          exact this
        have hwq : IntKind.i64.wrap ((q : Int) + 1) = (q : Int) + 1 := by simp [IntKind.wrap, IntKind.bits, IntKind.signed]; omega
        have HWQ := Lib.hid hwq
        obtain ⟨w0, hw0⟩ : ∃ w0, (wr.alloc (.cells #[.int .i64 nm.s, .int .i64 nm.i, .int .i64 nm.t] 34)).drew = w0 := ⟨_, rfl⟩
        have hbv0 : w0.heap[Bv]? = some (.cells #[.slice (some ⟨b, off, none⟩) ns.length nc, .slice (some ⟨b, off, none⟩) ns.length nc, .map (some Mp)] 119 (0, 0)) ∨ True := .inr trivial
        have HBV0 : Hid (w0.heap[Bv]? = some (.cells #[.slice va l.length vc, .slice (some ⟨b, off, none⟩) ns.length nc, .map (some Mp)] 119 (0, 0))) := hw0 ▸ (heap_alloc_old wr _ (lt_of_heap hbv)).trans hbv
        have hmm : MapIs nmV intV w0 Mp mm := hw0 ▸ hmm0.kept (w' := (wr.alloc (.cells #[.int .i64 nm.s, .int .i64 nm.i, .int .i64 nm.t] 34)).drew) (heap_alloc_old wr _ hmm0.lt)
        have HB0 : Hid (Below w1.heap.size w1 w0) := hw0 ▸ (hB.alloc hB.size _).drew
        have hbn0 : w0.heap[wr.heap.size]? = some (.cells #[.int .i64 nm.s, .int .i64 nm.i, .int .i64 nm.t] 34 (0, 0)) := hw0 ▸ heap_alloc_new wr _
        have hv2 : w0.cell? ⟨Bv, 2, none⟩ = some (.map (some Mp)) := by rw [cell_of_row w0 _ _ _ 119 (0, 0) HBV0.out]; rfl
        have m0 : w0.cell? ⟨wr.heap.size, 0, none⟩ = some (.int .i64 nm.s) := by rw [cell_of_row w0 _ _ _ 34 (0, 0) hbn0]; rfl
        have m1 : w0.cell? ⟨wr.heap.size, 1, none⟩ = some (.int .i64 nm.i) := by rw [cell_of_row w0 _ _ _ 34 (0, 0) hbn0]; rfl
        have m2 : w0.cell? ⟨wr.heap.size, 2, none⟩ = some (.int .i64 nm.t) := by rw [cell_of_row w0 _ _ _ 34 (0, 0) hbn0]; rfl
        have HW0 := Lib.hid hw0
        have HLT := Lib.hid hlt
        have HMM := Lib.hid hmm
        have HV2 := Lib.hid hv2
        have HM0 := Lib.hid (And.intro m0 (And.intro m1 m2))
        clear hbv hmm0 hB hpl hr hnm hw0 hbv0 hbn0 hmm hv2 m0 m1 m2 hwq
        go_wp2_with fail
        have hmm := HMM.out
        have hv2 := HV2.out
        obtain ⟨m0, m1, m2⟩ := HM0.out
        have hwq := HWQ.out
        generalize wr.heap.size = bn at *
        -- BEGIN LK
        refine wp_region_frame mixed (by kernel_rfl) [(0, 29, .pointer (some ⟨Bv, 0, none⟩)), (1, 30, .pointer (some ⟨Bv, 0, none⟩)), (2, 31, .pointer (some ⟨Bv, 2, none⟩)), (3, 32, .map (some Mp)), (4, 33, .agg #[.int .i64 nm.s, .int .i64 nm.i, .int .i64 nm.t]), (5, 34, .int .i64 (q : Int)), (6, 35, .int .i64 ((q : Int) + 1))] (fun L Wx => (L 7 = false → Wx = w0) ∧ (L 7 = true → w0.grownBy Wx (some Mp) ∧ MapIs nmV intV Wx Mp (put mm nm ((q : Int) + 1)))) ?_ ?_ (by rfl) (by rfl) ?_
        · exact ⟨fun _ => HW0.out, fun h => by cases h⟩
        · intro a0 ps ha0 hps
          have hsz : a0.tmps.size = 38 := by rw [ha0]; rfl
          have u6 : a0.tmps[6]? = some (.pointer (some ⟨Bv, 0, none⟩)) := by rw [ha0]; rfl
          have u7 : a0.tmps[7]? = some (.int .i64 (q : Int)) := by rw [ha0]; rfl
          have u8 : a0.tmps[8]? = some (.pointer (some ⟨bn, 0, none⟩)) := by rw [ha0]; rfl
          have n6 : slotOf ps 6 = none := by rw [hps]; rfl
          have n7 : slotOf ps 7 = none := by rw [hps]; rfl
          have n8 : slotOf ps 8 = none := by rw [hps]; rfl
          have k29 : slotOf ps 29 = some (0, .pointer (some ⟨Bv, 0, none⟩)) := by rw [hps]; rfl
          have q29 : keysOK ps 0 29 = true := by rw [hps]; rfl
          have k30 : slotOf ps 30 = some (1, .pointer (some ⟨Bv, 0, none⟩)) := by rw [hps]; rfl
          have q30 : keysOK ps 1 30 = true := by rw [hps]; rfl
          have k31 : slotOf ps 31 = some (2, .pointer (some ⟨Bv, 2, none⟩)) := by rw [hps]; rfl
          have q31 : keysOK ps 2 31 = true := by rw [hps]; rfl
          have k32 : slotOf ps 32 = some (3, .map (some Mp)) := by rw [hps]; rfl
          have q32 : keysOK ps 3 32 = true := by rw [hps]; rfl
          have k33 : slotOf ps 33 = some (4, .agg #[.int .i64 nm.s, .int .i64 nm.i, .int .i64 nm.t]) := by rw [hps]; rfl
          have q33 : keysOK ps 4 33 = true := by rw [hps]; rfl
          have k34 : slotOf ps 34 = some (5, .int .i64 (q : Int)) := by rw [hps]; rfl
          have q34 : keysOK ps 5 34 = true := by rw [hps]; rfl
          have k35 : slotOf ps 35 = some (6, .int .i64 ((q : Int) + 1)) := by rw [hps]; rfl
          have q35 : keysOK ps 6 35 = true := by rw [hps]; rfl
          have z7 : (ps.all fun p => !(p.1 == 7)) = true := by rw [hps]; rfl
          clear ha0 hps
          refine ⟨?_, ?_, ?_, ?_, ?_, ?_, ?_, ?_, trivial⟩
          · rintro L _ Wx ⟨rfl, hT⟩ hcl hk hd
            rw [if_pos (by simp [Region.wanted])]
            refine op_value (v := .pointer (some ⟨Bv, 0, none⟩)) (w' := Wx) (by simp [execOp, go_sem, frame_tout (n6) u6]) ⟨frame_put (k29) (q29), ?_⟩
            simpa [upd] using hT
          · rintro L _ Wx ⟨rfl, hT⟩ hcl hk hd
            have hL0 : L 0 = true := by have h := hd; simp [Region.binds] at h; simp [h]
            rw [if_pos (by simp [Region.wanted])]
            refine op_value (v := .pointer (some ⟨Bv, 0, none⟩)) (w' := Wx) (by simp [execOp, go_sem, frame_tmp (k29) hL0 (Nat.lt_of_lt_of_eq (by decide : 29 < 38) hsz.symm)]) ⟨frame_put (k30) (q30), ?_⟩
            simpa [upd] using hT
          · rintro L _ Wx ⟨rfl, hT⟩ hcl hk hd
            have hL1 : L 1 = true := by have h := hd; simp [Region.binds] at h; simp [h]
            rw [if_pos (by simp [Region.wanted])]
            refine op_value (v := .pointer (some ⟨Bv, 2, none⟩)) (w' := Wx) (by simp [execOp, go_sem, frame_tmp (k30) hL1 (Nat.lt_of_lt_of_eq (by decide : 30 < 38) hsz.symm)]) ⟨frame_put (k31) (q31), ?_⟩
            simpa [upd] using hT
          · rintro L _ Wx ⟨rfl, hT⟩ hcl hk hd
            have hL2 : L 2 = true := by have h := hd; simp [Region.binds] at h; simp [h]
            have hN : L 7 = false := by
              cases hh : L 7 with
              | false => rfl
              | true =>
                have h3 := hcl 7 _ rfl (by simp [hh])
                simp [Region.binds] at h3
                simp [hk] at h3
            rw [if_pos (by simp [Region.wanted])]
            refine op_value (v := .map (some Mp)) (w' := Wx) (by simp [execOp, go_sem, frame_tmp (k31) hL2 (Nat.lt_of_lt_of_eq (by decide : 31 < 38) hsz.symm), hT.1 hN, hv2]) ⟨frame_put (k32) (q32), ?_⟩
            simpa [upd] using hT
          · rintro L _ Wx ⟨rfl, hT⟩ hcl hk hd
            have hN : L 7 = false := by
              cases hh : L 7 with
              | false => rfl
              | true =>
                have h4 := hcl 7 _ rfl (by simp [hh])
                simp [Region.binds] at h4
                simp [hk] at h4
            rw [if_pos (by simp [Region.wanted])]
            refine op_value (v := .agg #[.int .i64 nm.s, .int .i64 nm.i, .int .i64 nm.t]) (w' := Wx) (by simp [execOp, go_sem, frame_tout (n8) u8, hT.1 hN, m0, m1, m2]) ⟨frame_put (k33) (q33), ?_⟩
            simpa [upd] using hT
          · rintro L _ Wx ⟨rfl, hT⟩ hcl hk hd
            rw [if_pos (by simp [Region.wanted])]
            refine op_value (v := .int .i64 (q : Int)) (w' := Wx) (by simp [execOp, go_sem, frame_tout (n7) u7]) ⟨frame_put (k34) (q34), ?_⟩
            simpa [upd] using hT
          · rintro L _ Wx ⟨rfl, hT⟩ hcl hk hd
            have hL5 : L 5 = true := by have h := hd; simp [Region.binds] at h; simp [h]
            rw [if_pos (by simp [Region.wanted])]
            refine op_value (v := .int .i64 ((q : Int) + 1)) (w' := Wx) (by simp [execOp, go_sem, frame_tmp (k34) hL5 (Nat.lt_of_lt_of_eq (by decide : 34 < 38) hsz.symm), hwq]) ⟨frame_put (k35) (q35), ?_⟩
            simpa [upd] using hT
          · rintro L _ Wx ⟨rfl, hT⟩ hcl hk hd
            have hL3 : L 3 = true := by have h := hd; simp [Region.binds] at h; simp [h]
            have hL4 : L 4 = true := by have h := hd; simp [Region.binds] at h; simp [h]
            have hL6 : L 6 = true := by have h := hd; simp [Region.binds] at h; simp [h]
            rw [if_pos (by simp [Region.wanted])]
            obtain rfl : Wx = w0 := hT.1 hk
            refine op_mapPut 117 (.tmp 32) (.tmp 33) (.tmp 35) rfl Try.underlying117 nmKey hmm (by rw [frame_in k32 hL3 (Nat.lt_of_lt_of_eq (by decide : 32 < 38) hsz.symm)]) nm (by rw [frame_in k33 hL4 (Nat.lt_of_lt_of_eq (by decide : 33 < 38) hsz.symm)]; rfl) ((q : Int) + 1) (by rw [frame_in k35 hL6 (Nat.lt_of_lt_of_eq (by decide : 35 < 38) hsz.symm)]; rfl) ?_
            intro w' hg hm'
            refine ⟨frame_putNone (z7), ?_⟩
            exact ⟨fun h => by simp [upd] at h, fun _ => ⟨hg, hm'⟩⟩
        · rintro L W' hT hall
          have hA7 : L 7 = true := hall 7 (by simp)
          simp only [putAll, Act.put, List.setIfInBounds_toArray, List.set_cons_succ, List.set_cons_zero]
          obtain ⟨hg, hm2⟩ := hT.2 hA7
          have HG := Lib.hid hg
          have HM2 := Lib.hid hm2
          clear hT hall hg hm2
          go_wp2_with fail
          go_roundw
          case rel => exact ⟨q + 1, put mm nm ((q : Int) + 1), by have := HLT.out; omega, by go_num, cells_turn HBV0.out HG.out (by omega), HM2.out, HB0.out.grown HG.out HB0.out.size (fun k e => by cases e; exact hMp), HPL.out⟩
          case measure => have := HLT.out; simp [intOf]; omega
        -- END LK
      · have hmf : mm = plF [] ns 0 := by
          rw [drop_end hlt] at hpl
          exact hpl
        have HBVF := Lib.hid hbv
        have HMF : Hid (MapIs nmV intV wr Mp (plF [] ns 0)) := hmf ▸ hmm0
        have HBF := Lib.hid hB
        clear hmf hbv hmm0 hB hpl
        go_wp2_with fail
        go_ret2
        rw [HNS.out]
        refine ⟨.inr ⟨HM.out, Bv, rfl, na, nc, Mp, Nat.le_trans HSZ.out hBv, Nat.le_trans HSZ.out hMp, HBVF.out, HMF.out, NN.out, fun b off s e => ⟨HBB.out b off s e, fun hp => ?_⟩⟩, B1.out.trans (HBF.out.mono HSZ.out)⟩
        obtain ⟨h1, h2, h3⟩ := NH.out b off s e hp
        exact ⟨h1, Nat.lt_of_lt_of_le h2 HBF.out.size, h3.below h2 HBF.out⟩

end Go.Proofs.Ytgdmgeihgkbjaaa
