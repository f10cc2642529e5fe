/- Maps at the operation; 'model.rising'. -/
import Derived.Test.YtgdmgeihgkbjaaaMap
import Derived.Maps.AppendAt
namespace Go.Proofs.Ytgdmgeihgkbjaaa
open Go.RowKit Go.Shelf

section
variable {κ β : Type} [DecidableEq κ] {kenc : κ → Value} {venc : β → Value}

theorem wpList_look {T K E : TypeId} (hT : Try.prog.underlying T = some (.map K E)) (hk : KeyOK K kenc) {zero : Value} (hz : ∀ w, (zeroValue E).run Try.prog w = .ok zero w) {w : World} {b : Nat} {m : List (κ × β)} (hm : MapIs kenc venc w b m)
    {ops : Array Oper} {rest : List Oper} {o : Oper} {a : Act} {Q : Exit → Act → World → Prop} (hg : o.guard = none) (x y : Operand) (ho : o.op = .lookup T x y false) (hx : a.eval x = .map (some b)) (k : κ) (hy : a.eval y = kenc k)
    (h : wpList Try.prog ops Q rest (a.put o.dst (((look m k).map venc).getD zero)) w) : wpList Try.prog ops Q (o :: rest) a w := by
  refine wpList_plain hg fun K' hK' => ?_
  unfold Oper.wp
  simp only [execOp, ho, hx, hy, Sem.run_bind, run_look hT hk hz hm k, Result.andThen_ok, Sem.run_pure]
  exact hK' _ _ h

theorem wpList_put {T K E : TypeId} (hT : Try.prog.underlying T = some (.map K E)) (hk : KeyOK K kenc) {w : World} {b : Nat} {m : List (κ × β)} (hm : MapIs kenc venc w b m)
    {ops : Array Oper} {rest : List Oper} {o : Oper} {a : Act} {Q : Exit → Act → World → Prop} (hg : o.guard = none) (x y z : Operand) (ho : o.op = .mapUpdate T x y z) (hx : a.eval x = .map (some b)) (k : κ) (hy : a.eval y = kenc k) (v : β) (hz : a.eval z = venc v)
    (h : ∀ w', w.grownBy w' (some b) → MapIs kenc venc w' b (put m k v) → wpList Try.prog ops Q rest (a.put o.dst undef) w') : wpList Try.prog ops Q (o :: rest) a w := by
  refine wpList_plain hg fun K' hK' => ?_
  obtain ⟨es, clock, hr, hm'⟩ := run_put hT hk hm k v
  unfold Oper.wp
  simp only [execOp, ho, hx, hy, hz, Sem.run_bind, hr, Result.andThen_ok, Sem.run_pure]
  exact hK' _ _ (h _ ⟨rfl, rfl, rfl, by simp, fun j _ hj => World.putObj_heap_other (fun e => hj (by rw [e]))⟩ hm')

theorem wpListIn_put {F : Fence} {n : Nat} {T K E : TypeId} (hT : Try.prog.underlying T = some (.map K E)) (hk : KeyOK K kenc) {w : World} {b : Nat} {m : List (κ × β)} (hm : MapIs kenc venc w b m)
    {ops : Array Oper} {rest : List Oper} {o : Oper} {a : Act} {Q : Exit → Act → World → Prop} (hg : o.guard = none) (x y z : Operand) (ho : o.op = .mapUpdate T x y z) (hx : a.eval x = .map (some b)) (k : κ) (hy : a.eval y = kenc k) (v : β) (hz : a.eval z = venc v)
    (h : ∀ w', w.grownBy w' (some b) → MapIs kenc venc w' b (put m k v) → wpListIn F n Try.prog ops Q rest (a.put o.dst undef) w') : wpListIn F n Try.prog ops Q (o :: rest) a w := by
  refine wpListIn_plain hg fun K' hK' => ?_
  obtain ⟨es, clock, hr, hm'⟩ := run_put hT hk hm k v
  unfold Oper.wpIn
  refine ⟨by simp [Oper.about, ho], ?_⟩
  rw [Oper.semAt_plain F _ _ (by rw [ho]; intro c hc'; cases hc')]
  simp only [execOp, ho, hx, hy, hz, Sem.run_bind, hr, Result.andThen_ok, Sem.run_pure]
  exact hK' _ _ (h _ ⟨rfl, rfl, rfl, by simp, fun j _ hj => World.putObj_heap_other (fun e => hj (by rw [e]))⟩ hm')

theorem wpListIn_look {F : Fence} {n : Nat} {T K E : TypeId} (hT : Try.prog.underlying T = some (.map K E)) (hk : KeyOK K kenc) {zero : Value} (hz : ∀ w, (zeroValue E).run Try.prog w = .ok zero w) {w : World} {b : Nat} {m : List (κ × β)} (hm : MapIs kenc venc w b m)
    {ops : Array Oper} {rest : List Oper} {o : Oper} {a : Act} {Q : Exit → Act → World → Prop} (hg : o.guard = none) (x y : Operand) (ho : o.op = .lookup T x y false) (hx : a.eval x = .map (some b)) (k : κ) (hy : a.eval y = kenc k)
    (h : wpListIn F n Try.prog ops Q rest (a.put o.dst (((look m k).map venc).getD zero)) w) : wpListIn F n Try.prog ops Q (o :: rest) a w := by
  refine wpListIn_plain hg fun K' hK' => ?_
  unfold Oper.wpIn
  refine ⟨by simp [Oper.about, ho], ?_⟩
  rw [Oper.semAt_plain F _ _ (by rw [ho]; intro c hc'; cases hc')]
  simp only [execOp, ho, hx, hy, Sem.run_bind, run_look hT hk hz hm k, Result.andThen_ok, Sem.run_pure]
  exact hK' _ _ h

end

theorem grownBy_putObj (w : World) (b : Nat) (o : Obj) : w.grownBy (w.putObj b o) (some b) :=
  ⟨rfl, rfl, rfl, by simp, fun _ _ hj => World.putObj_heap_other (fun e => hj (by rw [e]))⟩

theorem grownBy_of_below {w W : World} (h : Below w.heap.size w W) {row : Option Nat} : w.grownBy W row :=
  ⟨h.os, h.tape, h.output, h.size, fun k hk _ => h.block k hk⟩

theorem zero4 (w : World) : (zeroValue 4).run Try.prog w = .ok (.bool false) w := by
  simp [go_sem]

def intsC (l : List Int) : List Value := l.map intV
/-- The first q numbers of which f holds. -/
def upTo (f : Int → Bool) (q : Nat) : List Int := ((List.range q).map (fun i : Nat => (i : Int))).filter f

theorem upTo_succ (f : Int → Bool) (q : Nat) : upTo f (q + 1) = if f q then upTo f q ++ [(q : Int)] else upTo f q := by
  unfold upTo
  rw [List.range_succ, List.map_append, List.filter_append]
  by_cases h : f q <;> simp [h]

theorem upTo_length (f : Int → Bool) (q : Nat) : (upTo f q).length ≤ q := by
  have := List.length_filter_le f ((List.range q).map (fun i : Nat => (i : Int)))
  simpa [upTo] using this

theorem info3z : (Try.prog.info? 3).map (fun i => (i.zero, i.size, i.bytes)) = some (some (.int .i64 0), 1, 8) := by kernel_rfl

def has (m : List (Int × Bool)) (k : Int) : Bool := (look m k).getD false

set_option maxRecDepth 100000 in
set_option maxHeartbeats 1000000 in
theorem rising_any (b : Nat) (m : List (Int × Bool)) (w : World) (hm : MapIs intV boolV w b m) :
    Calls Try.prog 67 #[.map (some b)] w fun e w' => ∃ v, e = .returned v ∧ w'.ownsRow w.heap.size 3 1 v (upTo (has m) 32).length (intsC (upTo (has m) 32)) ∧ w.grownBy w' (some b) := by
  obtain ⟨i0, hi, hz0, hz1, hz2⟩ := info_parts info3z
  go_enter Try.func67, Try.ntmps67
  go_wp2
  go_loopw [2, 4] (fun vo i wr => ∃ q : Nat, q ≤ 32 ∧ i = .int .i64 q ∧ wr.ownsRow w.heap.size 3 1 vo (upTo (has m) q).length (intsC (upTo (has m) q)) ∧ Below w.heap.size w wr) (fun _ i _ => 32 - (intOf i).toNat)
  case atStart => exact ⟨0, by omega, rfl, World.ownsRow_nil _ _ _ _, Below.refl _ _⟩
  case round =>
    obtain ⟨q, hq, rfl, hrow, hB⟩ := hrel
    have hmr : MapIs intV boolV wr b m := hm.kept (hB.block _ hm.lt)
    have HR := Lib.hid hrow
    have HB := Lib.hid hB
    have HM := Lib.hid hmr
    have hsz := hB.size
    have hlq := upTo_length (has m) q
    clear hrow hB hmr
    by_cases hlt : q < 32
    · by_cases hf : has m q = true
      · have hf' : (((look m (q : Int)).map boolV).getD (.bool false)) = .bool true := by
          unfold has at hf
          cases hl : look m (q : Int) with
          | none => rw [hl] at hf; cases hf
          | some v => rw [hl] at hf; simp at hf; simp [boolV, hf]
        have HU := Lib.hid (upTo_succ (has m) q)
        have HF := Lib.hid hf
        clear hf
        go_wp2_with (first | (refine wpList_look Try.underlying108 intKey zero4 HM.out rfl _ _ rfl rfl (q : Int) rfl ?_; rw [hf']) | (at_builtin; refine wpList_append_own_at _ rfl _ _ 30 rfl w.heap.size 3 i0 (.int .i64 0) 1 8 Try.underlying30 hi hz0 hz1 hz2 rfl (by decide) _ _ _ rfl (HR.out.alloc _) ⟨wr.heap.size, 0, none⟩ 1 1 [.int .i64 (q : Int)] rfl rfl (cell_one_new _ _ _) (by intro u hu; simp at hu; subst hu; rfl) (by unfold maxLen; omega) (by omega) (by simp; omega) ?_; intro v4 w4 hown4 hgrow4 hnil4 hloc4))
        go_roundw
        case rel =>
          refine ⟨q + 1, by omega, by go_num, ?_, ?_⟩
          · rw [HU.out, HF.out]
            simpa [intsC, intV] using hown4
          · refine (HB.out.alloc HB.out.size _).grown hgrow4 (by simp; omega) (fun k e => ?_)
            exact (HR.out.lt k e).1
        case measure => simp [intOf]; omega
      · have hf' : (((look m (q : Int)).map boolV).getD (.bool false)) = .bool false := by
          unfold has at hf
          cases hl : look m (q : Int) with
          | none => rfl
          | some v => rw [hl] at hf; simp at hf; simp [boolV, hf]
        have HU := Lib.hid (upTo_succ (has m) q)
        have HF := Lib.hid hf
        clear hf
        go_wp2_with (refine wpList_look Try.underlying108 intKey zero4 HM.out rfl _ _ rfl rfl (q : Int) rfl ?_; rw [hf'])
        go_roundw
        case rel => exact ⟨q + 1, by omega, by go_num, by rw [HU.out, if_neg HF.out]; exact HR.out, HB.out⟩
        case measure => simp [intOf]; omega
    · obtain rfl : q = 32 := by omega
      have hrow := HR.out
      have hB := HB.out
      obtain ⟨clock, hr, _⟩ := run_clear (kenc := intV) (venc := boolV) Try.underlying108 0 HM.out
      go_wp2_with fail
      go_ret
      have hg : wr.grownBy (wr.putObj b (.map #[] clock)) (some b) := grownBy_putObj _ _ _
      have hlt2 := hm.lt
      refine ⟨_, rfl, hrow.kept hg (.inr fun e => ?_), (grownBy_of_below hB).trans hg⟩
      have := (hrow.lt b e).1
      omega

end Go.Proofs.Ytgdmgeihgkbjaaa
