/- A region that draws its order: an invariant over what has been carried out serves every order. -/
import Derived.Test.YtgdmgeihgkbjaaaIter
import Derived.OrdersIn
namespace Go.Proofs.Ytgdmgeihgkbjaaa
open Go.RowKit Go.Shelf

/-- A Bool that hangs on what has been carried out (simp does not open it). -/
def selB (b x y : Bool) : Bool := bif b then x else y

def upd (L : Nat → Bool) (k : Nat) : Nat → Bool := fun j => (j == k) || L j

/-- Operation k (o) carries the invariant on. -/
def StepOK (F : Fence) (n : Nat) (P : Program) (ops : Array Oper) (Q : Exit → Act → World → Prop) (S : (Nat → Bool) → Act → World → Prop) (k : Nat) (o : Oper) : Prop :=
  ∀ L a w, S L a w → L k = false → (o.after.toList.all fun e => !Region.binds .any e || L e.on) = true →
    if Region.wanted o (yielded ops a.tmps) then o.wpIn F n P a w (S (upd L k)) Q else S (upd L k) (a.put o.dst undef) w

/-- What has been carried out, its edges have been too. -/
def Closed (ops : Array Oper) (L : Nat → Bool) : Prop := ∀ i o, ops[i]? = some o → L i = true → (o.after.toList.all fun e => !Region.binds .any e || L e.on) = true

theorem Closed.upd {ops : Array Oper} {L : Nat → Bool} {k : Nat} {o : Oper} (h : Closed ops L) (hk : ops[k]? = some o) (hd : (o.after.toList.all fun e => !Region.binds .any e || L e.on) = true) : Closed ops (upd L k) := by
  have lift : ∀ o' : Oper, (o'.after.toList.all fun e => !Region.binds .any e || L e.on) = true → (o'.after.toList.all fun e => !Region.binds .any e || Ytgdmgeihgkbjaaa.upd L k e.on) = true := by
    intro o' h'
    rw [List.all_eq_true] at h' ⊢
    intro e he
    have := h' e he
    unfold Ytgdmgeihgkbjaaa.upd
    cases hb : Region.binds .any e
    · simp
    · simp only [hb, Bool.not_true, Bool.false_or] at this ⊢
      rw [this, Bool.or_true]
  intro i o' ho hi
  refine lift o' ?_
  by_cases hik : i = k
  · subst hik
    rw [hk] at ho
    cases ho
    exact hd
  · have : L i = true := by simpa [Ytgdmgeihgkbjaaa.upd, hik] using hi
    exact h i o' ho this

def StepsOK (F : Fence) (n : Nat) (P : Program) (ops : Array Oper) (Q : Exit → Act → World → Prop) (S : (Nat → Bool) → Act → World → Prop) : Nat → List Oper → Prop
  | _, [] => True
  | k, o :: r => StepOK F n P ops Q S k o ∧ StepsOK F n P ops Q S (k + 1) r

theorem StepsOK.get {F : Fence} {n : Nat} {P : Program} {ops : Array Oper} {Q : Exit → Act → World → Prop} {S : (Nat → Bool) → Act → World → Prop} :
    ∀ (l : List Oper) (k : Nat), StepsOK F n P ops Q S k l → ∀ i o, l[i]? = some o → StepOK F n P ops Q S (k + i) o
  | [], _, _, i, o, h => by simp at h
  | x :: l, k, hs, 0, o, h => by simp at h; subst h; exact hs.1
  | x :: l, k, hs, i + 1, o, h => by
    have := StepsOK.get l (k + 1) hs.2 i o (by simpa using h)
    rwa [Nat.add_assoc, Nat.add_comm 1 i] at this

/-- Each edge leads back. -/
def backward (ops : List Oper) : Bool := (ops.zipIdx).all fun (o, i) => o.after.toList.all fun e => !Region.binds .any e || decide (e.on < i)

theorem ready_nil {ops : Array Oper} {listed : Array Bool} (hb : backward ops.toList = true) (hr : Region.ready .any ops listed = []) (hsz : listed.size = ops.size) : ∀ i, i < ops.size → listed.getD i false = true := by
  intro i
  induction i using Nat.strongRecOn with
  | _ i ih =>
    intro hi
    have hn : i ∉ Region.ready .any ops listed := by rw [hr]; simp
    unfold Region.ready at hn
    simp only [List.mem_filter, List.mem_range, not_and, Bool.not_eq_true] at hn
    have := hn hi
    have ho : ops[i]? = some ops[i] := Array.getElem?_eq_getElem hi
    rw [ho] at this
    simp only [Option.map_some, Option.getD_some] at this
    have hall : (ops[i].after.all fun e => !Region.binds .any e || listed.getD e.on false) = true := by
      rw [← Array.all_toList]
      unfold backward at hb
      rw [List.all_eq_true] at hb
      have hb' := hb (ops[i], i) (by rw [List.mem_zipIdx_iff_getElem?]; simp)
      simp only [List.all_eq_true] at hb' ⊢
      intro e he
      have := hb' e he
      rcases hbd : Region.binds .any e with _ | _
      · simp
      · simp only [hbd, Bool.not_true, Bool.false_or, decide_eq_true_eq] at this ⊢
        exact ih e.on this (by omega)
    rw [hall, Bool.and_true] at this
    have hlt : i < listed.size := by omega
    simp [hlt] at this ⊢
    exact this

theorem wpAnyIn_inv {F : Fence} {n : Nat} {P : Program} {ops : Array Oper} {Q : Exit → Act → World → Prop} (hF : ∀ f, F.fn f) (hb : backward ops.toList = true) (S : (Nat → Bool) → Act → World → Prop) (hs : StepsOK F n P ops Q S 0 ops.toList)
    (he : ∀ L a w, S L a w → (∀ i, i < ops.size → L i = true) → Q .normal a w) :
    ∀ (fuel : Nat) (listed : Array Bool) (a : Act) (w : World), listed.size = ops.size → listed.toList.count false ≤ fuel → S (fun i => listed.getD i false) a w → wpAnyIn F n P .any ops Q fuel listed a w := by
  intro fuel
  induction fuel with
  | zero =>
    intro listed a w hsz hc hS
    have hall : ∀ i, i < ops.size → listed.getD i false = true := by
      intro i hi
      have hc0 : listed.toList.count false = 0 := by omega
      have hnm := List.count_eq_zero.1 hc0
      have hlt : i < listed.size := by omega
      simp only [Array.getD_eq_getD_getElem?, Array.getElem?_eq_getElem hlt, Option.getD_some]
      cases hv : listed[i] with
      | true => rfl
      | false => exact absurd (by rw [Array.mem_toList_iff]; exact hv ▸ Array.getElem_mem hlt) hnm
    refine ⟨?_, he _ _ _ hS hall⟩
    unfold Region.ready
    rw [List.filter_eq_nil_iff]
    intro i hi
    have hi' : i < ops.size := by simpa using hi
    have := hall i hi'
    have hlt : i < listed.size := by omega
    simp [hlt] at this ⊢
    intro h
    rw [this] at h
    cases h
  | succ fuel ih =>
    intro listed a w hsz hc hS
    refine ⟨fun hr => he _ _ _ hS (ready_nil hb hr hsz), fun i hi => ?_⟩
    unfold Region.ready at hi
    simp only [List.mem_filter, List.mem_range, Bool.and_eq_true] at hi
    obtain ⟨hlt, hnl, hdeps⟩ := hi
    have ho : ops[i]? = some ops[i] := Array.getElem?_eq_getElem hlt
    rw [ho] at hdeps
    simp only [Option.map_some, Option.getD_some] at hdeps
    have hll : i < listed.size := by omega
    have hfalse : listed[i] = false := by simpa [hll] using hnl
    have hstep := StepsOK.get ops.toList 0 hs i ops[i] (by simp)
    rw [Nat.zero_add] at hstep
    have h := hstep (fun j => listed.getD j false) a w hS (by simp [hll, hfalse]) (by rw [Array.all_toList]; exact hdeps)
    have hnext : ∀ a' w', S (upd (fun j => listed.getD j false) i) a' w' → wpAnyIn F n P .any ops Q fuel (listed.setIfInBounds i true) a' w' := by
      intro a' w' hS'
      refine ih _ a' w' (by simpa using hsz) ?_ ?_
      · have hcs : (listed.setIfInBounds i true).toList.count false + 1 = listed.toList.count false := by
          rw [Array.toList_setIfInBounds]
          have hmem : listed.toList[i]'(by simpa using hll) = false := by simpa using hfalse
          rw [List.count_set (by simpa using hll)]
          have hpos : 0 < listed.toList.count false := List.count_pos_iff.2 (by rw [← hmem]; exact List.getElem_mem _)
          simp only [hmem, beq_self_eq_true, if_true]
          rw [if_neg (by decide)]
          omega
        omega
      · have e : (fun j => (listed.setIfInBounds i true).getD j false) = upd (fun j => listed.getD j false) i := by
          funext j
          unfold upd
          by_cases hj : j = i
          · subst hj; simp [hll]
          · simp [hj, Ne.symm hj]
        rw [e]
        exact hS'
    unfold wpOpIn
    simp only [ho]
    split
    · rename_i hw
      rw [if_pos hw] at h
      exact Oper.wpIn_mono hnext h
    · rename_i hw
      rw [if_neg hw] at h
      exact ⟨fun f _ => hF f, hnext _ _ h⟩

/-- **A region that draws its order, by an invariant over what has been carried out.** -/
theorem wpIn_region_inv {F : Fence} {n : Nat} {P : Program} {id : Nat} {l : List Oper} {Q : Exit → Act → World → Prop} {a : Act} {w : World} (hm : P.follows .mixedOrders = true) (hF : ∀ f, F.fn f) (hb : backward l = true)
    (S : (Nat → Bool) → Act → World → Prop) (h0 : S (fun _ => false) a w.drew) (hs : StepsOK F n P l.toArray Q S 0 l) (he : ∀ L a w, S L a w → (∀ i, i < l.length → L i = true) → Q .normal a w) :
    (Code.region id l.toArray true).wpIn F n P Q a w :=
  wpIn_region_any hm (wpAnyIn_inv hF (by simpa using hb) S (by simpa using hs) (by simpa using he) _ _ _ _ (by simp) (by simp) (by
    have e : (fun i => (Array.replicate l.toArray.size false).getD i false) = (fun _ => false) := by
      funext i
      simp only [Array.getD_eq_getD_getElem?, Array.getElem?_replicate]
      split <;> rfl
    rw [e]
    exact h0))

/-- Operation k (o) carries the invariant on, from a closed stage. -/
def StepC (F : Fence) (n : Nat) (P : Program) (ops : Array Oper) (Q : Exit → Act → World → Prop) (S : (Nat → Bool) → Act → World → Prop) (k : Nat) (o : Oper) : Prop :=
  ∀ L a w, S L a w → Closed ops L → L k = false → (o.after.toList.all fun e => !Region.binds .any e || L e.on) = true →
    if Region.wanted o (yielded ops a.tmps) then o.wpIn F n P a w (S (upd L k)) Q else S (upd L k) (a.put o.dst undef) w

def StepsC (F : Fence) (n : Nat) (P : Program) (ops : Array Oper) (Q : Exit → Act → World → Prop) (S : (Nat → Bool) → Act → World → Prop) : Nat → List Oper → Prop
  | _, [] => True
  | k, o :: r => StepC F n P ops Q S k o ∧ StepsC F n P ops Q S (k + 1) r

theorem StepsC.ok {F : Fence} {n : Nat} {P : Program} {ops : Array Oper} {Q : Exit → Act → World → Prop} {S : (Nat → Bool) → Act → World → Prop} :
    ∀ (l : List Oper) (k : Nat), (∀ i o, l[i]? = some o → ops[k + i]? = some o) → StepsC F n P ops Q S k l → StepsOK F n P ops Q (fun L a w => S L a w ∧ Closed ops L) k l
  | [], _, _, _ => trivial
  | o :: l, k, hl, h => by
    refine ⟨?_, StepsC.ok l (k + 1) (fun i o' hi => by have := hl (i + 1) o' (by simpa using hi); rwa [Nat.add_assoc, Nat.add_comm 1 i]) h.2⟩
    have hk : ops[k]? = some o := by simpa using hl 0 o (by simp)
    rintro L a w ⟨hS, hcl⟩ hkf hd
    have h1 := h.1 L a w hS hcl hkf hd
    split
    · rename_i hw
      rw [if_pos hw] at h1
      exact Oper.wpIn_mono (fun a w hs => ⟨hs, hcl.upd hk hd⟩) h1
    · rename_i hw
      rw [if_neg hw] at h1
      exact ⟨h1, hcl.upd hk hd⟩

/-- **The rule, with the stage known to be closed.** -/
theorem wpIn_region_closed {F : Fence} {n : Nat} {P : Program} {id : Nat} {l : List Oper} {Q : Exit → Act → World → Prop} {a : Act} {w : World} (hm : P.follows .mixedOrders = true) (hF : ∀ f, F.fn f) (hb : backward l = true)
    (S : (Nat → Bool) → Act → World → Prop) (h0 : S (fun _ => false) a w.drew) (hs : StepsC F n P l.toArray Q S 0 l) (he : ∀ L a w, S L a w → (∀ i, i < l.length → L i = true) → Q .normal a w) :
    (Code.region id l.toArray true).wpIn F n P Q a w :=
  wpIn_region_inv hm hF hb (fun L a w => S L a w ∧ Closed l.toArray L) ⟨h0, fun _ _ _ h => by cases h⟩ (StepsC.ok l 0 (by simp) hs) (fun L a w h => he L a w h.1)

theorem opIn_load {F : Fence} {n : Nat} {P : Program} {o : Oper} {a : Act} {w : World} {K : Act → World → Prop} {Q : Exit → Act → World → Prop} (ty : TypeId) (x : Operand) (ho : o.op = .load ty x)
    (ad : Addr) (hx : a.eval x = .pointer (some ad)) (v : Value) (hl : (loadVar ty ad).run P w = .ok v w) (h : K (a.put o.dst v) w) : o.wpIn F n P a w K Q := by
  unfold Oper.wpIn
  refine ⟨by simp [Oper.about, ho], ?_⟩
  rw [Oper.semAt_plain F _ _ (by rw [ho]; intro c hc'; cases hc')]
  simp only [execOp, ho, hx, Instr.loadAt, Instr.sureAddr, Sem.run_bind, Sem.run_pure, Result.andThen_ok, hl]
  exact h

theorem opIn_store {F : Fence} {n : Nat} {P : Program} {o : Oper} {a : Act} {w w' : World} {K : Act → World → Prop} {Q : Exit → Act → World → Prop} (ty : TypeId) (x y : Operand) (ho : o.op = .store ty x y)
    (ad : Addr) (hx : a.eval x = .pointer (some ad)) (v : Value) (hy : a.eval y = v) (hl : (storeVar ty ad v).run P w = .ok () w') (h : K (a.put o.dst undef) w') : o.wpIn F n P a w K Q := by
  unfold Oper.wpIn
  refine ⟨by simp [Oper.about, ho], ?_⟩
  rw [Oper.semAt_plain F _ _ (by rw [ho]; intro c hc'; cases hc')]
  simp only [execOp, ho, hx, hy, Instr.storeAt, Instr.sureAddr, Sem.run_bind, Sem.run_pure, Result.andThen_ok, hl]
  exact h

theorem opIn_value {F : Fence} {n : Nat} {P : Program} {o : Oper} {a : Act} {w : World} {K : Act → World → Prop} {Q : Exit → Act → World → Prop} (hc : ∀ c, o.op ≠ .call c) (hd : ∀ c, o.op ≠ .defer c) (hg : ∀ c, o.op ≠ .go c)
    {v : Value} {w' : World} (hr : (execOp a.eval o).run P w = .ok (.value v) w') (h : K (a.put o.dst v) w') : o.wpIn F n P a w K Q := by
  unfold Oper.wpIn
  refine ⟨?_, ?_⟩
  · intro f hf
    unfold Oper.about at hf
    cases ho : o.op <;> simp_all
  · rw [Oper.semAt_plain F _ _ (by intro c hc'; exact hd c hc'), hr]
    exact h

/-- A call of a Go function inside such a region. -/
theorem opIn_call {n : Nat} {o : Oper} {a : Act} {w : World} {K : Act → World → Prop} {Q : Exit → Act → World → Prop} (hd : ∀ c, o.op ≠ .defer c) {f : FuncId} {args : Array Value} (hr : (execOp a.eval o).run Try.prog w = .ok (.enter f args) w)
    {R : Ending → World → Prop} (hc : CallsIn Fence.wide n Try.prog f args w R) (hR : ∀ e w', R e w' → ∃ r, e = .returned r ∧ K (a.put o.dst r) w') : o.wpIn Fence.wide (n + 1) Try.prog a w K Q := by
  unfold Oper.wpIn
  refine ⟨fun _ _ => trivial, ?_⟩
  rw [Oper.semAt_plain _ _ _ (by intro c hc'; exact hd c hc'), hr, Oper.uponIn_enter]
  refine ⟨fun _ => by omega, hc.mono ?_⟩
  intro e w' h
  obtain ⟨r, rfl, hk⟩ := hR e w' h
  exact hk

theorem stepOK_plain {F : Fence} {n : Nat} {P : Program} {ops : Array Oper} {Q : Exit → Act → World → Prop} {S : (Nat → Bool) → Act → World → Prop} {k : Nat} {o : Oper} (hg : o.guard = none)
    (h : ∀ L a w, S L a w → L k = false → (o.after.toList.all fun e => !Region.binds .any e || L e.on) = true → o.wpIn F n P a w (S (upd L k)) Q) : StepOK F n P ops Q S k o := by
  intro L a w hS hk hd
  have : Region.wanted o (yielded ops a.tmps) = true := by simp [Region.wanted, hg]
  rw [if_pos this]
  exact h L a w hS hk hd

theorem mixed : Try.prog.follows .mixedOrders = true := by kernel_rfl

end Go.Proofs.Ytgdmgeihgkbjaaa
