/- Regions that draw their order: the rule with the frame said by what is written; for plain walks too. -/
import Derived.Test.YtgdmgeihgkbjaaaDraw
import Derived.Orders
namespace Go.Proofs.Ytgdmgeihgkbjaaa
open Go.RowKit Go.Shelf

/-- What slot d is written with, and by which operation. -/
def slotOf : List (Nat × Nat × Value) → Nat → Option (Nat × Value)
  | [], _ => none
  | (k, d, v) :: r, i => if d = i then some (k, v) else slotOf r i

/-- The frame a, in which operation k has written v into slot d, if it has been carried out. -/
def frameOf (L : Nat → Bool) (a : Act) (ps : List (Nat × Nat × Value)) : Act :=
  ⟨a.tmps.mapIdx fun i u => match slotOf ps i with | some (k, v) => bif L k then v else u | none => u, a.defers⟩

/-- All has been written. -/
def putAll (a : Act) : List (Nat × Nat × Value) → Act
  | [] => a
  | (_, d, v) :: r => (putAll a r).put (some d) v

theorem act_ext {a b : Act} (h : ∀ i : Nat, a.tmps[i]? = b.tmps[i]?) (hd : a.defers = b.defers) : a = b := by
  obtain ⟨t, d⟩ := a
  obtain ⟨t', d'⟩ := b
  cases hd
  congr 1
  exact Array.ext_getElem? h

theorem frame_get (L : Nat → Bool) (a : Act) (ps : List (Nat × Nat × Value)) (i : Nat) : (frameOf L a ps).tmps[i]? = (a.tmps[i]?).map fun u => match slotOf ps i with | some (k, v) => bif L k then v else u | none => u := by
  simp only [frameOf, Array.getElem?_mapIdx]

theorem frameOf_none (ps : List (Nat × Nat × Value)) (a : Act) : frameOf (fun _ => false) a ps = a := by
  refine act_ext (fun i => ?_) rfl
  rw [frame_get]
  cases a.tmps[i]? with
  | none => rfl
  | some u => simp only [Option.map_some]; cases slotOf ps i <;> rfl

/-- Operation k writes slot d, and no other. -/
def keysOK (ps : List (Nat × Nat × Value)) (k d : Nat) : Bool := ps.all fun p => (p.1 == k) == (p.2.1 == d)

theorem slotOf_mem : ∀ (ps : List (Nat × Nat × Value)) (i k : Nat) (v : Value), slotOf ps i = some (k, v) → (k, i, v) ∈ ps
  | [], _, _, _, h => by cases h
  | (k', d', v') :: r, i, k, v, h => by
    simp only [slotOf] at h
    split at h
    · cases h; rename_i e; subst e; simp
    · exact List.mem_cons_of_mem _ (slotOf_mem r i k v h)

theorem keys_iff {ps : List (Nat × Nat × Value)} {k d : Nat} (h : keysOK ps k d = true) {i k' : Nat} {v' : Value} (hs : slotOf ps i = some (k', v')) : (k' = k ↔ i = d) := by
  have := List.all_eq_true.1 h _ (slotOf_mem ps i k' v' hs)
  simp only [beq_iff_eq] at this
  constructor
  · intro e; subst e; simpa using this.symm
  · intro e; subst e; simpa using this

theorem frame_put {L : Nat → Bool} {a : Act} {ps : List (Nat × Nat × Value)} {k d : Nat} {v : Value} (h1 : slotOf ps d = some (k, v)) (h2 : keysOK ps k d = true) : (frameOf L a ps).put (some d) v = frameOf (upd L k) a ps := by
  refine act_ext (fun i => ?_) rfl
  simp only [Act.put, Array.getElem?_setIfInBounds, frame_get]
  by_cases hi : d = i
  · subst hi
    have hsz : (frameOf L a ps).tmps.size = a.tmps.size := by simp [frameOf]
    rw [if_pos rfl, hsz, h1]
    by_cases hd : d < a.tmps.size
    · simp [hd, upd]
    · simp [hd]
  · rw [if_neg hi]
    cases a.tmps[i]? with
    | none => rfl
    | some u =>
      simp only [Option.map_some]
      cases hs : slotOf ps i with
      | none => rfl
      | some kv =>
        obtain ⟨k', v'⟩ := kv
        have hk : ¬ k' = k := fun e => hi ((keys_iff h2 hs).1 e).symm
        have : upd L k k' = L k' := by simp [upd, hk]
        simp only [this]

theorem frame_skip {L : Nat → Bool} {a : Act} {ps : List (Nat × Nat × Value)} {k : Nat} (h : (ps.all fun p => !(p.1 == k)) = true) : frameOf (upd L k) a ps = frameOf L a ps := by
  refine act_ext (fun i => ?_) rfl
  rw [frame_get, frame_get]
  cases a.tmps[i]? with
  | none => rfl
  | some u =>
    simp only [Option.map_some]
    cases hs : slotOf ps i with
    | none => rfl
    | some kv =>
      obtain ⟨k', v'⟩ := kv
      have hk : ¬ k' = k := by
        have := List.all_eq_true.1 h _ (slotOf_mem ps i k' v' hs)
        simpa using this
      have : upd L k k' = L k' := by simp [upd, hk]
      simp only [this]

theorem frame_putNone {L : Nat → Bool} {a : Act} {ps : List (Nat × Nat × Value)} {k : Nat} {v : Value} (h : (ps.all fun p => !(p.1 == k)) = true) : (frameOf L a ps).put none v = frameOf (upd L k) a ps := (frame_skip h).symm

/-- A slot that is not written in the region, put out of it (an operation that is passed over): it held nothing. -/
theorem frame_putUndef {L : Nat → Bool} {a : Act} {ps : List (Nat × Nat × Value)} {k d : Nat} (h : (ps.all fun p => !(p.1 == k)) = true) (h1 : slotOf ps d = none) (h2 : a.tmps.getD d undef = undef) : (frameOf L a ps).put (some d) undef = frameOf (upd L k) a ps := by
  rw [frame_skip h]
  refine act_ext (fun i => ?_) rfl
  simp only [Act.put, Array.getElem?_setIfInBounds]
  by_cases hi : d = i
  · subst hi
    have hsz : (frameOf L a ps).tmps.size = a.tmps.size := by simp [frameOf]
    rw [if_pos rfl, hsz, frame_get, h1]
    by_cases hd : d < a.tmps.size
    · simp [hd] at h2 ⊢
      exact h2.symm
    · simp [hd]
  · rw [if_neg hi]

theorem frame_tmp {L : Nat → Bool} {a : Act} {ps : List (Nat × Nat × Value)} {k d : Nat} {v : Value} (h1 : slotOf ps d = some (k, v)) (hL : L k = true) (hd : d < a.tmps.size) : (frameOf L a ps).tmps[d]? = some v := by
  rw [frame_get, h1, Array.getElem?_eq_getElem hd]
  simp [hL]

theorem frame_in {L : Nat → Bool} {a : Act} {ps : List (Nat × Nat × Value)} {k d : Nat} {v : Value} (h1 : slotOf ps d = some (k, v)) (hL : L k = true) (hd : d < a.tmps.size) : (frameOf L a ps).eval (.tmp d) = v := by
  simp only [Act.eval, Array.getD_eq_getD_getElem?, frame_tmp h1 hL hd, Option.getD_some]

theorem frame_out {L : Nat → Bool} {a : Act} {ps : List (Nat × Nat × Value)} {d : Nat} (h1 : slotOf ps d = none) : (frameOf L a ps).eval (.tmp d) = a.eval (.tmp d) := by
  simp only [Act.eval, Array.getD_eq_getD_getElem?, frame_get, h1]
  cases a.tmps[d]? <;> rfl

theorem frame_tout {L : Nat → Bool} {a : Act} {ps : List (Nat × Nat × Value)} {d : Nat} {v : Value} (h1 : slotOf ps d = none) (h2 : a.tmps[d]? = some v) : (frameOf L a ps).tmps[d]? = some v := by
  rw [frame_get, h1, h2]; rfl

theorem frame_oute {L : Nat → Bool} {a : Act} {ps : List (Nat × Nat × Value)} {d : Nat} {v : Value} (h1 : slotOf ps d = none) (h2 : a.tmps[d]? = some v) : (frameOf L a ps).eval (.tmp d) = v := by
  simp only [Act.eval, Array.getD_eq_getD_getElem?, frame_tout h1 h2, Option.getD_some]

theorem frame_const {L : Nat → Bool} {a : Act} {ps : List (Nat × Nat × Value)} (v : Value) : (frameOf L a ps).eval (.const v) = v := rfl
theorem frame_func {L : Nat → Bool} {a : Act} {ps : List (Nat × Nat × Value)} (f : FuncId) : (frameOf L a ps).eval (.func f) = .func (.func f) #[] #[] := rfl

/-- No slot is written twice. -/
def onceOnly : List (Nat × Nat × Value) → Bool
  | [] => true
  | p :: r => (r.all fun q => !(q.2.1 == p.2.1)) && onceOnly r

theorem frame_all {L : Nat → Bool} {a : Act} : ∀ {ps : List (Nat × Nat × Value)}, (∀ p ∈ ps, L p.1 = true) → onceOnly ps = true → frameOf L a ps = putAll a ps := by
  intro ps
  induction ps with
  | nil =>
    intro _ _
    refine act_ext (fun i => ?_) rfl
    rw [frame_get, putAll]
    cases a.tmps[i]? <;> rfl
  | cons p r ih =>
    intro hall hn
    obtain ⟨k, d, v⟩ := p
    simp only [onceOnly, Bool.and_eq_true] at hn
    rw [putAll, ← ih (fun p hp => hall p (List.mem_cons_of_mem _ hp)) hn.2]
    refine act_ext (fun i => ?_) rfl
    simp only [Act.put, Array.getElem?_setIfInBounds, frame_get, slotOf]
    have hsz : (frameOf L a r).tmps.size = a.tmps.size := by simp [frameOf]
    by_cases hi : d = i
    · subst hi
      rw [if_pos rfl, if_pos rfl, hsz]
      have := hall (k, d, v) (by simp)
      by_cases hd : d < a.tmps.size
      · simp [hd]; simp [this]
      · simp [hd]
    · rw [if_neg hi, if_neg hi]

/-- **The rule, inside a fence.** -/
theorem wpIn_region_frame {F : Fence} {n : Nat} {P : Program} {id : Nat} {l : List Oper} {Q : Exit → Act → World → Prop} {a : Act} {w : World} (hm : P.follows .mixedOrders = true) (hF : ∀ f, F.fn f) (hb : backward l = true)
    (ps : List (Nat × Nat × Value)) (T : (Nat → Bool) → World → Prop) (h0 : T (fun _ => false) w.drew) (hs : ∀ a0 ps0, a0 = a → ps0 = ps → StepsC F n P l.toArray Q (fun L aa Wx => aa = frameOf L a0 ps0 ∧ T L Wx) 0 l)
    (hk : (ps.all fun p => decide (p.1 < l.length)) = true) (ho : onceOnly ps = true) (he : ∀ L w, T L w → (∀ i, i < l.length → L i = true) → Q .normal (putAll a ps) w) :
    (Code.region id l.toArray true).wpIn F n P Q a w :=
  wpIn_region_closed hm hF hb (fun L aa Wx => aa = frameOf L a ps ∧ T L Wx) ⟨(frameOf_none ps a).symm, h0⟩ (hs a ps rfl rfl) (fun L aa Wx h hall => by
    obtain ⟨rfl, hT⟩ := h
    rw [frame_all (fun p hp => hall p.1 (by simpa using List.all_eq_true.1 hk p hp)) ho]
    exact he L Wx hT hall)

/-- The rule where a call's results are not known beforehand. -/
theorem wpIn_region_frameE {E : Type} {F : Fence} {n : Nat} {P : Program} {id : Nat} {l : List Oper} {Q : Exit → Act → World → Prop} {a : Act} {w : World} (hm : P.follows .mixedOrders = true) (hF : ∀ f, F.fn f) (hb : backward l = true)
    (ps : E → List (Nat × Nat × Value)) (T : E → (Nat → Bool) → World → Prop) (e0 : E) (h0 : T e0 (fun _ => false) w.drew) (hs : ∀ a0 ps0, a0 = a → ps0 = ps → StepsC F n P l.toArray Q (fun L aa Wx => ∃ e, aa = frameOf L a0 (ps0 e) ∧ T e L Wx) 0 l)
    (hk : ∀ e, ((ps e).all fun p => decide (p.1 < l.length)) = true) (ho : ∀ e, onceOnly (ps e) = true) (he : ∀ e L w, T e L w → (∀ i, i < l.length → L i = true) → Q .normal (putAll a (ps e)) w) :
    (Code.region id l.toArray true).wpIn F n P Q a w :=
  wpIn_region_closed hm hF hb (fun L aa Wx => ∃ e, aa = frameOf L a (ps e) ∧ T e L Wx) ⟨e0, (frameOf_none (ps e0) a).symm, h0⟩ (hs a ps rfl rfl) (fun L aa Wx h hall => by
    obtain ⟨e, rfl, hT⟩ := h
    rw [frame_all (fun p hp => hall p.1 (by simpa using List.all_eq_true.1 (hk e) p hp)) (ho e)]
    exact he e L Wx hT hall)

/-! ### The same for a plain walk -/

def StepCP (P : Program) (ops : Array Oper) (Q : Exit → Act → World → Prop) (S : (Nat → Bool) → Act → World → Prop) (k : Nat) (o : Oper) : Prop :=
  ∀ L a w, S L a w → Closed ops L → L k = false → (o.after.toList.all fun e => !Region.binds .any e || L e.on) = true →
    if Region.wanted o (yielded ops a.tmps) then o.wp P a w (S (upd L k)) Q else S (upd L k) (a.put o.dst undef) w

def StepsCP (P : Program) (ops : Array Oper) (Q : Exit → Act → World → Prop) (S : (Nat → Bool) → Act → World → Prop) : Nat → List Oper → Prop
  | _, [] => True
  | k, o :: r => StepCP P ops Q S k o ∧ StepsCP P ops Q S (k + 1) r

theorem StepsCP.get {P : Program} {ops : Array Oper} {Q : Exit → Act → World → Prop} {S : (Nat → Bool) → Act → World → Prop} :
    ∀ (l : List Oper) (k : Nat), StepsCP P ops Q S k l → ∀ i o, l[i]? = some o → StepCP P ops Q S (k + i) o
  | [], _, _, i, o, h => by simp at h
  | x :: l, k, hs, 0, o, h => by simp at h; subst h; exact hs.1
  | x :: l, k, hs, i + 1, o, h => by
    have := StepsCP.get l (k + 1) hs.2 i o (by simpa using h)
    rwa [Nat.add_assoc, Nat.add_comm 1 i] at this

theorem wpAny_inv {P : Program} {ops : Array Oper} {Q : Exit → Act → World → Prop} (hb : backward ops.toList = true) (S : (Nat → Bool) → Act → World → Prop) (hs : StepsCP P ops Q S 0 ops.toList)
    (he : ∀ L a w, S L a w → (∀ i, i < ops.size → L i = true) → Q .normal a w) :
    ∀ (fuel : Nat) (listed : Array Bool) (a : Act) (w : World), listed.size = ops.size → listed.toList.count false ≤ fuel → S (fun i => listed.getD i false) a w → Closed ops (fun i => listed.getD i false) → wpAny P .any ops Q fuel listed a w := by
  intro fuel
  induction fuel with
  | zero =>
    intro listed a w hsz hc hS _
    have hall : ∀ i, i < ops.size → listed.getD i false = true := by
      intro i hi
      have hc0 : listed.toList.count false = 0 := by omega
      have hnm := List.count_eq_zero.1 hc0
      have hlt : i < listed.size := by omega
      simp only [Array.getD_eq_getD_getElem?, Array.getElem?_eq_getElem hlt, Option.getD_some]
      cases hv : listed[i] with
      | true => rfl
      | false => exact absurd (by rw [Array.mem_toList_iff]; exact hv ▸ Array.getElem_mem hlt) hnm
    refine ⟨?_, he _ _ _ hS hall⟩
    unfold Region.ready
    rw [List.filter_eq_nil_iff]
    intro i hi
    have hi' : i < ops.size := by simpa using hi
    have := hall i hi'
    have hlt : i < listed.size := by omega
    simp [hlt] at this ⊢
    intro h
    rw [this] at h
    cases h
  | succ fuel ih =>
    intro listed a w hsz hc hS hcl
    refine ⟨fun hr => he _ _ _ hS (ready_nil hb hr hsz), fun i hi => ?_⟩
    unfold Region.ready at hi
    simp only [List.mem_filter, List.mem_range, Bool.and_eq_true] at hi
    obtain ⟨hlt, hnl, hdeps⟩ := hi
    have ho : ops[i]? = some ops[i] := Array.getElem?_eq_getElem hlt
    rw [ho] at hdeps
    simp only [Option.map_some, Option.getD_some] at hdeps
    have hll : i < listed.size := by omega
    have hfalse : listed[i] = false := by simpa [hll] using hnl
    have hstep := StepsCP.get ops.toList 0 hs i ops[i] (by simp)
    rw [Nat.zero_add] at hstep
    have hd : (ops[i].after.toList.all fun e => !Region.binds .any e || (fun j => listed.getD j false) e.on) = true := by rw [Array.all_toList]; exact hdeps
    have h := hstep (fun j => listed.getD j false) a w hS hcl (by simp [hll, hfalse]) hd
    have hcl' := hcl.upd ho hd
    have hnext : ∀ a' w', S (upd (fun j => listed.getD j false) i) a' w' → wpAny P .any ops Q fuel (listed.setIfInBounds i true) a' w' := by
      intro a' w' hS'
      have e : (fun j => (listed.setIfInBounds i true).getD j false) = upd (fun j => listed.getD j false) i := by
        funext j
        unfold upd
        by_cases hj : j = i
        · subst hj; simp [hll]
        · simp [hj, Ne.symm hj]
      refine ih _ a' w' (by simpa using hsz) ?_ (by rw [e]; exact hS') (by rw [e]; exact hcl')
      have hcs : (listed.setIfInBounds i true).toList.count false + 1 = listed.toList.count false := by
        rw [Array.toList_setIfInBounds]
        have hmem : listed.toList[i]'(by simpa using hll) = false := by simpa using hfalse
        rw [List.count_set (by simpa using hll)]
        have hpos : 0 < listed.toList.count false := List.count_pos_iff.2 (by rw [← hmem]; exact List.getElem_mem _)
        simp only [hmem, beq_self_eq_true, if_true]
        rw [if_neg (by decide)]
        omega
      omega
    unfold wpOp
    simp only [ho]
    split
    · rename_i hw
      rw [if_pos hw] at h
      exact .inl (Oper.wp_mono hnext h)
    · rename_i hw
      rw [if_neg hw] at h
      exact hnext _ _ h

theorem wp_region_inv {P : Program} {id : Nat} {l : List Oper} {Q : Exit → Act → World → Prop} {a : Act} {w : World} (hm : P.follows .mixedOrders = true) (hb : backward l = true)
    (S : (Nat → Bool) → Act → World → Prop) (h0 : S (fun _ => false) a w.drew) (hs : StepsCP P l.toArray Q S 0 l) (he : ∀ L a w, S L a w → (∀ i, i < l.length → L i = true) → Q .normal a w) :
    (Code.region id l.toArray true).wp P Q a w := by
  have e : (fun i => (Array.replicate l.toArray.size false).getD i false) = (fun _ => false) := by
    funext i
    simp only [Array.getD_eq_getD_getElem?, Array.getElem?_replicate]
    split <;> rfl
  refine wp_region_any hm (wpAny_inv (by simpa using hb) S (by simpa using hs) (fun L aa Wx h hall => he L aa Wx h (by simpa using hall)) _ _ _ _ (by simp) (by simp) ?_ ?_)
  · rw [e]; exact h0
  · rw [e]; intro _ _ _ h; cases h

theorem wp_region_frame {P : Program} {id : Nat} {l : List Oper} {Q : Exit → Act → World → Prop} {a : Act} {w : World} (hm : P.follows .mixedOrders = true) (hb : backward l = true)
    (ps : List (Nat × Nat × Value)) (T : (Nat → Bool) → World → Prop) (h0 : T (fun _ => false) w.drew) (hs : ∀ a0 ps0, a0 = a → ps0 = ps → StepsCP P l.toArray Q (fun L aa Wx => aa = frameOf L a0 ps0 ∧ T L Wx) 0 l)
    (hk : (ps.all fun p => decide (p.1 < l.length)) = true) (ho : onceOnly ps = true) (he : ∀ L w, T L w → (∀ i, i < l.length → L i = true) → Q .normal (putAll a ps) w) :
    (Code.region id l.toArray true).wp P Q a w :=
  wp_region_inv hm hb (fun L aa Wx => aa = frameOf L a ps ∧ T L Wx) ⟨(frameOf_none ps a).symm, h0⟩ (hs a ps rfl rfl) (fun L aa Wx h hall => by
    obtain ⟨rfl, hT⟩ := h
    rw [frame_all (fun p hp => hall p.1 (by simpa using List.all_eq_true.1 hk p hp)) ho]
    exact he L Wx hT hall)

theorem wp_region_frameE {E : Type} {P : Program} {id : Nat} {l : List Oper} {Q : Exit → Act → World → Prop} {a : Act} {w : World} (hm : P.follows .mixedOrders = true) (hb : backward l = true)
    (ps : E → List (Nat × Nat × Value)) (T : E → (Nat → Bool) → World → Prop) (e0 : E) (h0 : T e0 (fun _ => false) w.drew) (hs : ∀ a0 ps0, a0 = a → ps0 = ps → StepsCP P l.toArray Q (fun L aa Wx => ∃ e, aa = frameOf L a0 (ps0 e) ∧ T e L Wx) 0 l)
    (hk : ∀ e, ((ps e).all fun p => decide (p.1 < l.length)) = true) (ho : ∀ e, onceOnly (ps e) = true) (he : ∀ e L w, T e L w → (∀ i, i < l.length → L i = true) → Q .normal (putAll a (ps e)) w) :
    (Code.region id l.toArray true).wp P Q a w :=
  wp_region_inv hm hb (fun L aa Wx => ∃ e, aa = frameOf L a (ps e) ∧ T e L Wx) ⟨e0, (frameOf_none (ps e0) a).symm, h0⟩ (hs a ps rfl rfl) (fun L aa Wx h hall => by
    obtain ⟨e, rfl, hT⟩ := h
    rw [frame_all (fun p hp => hall p.1 (by simpa using List.all_eq_true.1 (hk e) p hp)) (ho e)]
    exact he e L Wx hT hall)

theorem op_value {o : Oper} {a : Act} {w : World} {K : Act → World → Prop} {Q : Exit → Act → World → Prop} {v : Value} {w' : World} (hr : (execOp a.eval o).run Try.prog w = .ok (.value v) w') (h : K (a.put o.dst v) w') : o.wp Try.prog a w K Q := by
  unfold Oper.wp
  rw [hr]
  exact h

theorem op_skip {o : Oper} {a : Act} {w : World} {K : Act → World → Prop} {Q : Exit → Act → World → Prop} {w' : World} (hr : (execOp a.eval o).run Try.prog w = .ok .skip w') (h : K (a.put o.dst undef) w') : o.wp Try.prog a w K Q := by
  unfold Oper.wp
  rw [hr]
  exact h

theorem op_callP {o : Oper} {a : Act} {w : World} {K : Act → World → Prop} {Q : Exit → Act → World → Prop} {f : FuncId} {args : Array Value} (hr : (execOp a.eval o).run Try.prog w = .ok (.enter f args) w)
    {R : Ending → World → Prop} (hc : Calls Try.prog f args w R) (hR : ∀ e w', R e w' → ∃ r, e = .returned r ∧ K (a.put o.dst r) w') : o.wp Try.prog a w K Q := by
  unfold Oper.wp
  rw [hr]
  refine hc.mono ?_
  intro e w' h
  obtain ⟨r, rfl, hk⟩ := hR e w' h
  exact hk

end Go.Proofs.Ytgdmgeihgkbjaaa
