/- Maps of the calls' own: what a block of a map holds, as a list of keys and values; looking up, writing, clearing. -/
import Derived.Test.YtgdmgeihgkbjaaaState
namespace Go.Proofs.Ytgdmgeihgkbjaaa
open Go.RowKit

/-- A kind of keys: how they are laid as values; that the model's own tests decide their equality. -/
structure KeyOK (K : TypeId) {κ : Type} [DecidableEq κ] (kenc : κ → Value) : Prop where
  chk : ∀ (e : Bool) (a : κ) (w : World), (Instr.checkKey e 10000 K (kenc a)).run Try.prog w = .ok () w
  find : ∀ (a : κ) (es : List MapEntry) (m : List κ) (w : World), es.map (·.key) = m.map kenc →
    (Instr.findKey K (kenc a) es).run Try.prog w = .ok ((m.findIdx? (· = a)).bind fun i => (es[i]?).map fun e => (i, e.val)) w
  same : ∀ (a : κ), Instr.sameBits 10000 (kenc a) (kenc a) = true

/-- Block b is a map that holds m, in the order in which its keys came. -/
def MapIs {κ β : Type} (kenc : κ → Value) (venc : β → Value) (w : World) (b : Nat) (m : List (κ × β)) : Prop :=
  ∃ es clock, w.heap[b]? = some (.map es clock) ∧ es.toList.map (fun e => (e.key, e.val)) = m.map (fun p => (kenc p.1, venc p.2)) ∧ (es.toList.map (·.born)).Nodup ∧ ∀ e ∈ es.toList, e.born < clock

/-- A key's value. -/
def look {κ β : Type} [DecidableEq κ] (m : List (κ × β)) (k : κ) : Option β := (m.find? (fun p => p.1 = k)).map (·.2)
/-- A key's value, set. -/
def put {κ β : Type} [DecidableEq κ] : List (κ × β) → κ → β → List (κ × β)
  | [], k, v => [(k, v)]
  | p :: m, k, v => if p.1 = k then (k, v) :: m else p :: put m k v

theorem look_put {κ β : Type} [DecidableEq κ] (m : List (κ × β)) (k k' : κ) (v : β) : look (put m k v) k' = if k = k' then some v else look m k' := by
  induction m with
  | nil =>
    unfold put look
    by_cases h : k = k' <;> simp [h]
  | cons p m ih =>
    unfold put
    by_cases hp : p.1 = k
    · rw [if_pos hp]
      unfold look
      by_cases h : k = k'
      · simp [h]
      · have : ¬ p.1 = k' := by rw [hp]; exact h
        simp [h, this]
    · rw [if_neg hp]
      unfold look at ih ⊢
      by_cases h : p.1 = k'
      · have : ¬ k = k' := fun e => hp (h.trans e.symm)
        simp [h, this]
      · simpa [h] using ih

theorem look_nil {κ β : Type} [DecidableEq κ] (k : κ) : look ([] : List (κ × β)) k = none := rfl

section
variable {κ β : Type} [DecidableEq κ] {kenc : κ → Value} {venc : β → Value}

theorem look_find (m : List (κ × β)) (k : κ) : look m k = ((m.map (·.1)).findIdx? (· = k)).bind fun i => (m[i]?).map (·.2) := by
  induction m with
  | nil => rfl
  | cons p m ih =>
    unfold look at ih ⊢
    by_cases h : p.1 = k
    · simp [List.findIdx?_cons, h]
    · simp only [List.map_cons, List.find?_cons, h, decide_false, List.findIdx?_cons, Bool.false_eq_true, if_false]
      rw [ih]
      cases (m.map (·.1)).findIdx? (· = k) <;> simp

omit [DecidableEq κ] in
theorem keys_of {es : List MapEntry} {m : List (κ × β)} (h : es.map (fun e => (e.key, e.val)) = m.map (fun p => (kenc p.1, venc p.2))) : es.map (·.key) = (m.map (·.1)).map kenc := by
  have := congrArg (List.map Prod.fst) h
  simpa [List.map_map, Function.comp_def] using this

omit [DecidableEq κ] in
theorem vals_of {es : List MapEntry} {m : List (κ × β)} (h : es.map (fun e => (e.key, e.val)) = m.map (fun p => (kenc p.1, venc p.2))) (i : Nat) : (es[i]?).map (·.val) = (m[i]?).map fun p => venc p.2 := by
  have := congrArg (fun l => l[i]?) h
  simp only [List.getElem?_map] at this
  cases h1 : es[i]? <;> cases h2 : m[i]? <;> simp_all

/-- The search for a key. -/
theorem run_find {K : TypeId} (hk : KeyOK K kenc) {es : List MapEntry} {m : List (κ × β)} (h : es.map (fun e => (e.key, e.val)) = m.map (fun p => (kenc p.1, venc p.2))) (k : κ) (w : World) :
    (Instr.findKey K (kenc k) es).run Try.prog w = .ok (((m.map (·.1)).findIdx? (· = k)).bind fun i => (es[i]?).map fun e => (i, e.val)) w :=
  hk.find k es (m.map (·.1)) w (keys_of h)

theorem run_look {T K E : TypeId} (hT : Try.prog.underlying T = some (.map K E)) (hk : KeyOK K kenc) {zero : Value} (hz : ∀ w, (zeroValue E).run Try.prog w = .ok zero w) {w : World} {b : Nat} {m : List (κ × β)} (hm : MapIs kenc venc w b m) (k : κ) :
    (Instr.lookup T (.map (some b)) (kenc k) false).run Try.prog w = .ok (((look m k).map venc).getD zero) w := by
  obtain ⟨es, clock, hb, he, _, _⟩ := hm
  have hf := run_find hk he k w
  have hg : (getObj b).run Try.prog w = .ok (.map es clock) w := by simp [getObj, Sem.run, hb]
  have hc := hk.chk es.isEmpty k w
  unfold Instr.lookup
  simp only [Sem.run_bind, run_underlying hT, Result.andThen_ok, hg, Sem.run_pure, hc, hf]
  rw [look_find]
  cases hi : (m.map (·.1)).findIdx? (· = k) with
  | none => simp [hz]
  | some i =>
    have hv := vals_of he i
    have hlt : i < m.length := by
      have := List.findIdx?_eq_some_iff_getElem.1 hi
      obtain ⟨h, _⟩ := this
      simpa using h
    rw [List.getElem?_eq_getElem hlt] at hv
    cases hes : es.toList[i]? with
    | none => rw [hes] at hv; cases hv
    | some e =>
      rw [hes] at hv
      simp at hv
      have hes' : es[i]? = some e := by simpa using hes
      simp [hlt, hes', hv]

theorem put_idx : ∀ (m : List (κ × β)) (k : κ) (v : β), put m k v = match (m.map (·.1)).findIdx? (· = k) with | some i => m.set i (k, v) | none => m ++ [(k, v)]
  | [], _, _ => rfl
  | p :: m, k, v => by
    unfold put
    by_cases h : p.1 = k
    · simp [List.findIdx?_cons, h]
    · rw [if_neg h, put_idx m k v]
      simp only [List.map_cons, List.findIdx?_cons, h, decide_false, Bool.false_eq_true, if_false]
      cases (m.map (·.1)).findIdx? (· = k) <;> simp

theorem run_put {T K E : TypeId} (hT : Try.prog.underlying T = some (.map K E)) (hk : KeyOK K kenc) {w : World} {b : Nat} {m : List (κ × β)} (hm : MapIs kenc venc w b m) (k : κ) (v : β) :
    ∃ es clock, (Instr.mapUpdate T (.map (some b)) (kenc k) (venc v)).run Try.prog w = .ok () (w.putObj b (.map es clock)) ∧ MapIs kenc venc (w.putObj b (.map es clock)) b (put m k v) := by
  obtain ⟨es, clock, hb, he, hn, hc⟩ := hm
  have hf := run_find hk he k w
  have hg : (getObj b).run Try.prog w = .ok (.map es clock) w := by simp [getObj, Sem.run, hb]
  have hck := hk.chk false k w
  have hset : ∀ o, (setObj b o).run Try.prog w = .ok () (w.putObj b o) := fun o => by simp [setObj, Sem.run, hb, World.putObj]
  have hlb := (Array.getElem?_eq_some_iff.1 hb).1
  have hpb : ∀ o, (w.putObj b o).heap[b]? = some o := fun o => World.putObj_heap_same hlb
  unfold Instr.mapUpdate
  simp only [Sem.run_bind, run_underlying hT, Result.andThen_ok, hg, hck, hf]
  rw [put_idx]
  have hlen : es.size = m.length := by
    have := congrArg List.length he
    simpa using this
  cases hi : (m.map (·.1)).findIdx? (· = k) with
  | none =>
    refine ⟨es.push { key := kenc k, val := venc v, born := clock }, clock + 1, by simp [hset], _, _, hpb _, ?_, ?_, ?_⟩
    · simp [he]
    · simp only [Array.toList_push, List.map_append, List.map_cons, List.map_nil]
      rw [List.nodup_append]
      refine ⟨hn, by simp, ?_⟩
      intro x hx y hy
      simp only [List.mem_singleton] at hy
      subst hy
      obtain ⟨e, he1, rfl⟩ := List.mem_map.1 hx
      have := hc e he1
      omega
    · intro e he1
      simp only [Array.toList_push, List.mem_append, List.mem_singleton] at he1
      rcases he1 with he1 | rfl
      · have := hc e he1; omega
      · simp
  | some i =>
    obtain ⟨hil, hik, _⟩ := List.findIdx?_eq_some_iff_getElem.1 hi
    have him : i < m.length := by simpa using hil
    have hie : i < es.size := by omega
    have hke : es[i].key = kenc k := by
      have h1 := keys_of he
      have h2 := congrArg (fun l => l[i]?) h1
      simp [hie, him] at h2
      simp at hik
      rw [h2, hik]
    have hkst : (Instr.keyThatStays es[i].key (kenc k)).run Try.prog w = .ok (kenc k) w := by
      unfold Instr.keyThatStays
      rw [hke, if_pos (hk.same k)]
      rfl
    refine ⟨es.modify i fun e => { e with key := kenc k, val := venc v }, clock, ?_, _, _, hpb _, ?_, ?_, ?_⟩
    · simp [hie, hkst, hset]
    · apply List.ext_getElem?
      intro j
      have h1 := congrArg (fun l => l[j]?) he
      simp only [List.getElem?_map, Array.toList_modify, List.getElem?_modify] at h1 ⊢
      by_cases hij : i = j
      · subst hij
        simp [hie, him]
      · simp only [hij, if_false, Option.map_eq_map] at h1 ⊢
        rw [List.getElem?_set_ne hij]
        simpa using h1
    · have : (es.modify i fun e => { e with key := kenc k, val := venc v }).toList.map (·.born) = es.toList.map (·.born) := by
        apply List.ext_getElem?
        intro j
        simp only [List.getElem?_map, Array.toList_modify, List.getElem?_modify]
        by_cases hij : i = j
        · subst hij; simp [hie]
        · simp [hij]
      rw [this]
      exact hn
    · intro e he1
      obtain ⟨j, hj⟩ := List.getElem?_of_mem he1
      simp only [Array.toList_modify, List.getElem?_modify] at hj
      by_cases hij : i = j
      · subst hij
        simp [hie] at hj
        subst hj
        exact hc es[i] (by simp)
      · simp [hij] at hj
        exact hc e (by rw [Array.mem_toList_iff]; exact Array.mem_of_getElem? hj)

omit [DecidableEq κ] in
theorem run_clear {T K E : TypeId} (hT : Try.prog.underlying T = some (.map K E)) (ty : TypeId) {w : World} {b : Nat} {m : List (κ × β)} (hm : MapIs kenc venc w b m) :
    ∃ clock, (Builtin.clear_ #[T] ty #[.map (some b)]).run Try.prog w = .ok (.tuple #[]) (w.putObj b (.map #[] clock)) ∧ MapIs kenc venc (w.putObj b (.map #[] clock)) b ([] : List (κ × β)) := by
  obtain ⟨es, clock, hb, _, _, _⟩ := hm
  have hg : (getObj b).run Try.prog w = .ok (.map es clock) w := by simp [getObj, Sem.run, hb]
  have hset : ∀ o, (setObj b o).run Try.prog w = .ok () (w.putObj b o) := fun o => by simp [setObj, Sem.run, hb, World.putObj]
  have hlb := (Array.getElem?_eq_some_iff.1 hb).1
  refine ⟨clock, ?_, _, _, World.putObj_heap_same hlb, rfl, by simp, by simp⟩
  unfold Builtin.clear_
  simp [run_underlying hT, hg, hset]

omit [DecidableEq κ] in
theorem MapIs.new (w : World) : MapIs kenc venc (w.alloc (.map #[] 0)) w.heap.size ([] : List (κ × β)) :=
  ⟨_, _, heap_alloc_new w _, rfl, by simp, by simp⟩

omit [DecidableEq κ] in
theorem MapIs.kept {w w' : World} {b : Nat} {m : List (κ × β)} (h : MapIs kenc venc w b m) (hb : w'.heap[b]? = w.heap[b]?) : MapIs kenc venc w' b m := by
  obtain ⟨es, clock, h1, h2⟩ := h
  exact ⟨es, clock, hb.trans h1, h2⟩

omit [DecidableEq κ] in
theorem MapIs.lt {w : World} {b : Nat} {m : List (κ × β)} (h : MapIs kenc venc w b m) : b < w.heap.size := by
  obtain ⟨es, clock, h1, _⟩ := h
  exact lt_of_heap h1

end

def intV (n : Int) : Value := .int .i64 n
def boolV (b : Bool) : Value := .bool b

theorem findNow_int (k : IntKind) (a : Int) : ∀ (es : List MapEntry) (m : List Int) (i : Nat), es.map (·.key) = m.map (Value.int k) →
    Instr.findNow (.int k) (.int k a) es i = some ((m.findIdx? (· = a)).bind fun j => (es[j]?).map fun e => (i + j, e.val))
  | [], [], _, _ => rfl
  | [], _ :: _, _, h => by simp at h
  | _ :: _, [], _, h => by simp at h
  | e :: es, x :: m, i, h => by
    simp only [List.map_cons, List.cons.injEq] at h
    unfold Instr.findNow
    rw [h.1]
    by_cases hx : x = a
    · subst hx
      simp [Instr.sameNow, List.findIdx?_cons]
    · have hne : (a == x) = false := by simp; exact fun e => hx e.symm
      simp only [Instr.sameNow, if_true, hne]
      rw [findNow_int k a es m (i + 1) h.2]
      simp only [List.findIdx?_cons, hx, decide_false, Bool.false_eq_true, if_false]
      cases m.findIdx? (· = a) with
      | none => rfl
      | some j => simp; congr 1; funext e; congr 1; omega

theorem intKey : KeyOK 3 intV where
  chk e a w := by
    unfold Instr.checkKey intV
    simp [Try.runUnderlying3]
  find a es m w h := by
    unfold Instr.findKey
    simp only [Sem.run_bind, Try.runUnderlying3, Result.andThen_ok]
    rw [show intV a = .int .i64 a from rfl, findNow_int .i64 a es m 0 h]
    simp
  same a := by simp [intV, Instr.sameBits]

end Go.Proofs.Ytgdmgeihgkbjaaa
