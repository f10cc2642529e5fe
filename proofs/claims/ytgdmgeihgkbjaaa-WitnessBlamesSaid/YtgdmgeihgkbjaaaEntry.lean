/- 'm[k] = append(m[k], ..)': the entry taken, the entry stored. -/
import Derived.Test.YtgdmgeihgkbjaaaRangeM
import Derived.Test.YtgdmgeihgkbjaaaRise
namespace Go.Proofs.Ytgdmgeihgkbjaaa
open Go.RowKit

/-- Block M is a map that holds m, and st is the stamp of k's entry. -/
def EntryIs {κ β : Type} [DecidableEq κ] (kenc : κ → Value) (venc : β → Value) (w : World) (M : Nat) (m : List (κ × β)) (k : κ) (st : Nat) : Prop :=
  ∃ es clock, w.heap[M]? = some (.map es clock) ∧ es.toList.map (fun e => (e.key, e.val)) = m.map (fun p => (kenc p.1, venc p.2)) ∧ (es.toList.map (·.born)).Nodup ∧ (∀ e ∈ es.toList, e.born < clock) ∧
    ∃ i e, (m.map (·.1)).findIdx? (· = k) = some i ∧ es.toList[i]? = some e ∧ e.born = st

section
variable {κ β : Type} [DecidableEq κ] {kenc : κ → Value} {venc : β → Value}

theorem EntryIs.kept {w w' : World} {M : Nat} {m : List (κ × β)} {k : κ} {st : Nat} (h : EntryIs kenc venc w M m k st) (hb : w'.heap[M]? = w.heap[M]?) : EntryIs kenc venc w' M m k st := by
  obtain ⟨es, clock, h1, h2⟩ := h
  exact ⟨es, clock, hb.trans h1, h2⟩

theorem EntryIs.map {w : World} {M : Nat} {m : List (κ × β)} {k : κ} {st : Nat} (h : EntryIs kenc venc w M m k st) : MapIs kenc venc w M m := by
  obtain ⟨es, clock, h1, h2, h3, h4, _⟩ := h
  exact ⟨es, clock, h1, h2, h3, h4⟩

theorem EntryIs.lt {w : World} {M : Nat} {m : List (κ × β)} {k : κ} {st : Nat} (h : EntryIs kenc venc w M m k st) : M < w.heap.size := h.map.lt

/-- The map with k in it. -/
def withKey (m : List (κ × β)) (k : κ) (z : β) : List (κ × β) := match look m k with | some _ => m | none => put m k z

theorem run_entry_m {T K E : TypeId} (hT : Try.prog.underlying T = some (.map K E)) (hk : KeyOK K kenc) {z : β} (hz : ∀ w, (zeroValue E).run Try.prog w = .ok (venc z) w) {w : World} {b : Nat} {m : List (κ × β)} (hm : MapIs kenc venc w b m) (k : κ) :
    ∃ w' st, (Instr.mapEntry T (.map (some b)) (kenc k)).run Try.prog w = .ok (.tuple #[venc ((look m k).getD z), goInt (st : Nat)]) w' ∧ w.grownBy w' (some b) ∧ w'.heap.size = w.heap.size ∧ EntryIs kenc venc w' b (withKey m k z) k st := by
  obtain ⟨es, clock, hb, he, hn, hc⟩ := hm
  have hf := run_find hk he k w
  have hg : (getObj b).run Try.prog w = .ok (.map es clock) w := by simp [getObj, Sem.run, hb]
  have hck := hk.chk false k w
  have hset : ∀ o, (setObj b o).run Try.prog w = .ok () (w.putObj b o) := fun o => by simp [setObj, Sem.run, hb, World.putObj]
  have hlb := (Array.getElem?_eq_some_iff.1 hb).1
  have hpb : ∀ o, (w.putObj b o).heap[b]? = some o := fun o => World.putObj_heap_same hlb
  have hgr : ∀ o, w.grownBy (w.putObj b o) (some b) := fun o => grownBy_putObj w b o
  have hlen : es.size = m.length := by
    have := congrArg List.length he
    simpa using this
  have hlk := look_find m k
  unfold Instr.mapEntry
  simp only [Sem.run_bind, run_underlying hT, Result.andThen_ok, hg, hck, hf]
  cases hi : (m.map (·.1)).findIdx? (· = k) with
  | none =>
    rw [hi] at hlk
    have hlk' : look m k = none := hlk
    refine ⟨_, clock, by simp [hset, hz, hlk'], hgr (.map (es.push { key := kenc k, val := venc z, born := clock }) (clock + 1)), by simp, es.push { key := kenc k, val := venc z, born := clock }, clock + 1, hpb _, ?_, ?_, ?_, es.size, { key := kenc k, val := venc z, born := clock }, ?_, by simp, rfl⟩
    · have : withKey m k z = m ++ [(k, z)] := by unfold withKey; rw [hlk', put_idx, hi]
      rw [this]
      simp [he]
    · simp only [Array.toList_push, List.map_append, List.map_cons, List.map_nil]
      rw [List.nodup_append]
      refine ⟨hn, by simp, ?_⟩
      intro x hx y hy
      simp only [List.mem_singleton] at hy
      subst hy
      obtain ⟨e, he1, rfl⟩ := List.mem_map.1 hx
      have := hc e he1
      omega
    · intro e he1
      simp only [Array.toList_push, List.mem_append, List.mem_singleton] at he1
      rcases he1 with he1 | rfl
      · have := hc e he1; omega
      · simp
    · have : withKey m k z = m ++ [(k, z)] := by unfold withKey; rw [hlk', put_idx, hi]
      rw [this, List.map_append, List.findIdx?_append, hi]
      simp [hlen]
  | some i =>
    obtain ⟨hil, hik, _⟩ := List.findIdx?_eq_some_iff_getElem.1 hi
    have him : i < m.length := by simpa using hil
    have hie : i < es.size := by omega
    have hke : es[i].key = kenc k := by
      have h1 := keys_of he
      have h2 := congrArg (fun l => l[i]?) h1
      simp [hie, him] at h2
      simp at hik
      rw [h2, hik]
    have hv := vals_of he i
    rw [List.getElem?_eq_getElem him] at hv
    have hve : es[i].val = venc m[i].2 := by simpa [hie] using hv
    have hkst : (Instr.keyThatStays es[i].key (kenc k)).run Try.prog w = .ok (kenc k) w := by
      unfold Instr.keyThatStays
      rw [hke, if_pos (hk.same k)]
      rfl
    have hlk' : look m k = some m[i].2 := by
      rw [hlk, hi]; simp [him]
    have hmod : ∀ j : Nat, (es.modify i fun e => { e with key := kenc k })[j]? = es[j]? := by
      intro j
      rw [Array.getElem?_modify]
      by_cases hij : i = j
      · subst hij
        rw [if_pos rfl]
        simp [hie, ← hke]
      · rw [if_neg hij]
    have hsame : (es.modify i fun e => { e with key := kenc k }) = es := by
      apply Array.ext_getElem?
      intro j; exact hmod j
    refine ⟨_, es[i].born, by simp [hie, hkst, hset, hlk', hve, hsame], hgr (.map es clock), by simp, es, clock, hpb _, ?_, hn, hc, i, es[i], ?_, by simp [hie], rfl⟩
    · unfold withKey; rw [hlk']; exact he
    · unfold withKey; rw [hlk']; exact hi

theorem run_store_m {T : TypeId} {w : World} {b : Nat} {m : List (κ × β)} {k : κ} {st : Nat} (hm : EntryIs kenc venc w b m k st) (v : β) :
    ∃ w', (Instr.entryStore T (.map (some b)) (goInt (st : Nat)) (venc v)).run Try.prog w = .ok () w' ∧ w.grownBy w' (some b) ∧ w'.heap.size = w.heap.size ∧ MapIs kenc venc w' b (put m k v) := by
  obtain ⟨es, clock, hb, he, hn, hc, i, e0, hi, hes, hst⟩ := hm
  have hg : (getObj b).run Try.prog w = .ok (.map es clock) w := by simp [getObj, Sem.run, hb]
  have hset : ∀ o, (setObj b o).run Try.prog w = .ok () (w.putObj b o) := fun o => by simp [setObj, Sem.run, hb, World.putObj]
  have hlb := (Array.getElem?_eq_some_iff.1 hb).1
  have hpb : ∀ o, (w.putObj b o).heap[b]? = some o := fun o => World.putObj_heap_same hlb
  obtain ⟨hie, rfl⟩ := List.getElem?_eq_some_iff.1 hes
  have hie' : i < es.size := by simpa using hie
  have hfi : es.findIdx? (fun e => (e.born : Int) == (st : Int)) = some i := by
    have hcv : ∀ (A : Array MapEntry) (p : MapEntry → Bool), A.findIdx? p = A.toList.findIdx? p := fun A p => by cases A; simp
    rw [hcv, List.findIdx?_eq_some_iff_getElem]
    refine ⟨hie, by simp [← hst], fun j hj => ?_⟩
    have hjl : j < es.toList.length := by omega
    intro hc2
    have hb2 : es.toList[j].born = es.toList[i].born := by
      rw [hst]
      have h3 : ((es.toList[j].born : Nat) : Int) = (st : Int) := by simpa using hc2
      omega
    have h1 := List.getElem_inj (i := j) (j := i) (h₀ := by simpa using hjl) (h₁ := by simpa using hie) hn
    have := h1.1 (by simpa using hb2)
    omega
  obtain ⟨hil, hik, _⟩ := List.findIdx?_eq_some_iff_getElem.1 hi
  have him : i < m.length := by simpa using hil
  refine ⟨w.putObj b (.map (es.modify i fun e => { e with val := venc v }) clock), ?_, grownBy_putObj w b _, by simp, es.modify i fun e => { e with val := venc v }, clock, hpb _, ?_, ?_, ?_⟩
  · unfold Instr.entryStore
    simp only [Sem.run_bind, hg, Result.andThen_ok, goInt, asInt, asIntOf, Sem.run_pure, hfi, hset]
  · rw [put_idx, hi]
    apply List.ext_getElem?
    intro j
    have h1 := congrArg (fun l => l[j]?) he
    simp only [List.getElem?_map, Array.toList_modify, List.getElem?_modify] at h1 ⊢
    by_cases hij : i = j
    · subst hij
      rw [List.getElem?_set_self him]
      simp only [List.getElem?_eq_getElem hie, List.getElem?_eq_getElem him, Option.map_some, Option.some.injEq, Prod.mk.injEq] at h1
      simp at hik
      simp [hie']
      have := h1.1
      simpa [hik] using this
    · simp only [hij, if_false, Option.map_eq_map] at h1 ⊢
      rw [List.getElem?_set_ne hij]
      simpa using h1
  · have : (es.modify i fun e => { e with val := venc v }).toList.map (·.born) = es.toList.map (·.born) := by
      apply List.ext_getElem?
      intro j
      simp only [List.getElem?_map, Array.toList_modify, List.getElem?_modify]
      by_cases hij : i = j
      · subst hij; simp [hie']
      · simp [hij]
    rw [this]
    exact hn
  · intro e he1
    obtain ⟨j, hj⟩ := List.getElem?_of_mem he1
    simp only [Array.toList_modify, List.getElem?_modify] at hj
    by_cases hij : i = j
    · subst hij
      simp [hie'] at hj
      subst hj
      exact hc es[i] (by simp)
    · simp [hij] at hj
      exact hc e (by rw [Array.mem_toList_iff]; exact Array.mem_of_getElem? hj)

end

end Go.Proofs.Ytgdmgeihgkbjaaa
