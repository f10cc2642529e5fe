/- Whom a fault names: the plain law. -/
import Derived.Test.YtgdmgeihgkbjaaaWrote
namespace Go.Proofs.Ytgdmgeihgkbjaaa
open Go.RowKit

theorem step_good {l : List Sn} (hm : mayP l = true) {i : Nat} {x : Sn} (hx : l[i]? = some x) : x.n ≠ nz := by
  have hs := mayP_at.1 hm i x hx
  unfold stepOK at hs
  simp only [Bool.and_eq_true] at hs
  intro e
  have := hs.1
  rw [e] at this
  revert this
  decide

/-- What the blocks hold: nothing, or a write of the history. -/
def HoldOK (l h : List Sn) : Prop := ∀ (b : Nat) y, h[b]? = some y → y = sz ∨ ∃ j : Nat, l[j]? = some y ∧ y.k = 2 ∧ y.b = (b : Int)

theorem holdOK0 (l : List Sn) : HoldOK l h0 := by
  intro b y hy
  left
  unfold h0 at hy
  rw [List.getElem?_replicate] at hy
  split at hy
  · cases hy; rfl
  · cases hy

theorem holdOK_set {l h : List Sn} (hh : HoldOK l h) {i : Nat} {x : Sn} (hx : l[i]? = some x) (h2 : x.k = 2) (hb : 0 ≤ x.b) : HoldOK l (h.set x.b.toNat x) := by
  intro b y hy
  rw [List.getElem?_set] at hy
  split at hy
  · split at hy
    · cases hy
      exact .inr ⟨i, hx, h2, by omega⟩
    · cases hy
  · exact hh b y hy

theorem emit_mem {l : List Sn} (hm : mayP l = true) (ns : List Nm) : ∀ (ps : List (Nm × Nat)) (h : List Sn), HoldOK l h → h.length = 32 → ∀ f ∈ emit l ns ps h, ∃ n i x h', (n, i) ∈ ps ∧ l[i]? = some x ∧ x.k = 1 ∧ HoldOK l h' ∧ h'.length = 32 ∧ f = ftOf l ns h' n i x
  | [], _, _, _, f, hf => by simp [emit] at hf
  | (n, i) :: r, h, hh, hl, f, hf => by
    have lift : ∀ h2, HoldOK l h2 → h2.length = 32 → f ∈ emit l ns r h2 → ∃ n' i' x h', (n', i') ∈ (n, i) :: r ∧ l[i']? = some x ∧ x.k = 1 ∧ HoldOK l h' ∧ h'.length = 32 ∧ f = ftOf l ns h' n' i' x := fun h2 hh2 hl2 hf2 => by
      obtain ⟨n', i', x, h', h1, h3⟩ := emit_mem hm ns r h2 hh2 hl2 f hf2
      exact ⟨n', i', x, h', List.mem_cons_of_mem _ h1, h3⟩
    unfold emit at hf
    cases hx : l[i]? with
    | none => rw [hx] at hf; exact lift h hh hl hf
    | some x =>
      rw [hx] at hf
      simp only at hf
      split at hf
      · rename_i h2
        exact lift _ (holdOK_set hh hx h2 (step_range hm hx (.inr h2)).1) (by simp [hl]) hf
      · split at hf
        · rename_i h1
          rcases List.mem_cons.1 hf with rfl | hf
          · exact ⟨n, i, x, h, by simp, hx, h1, hh, hl, rfl⟩
          · exact lift h hh hl hf
        · exact lift h hh hl hf

theorem pairs_mem {l : List Sn} {ns : List Nm} {n : Nm} {i : Nat} (h : (n, i) ∈ pairsP l ns) : n ∈ ns ∧ ∃ x, l[i]? = some x ∧ x.n = n := by
  unfold pairsP at h
  obtain ⟨m, hm, h⟩ := List.mem_flatMap.1 h
  obtain ⟨j, hj, e⟩ := List.mem_map.1 h
  cases e
  obtain ⟨_, x, hx, hn⟩ := idxN_mem l n 0 i hj
  exact ⟨hm, x, by simpa using hx, hn⟩

theorem lastW_spec' : ∀ (m : Nat) (p : List Sn) (b : Int) (v : V8), p.length = m → (∀ x ∈ p, x.n ≠ nz) → (lastW p b v = nz → p.any (wroteByP b v) = false) ∧ (lastW p b v ≠ nz → p.any (wroteP (lastW p b v) b v) = true) := by
  intro m
  induction m with
  | zero =>
    intro p b v hl _
    obtain rfl := List.length_eq_zero_iff.1 hl
    exact ⟨fun _ => rfl, fun h => absurd rfl h⟩
  | succ m ih =>
    intro p b v hl hg
    rcases List.eq_nil_or_concat p with rfl | ⟨p, y, rfl⟩
    · cases hl
    obtain ⟨h1, h2⟩ := ih p b v (by simpa using hl) (fun x hx => hg x (by simp [hx]))
    have hy : y.n ≠ nz := hg y (by simp)
    rw [List.concat_eq_append, lastW_snoc]
    split
    · rename_i hc
      refine ⟨fun e => absurd e hy, fun _ => ?_⟩
      simp [wroteP, hc]
    · rename_i hc
      refine ⟨fun e => ?_, fun e => ?_⟩
      · rw [List.any_append, h1 e]
        simp only [List.any_cons, List.any_nil, Bool.or_false, Bool.false_or]
        unfold wroteByP
        simpa using fun a b => fun c => hc ⟨a, b, c⟩
      · rw [List.any_append, h2 e]
        rfl

theorem lastW_spec (p : List Sn) (b : Int) (v : V8) (hg : ∀ x ∈ p, x.n ≠ nz) : (lastW p b v = nz → p.any (wroteByP b v) = false) ∧ (lastW p b v ≠ nz → p.any (wroteP (lastW p b v) b v) = true) := lastW_spec' _ p b v rfl hg

/-- What each fault says is so. -/
structure BlameOK (l : List Sn) (f : Ft) (i : Nat) (x : Sn) : Prop where
  at_ : f.i = (i : Int)
  hx : l[i]? = some x
  kx : x.k = 1
  nx : x.n = f.n
  bx : x.b = f.b
  vx : x.v = f.got
  ne : f.want ≠ f.got
  s0 : f.should = nz → f.want = z0
  s1 : f.should ≠ nz → l.any (wroteP f.should f.b f.want) = true
  w0 : f.was = nz → (l.take i).any (wroteByP f.b f.got) = false
  w1 : f.was ≠ nz → (l.take i).any (wroteP f.was f.b f.got) = true
  k0 : 0 ≤ f.k
  k4 : f.k ≤ 4
  k3 : f.k = 3 ↔ f.was = f.n
  kn : f.k = 4 → f.was = nz

theorem blame_ok {l : List Sn} (hm : mayP l = true) {f : Ft} (hf : f ∈ wrongP l) : ∃ i x, BlameOK l f i x := by
  unfold wrongP at hf
  obtain ⟨hf, hne⟩ := List.mem_filter.1 hf
  have hne : f.want ≠ f.got := by simpa using hne
  obtain ⟨n, i, x, h, hp, hx, h1, hh, hlen, rfl⟩ := emit_mem hm (ordR l) _ h0 (holdOK0 l) (by decide) f hf
  obtain ⟨hn, x', hx', hxn⟩ := pairs_mem hp
  rw [hx] at hx'
  cases hx'
  obtain ⟨hb0, hb1⟩ := step_range hm hx (.inl h1)
  have hgood := step_good hm hx
  obtain ⟨y, hy⟩ : ∃ y, h[x.b.toNat]? = some y := ⟨_, List.getElem?_eq_getElem (by omega)⟩
  have hlw := lastW_spec (l.take i) x.b x.v (fun z hz => by
    obtain ⟨j, hj⟩ := List.getElem?_of_mem hz
    rw [List.getElem?_take] at hj
    split at hj
    · exact step_good hm hj
    · cases hj)
  have hyy := hh _ y hy
  refine ⟨i, x, ?_⟩
  simp only [ftOf, hy, Option.getD_some] at hne ⊢
  refine ⟨rfl, hx, h1, hxn, rfl, rfl, hne, fun e => ?_, fun e => ?_, fun e => hlw.1 e, fun e => hlw.2 e, ?_, ?_, ?_, ?_⟩
  · rcases hyy with rfl | ⟨j, hj, _, _⟩
    · rfl
    · exact absurd e (step_good hm hj)
  · rcases hyy with rfl | ⟨j, hj, hk, hb⟩
    · exact absurd rfl e
    · rw [List.any_eq_true]
      refine ⟨y, List.mem_of_getElem? hj, ?_⟩
      have : y.b = x.b := by omega
      simp [wroteP, hk, this]
  all_goals (simp only [kindP]; generalize lastW (l.take i) x.b x.v = was at *)
  · repeat' split
    all_goals decide
  · repeat' split
    all_goals decide
  · rw [hxn] at hgood
    split
    · rename_i hc
      exact ⟨(fun e => by cases e), fun e => absurd (e.symm.trans hc.1) hgood⟩
    · split
      · rename_i hc; exact ⟨fun _ => hc, fun _ => rfl⟩
      · rename_i hc
        refine ⟨fun e => ?_, fun e => absurd e hc⟩
        repeat' split at e
        all_goals cases e
  · intro e
    split at e
    · rename_i hc; exact hc.1
    · repeat' split at e
      all_goals cases e

end Go.Proofs.Ytgdmgeihgkbjaaa
