/- Several texts in one: MendLaw, Count, MayRef, OrdRef, RepRef -/
import Derived.Test.YtgdmgeihgkbjaaaPc
import Derived.Deep.Cut
import Derived.StillTailTactics
/- What mending, and spoiling, a history does to its faults: the plain law. -/
namespace Go.Proofs.Ytgdmgeihgkbjaaa
open Go.RowKit

theorem Sim.set {l m : List Sn} (h : Sim l m) : ∀ {i : Nat} {x y : Sn}, l[i]? = some x → m[i]? = some y → x.k = 1 → ∀ u, Sim l (m.set i { y with v := u }) := by
  induction h with
  | nil => intro i x y hx; simp at hx
  | cons r hs ih =>
    intro i x y hx hy h1 u
    cases i with
    | zero =>
      simp at hx hy
      subst hx hy
      refine .cons ⟨?_, fun e => absurd h1 e⟩ hs
      conv => lhs; rw [r.1]
    | succ i =>
      exact .cons r (ih (by simpa using hx) (by simpa using hy) h1 u)

theorem mendOne_at {m : List Sn} {f : Ft} {j : Nat} (h : f.i.toNat ≠ j) : (mendOne m f)[j]? = m[j]? := by
  unfold mendOne
  split
  · rw [List.getElem?_set_ne h]
  · rfl

theorem mends_at : ∀ (fs : List Ft) (m : List Sn) (j : Nat), (∀ f ∈ fs, f.i.toNat ≠ j) → (fs.foldl mendOne m)[j]? = m[j]?
  | [], _, _, _ => rfl
  | f :: fs, m, j, h => by
    rw [List.foldl_cons, mends_at fs _ j (fun g hg => h g (List.mem_cons_of_mem _ hg)), mendOne_at (h f List.mem_cons_self)]

theorem mends_in : ∀ (fs : List Ft) (m : List Sn), fs.Pairwise (fun f g => f.i.toNat ≠ g.i.toNat) → ∀ f ∈ fs, ∀ x, m[f.i.toNat]? = some x → (fs.foldl mendOne m)[f.i.toNat]? = some { x with v := f.want }
  | [], _, _, f, hf, _, _ => by simp at hf
  | g :: fs, m, hp, f, hf, x, hx => by
    rw [List.pairwise_cons] at hp
    rw [List.foldl_cons]
    rcases List.mem_cons.1 hf with rfl | hf
    · rw [mends_at fs _ _ (fun g hg => (hp.1 g hg).symm)]
      unfold mendOne
      rw [hx]
      have hi := (List.getElem?_eq_some_iff.1 hx).1
      simp only
      rw [List.getElem?_set_self hi]
    · refine mends_in fs _ hp.2 f hf x ?_
      rw [mendOne_at (hp.1 f hf), hx]

theorem sim_mends {l : List Sn} : ∀ (fs : List Ft) (m : List Sn), Sim l m → (∀ f ∈ fs, ∃ x, l[f.i.toNat]? = some x ∧ x.k = 1) → Sim l (fs.foldl mendOne m)
  | [], _, h, _ => h
  | f :: fs, m, h, hf => by
    rw [List.foldl_cons]
    refine sim_mends fs _ ?_ (fun g hg => hf g (List.mem_cons_of_mem _ hg))
    obtain ⟨x, hx, h1⟩ := hf f List.mem_cons_self
    obtain ⟨y, hy, r⟩ := h.get hx
    unfold mendOne
    rw [hy]
    exact h.set hx hy h1 _

theorem sim_mend {l : List Sn} (hm : mayP l = true) : Sim l (mendP l) := by
  refine sim_mends (wrongP l) l (Sim.refl l) fun f hf => ?_
  obtain ⟨i, x, h⟩ := blame_ok hm hf
  exact ⟨x, by rw [h.at_, Int.toNat_natCast]; exact h.hx, h.kx⟩

theorem filter_nil {α : Type} {p : α → Bool} {l : List α} (h : ∀ x ∈ l, p x = false) : l.filter p = [] := by
  rw [List.filter_eq_nil_iff]
  intro x hx; simp [h x hx]

/-- Two faults at one place are one. -/
theorem reads_inj {l : List Sn} (hm : mayP l = true) {f g : Ft} (hf : f ∈ readsP l) (hg : g ∈ readsP l) (e : f.i.toNat = g.i.toNat) : f = g := by
  have h := reads_nodup hm
  obtain ⟨i, hi, rfl⟩ := List.getElem_of_mem hf
  obtain ⟨j, hj, rfl⟩ := List.getElem_of_mem hg
  rcases Nat.lt_trichotomy i j with hlt | rfl | hlt
  · exact absurd e (List.pairwise_iff_getElem.1 h i j hi hj hlt)
  · rfl
  · exact absurd e.symm (List.pairwise_iff_getElem.1 h j i hj hi hlt)

/-- Mended there is no fault. -/
theorem mend_right {l : List Sn} (hm : mayP l = true) : wrongP (mendP l) = [] := by
  have hs := sim_mend hm
  unfold wrongP
  refine filter_nil fun f' hf' => ?_
  rw [hs.reads] at hf'
  obtain ⟨f, hf, rfl⟩ := List.mem_map.1 hf'
  obtain ⟨i, x, ho⟩ := read_ok hm hf
  have hi : f.i.toNat = i := by rw [ho.at_, Int.toNat_natCast]
  by_cases hw : f.want = f.got
  · have hx : (mendP l)[f.i.toNat]? = some x := by
      unfold mendP
      rw [mends_at _ _ _ fun g hg e => ?_]
      · rw [hi]; exact ho.hx
      · obtain ⟨hg, hgw⟩ := List.mem_filter.1 hg
        have := reads_inj hm hg hf e
        subst this
        simp [hw] at hgw
    unfold retell
    rw [hx]
    simp [hw, ho.vx]
  · have hfw : f ∈ wrongP l := List.mem_filter.2 ⟨hf, by simp [hw]⟩
    have hx := mends_in (wrongP l) l (wrong_nodup hm) f hfw x (by rw [hi]; exact ho.hx)
    unfold retell
    show (decide ((match (mendP l)[f.i.toNat]? with | some y => _ | none => f).want ≠ (match (mendP l)[f.i.toNat]? with | some y => _ | none => f).got)) = false
    unfold mendP
    rw [hx]
    simp

theorem mendP_length (l : List Sn) : (mendP l).length = l.length := by
  have : ∀ (fs : List Ft) (m : List Sn), (fs.foldl mendOne m).length = m.length := by
    intro fs
    induction fs with
    | nil => intro m; rfl
    | cons f fs ih => intro m; rw [List.foldl_cons, ih, mendOne_length]
  exact this _ _

/-- Where the first q steps differ. -/
def diffs (l m : List Sn) (q : Nat) : List Nat := (List.range q).filter fun i => decide (m[i]? ≠ l[i]?)

theorem diffs_succ (l m : List Sn) (q : Nat) : diffs l m (q + 1) = if m[q]? = l[q]? then diffs l m q else diffs l m q ++ [q] := by
  unfold diffs
  rw [List.range_succ, List.filter_append]
  by_cases h : m[q]? = l[q]? <;> simp [h]

/-- As many steps are changed as there are faults. -/
theorem mend_count {l : List Sn} (hm : mayP l = true) : (diffs l (mendP l) l.length).length = (wrongP l).length := by
  have hp : ((wrongP l).map fun f => f.i.toNat).Perm (diffs l (mendP l) l.length) := by
    refine perm_of_mem ?_ ?_ fun j => ?_
    · show List.Pairwise _ _
      rw [List.pairwise_map]
      exact wrong_nodup hm
    · exact List.nodup_range.filter _
    · rw [List.mem_map]
      unfold diffs
      rw [List.mem_filter, List.mem_range]
      constructor
      · rintro ⟨f, hf, rfl⟩
        obtain ⟨i, x, ho⟩ := blame_ok hm hf
        have hi : f.i.toNat = i := by rw [ho.at_, Int.toNat_natCast]
        have hx : l[f.i.toNat]? = some x := by rw [hi]; exact ho.hx
        have := mends_in (wrongP l) l (wrong_nodup hm) f hf x hx
        refine ⟨(List.getElem?_eq_some_iff.1 hx).1, ?_⟩
        have e : (mendP l)[f.i.toNat]? = some { x with v := f.want } := this
        rw [e, hx]
        have hne : f.want ≠ x.v := by rw [ho.vx]; exact ho.ne
        simp only [ne_eq, Option.some.injEq, decide_not, Bool.not_eq_eq_eq_not, Bool.not_true, decide_eq_false_iff_not]
        intro e
        exact hne (congrArg Sn.v e)
      · rintro ⟨hj, hne⟩
        false_or_by_contra
        rename_i hno
        have : (mendP l)[j]? = l[j]? := mends_at (wrongP l) l j fun f hf e => hno ⟨f, hf, e⟩
        simp [this] at hne
  rw [← hp.length_eq, List.length_map]

/-! ### one read spoilt -/

theorem pairwise_one {α : Type} {R : α → α → Prop} {l : List α} {a : α} (hp : l.Pairwise R) (ha : a ∈ l) (h : ∀ b ∈ l, b = a) (hr : ¬ R a a) : l = [a] := by
  rcases l with _ | ⟨b, l⟩
  · simp at ha
  · have hb := h b List.mem_cons_self
    subst hb
    rcases l with _ | ⟨c, l⟩
    · rfl
    · have hc := h c (by simp)
      subst hc
      rw [List.pairwise_cons] at hp
      exact absurd (hp.1 c List.mem_cons_self) hr

theorem spoil_law {l : List Sn} (hm : mayP l = true) (hw : wrongP l = []) {i : Nat} {x : Sn} (hx : l[i]? = some x) (h1 : x.k = 1) {u : V8} (hu : x.v ≠ u) :
    mayP (l.set i { x with v := u }) = true ∧
    (x.n ∉ ordR l → wrongP (l.set i { x with v := u }) = []) ∧
    (x.n ∈ ordR l → ∃ f, wrongP (l.set i { x with v := u }) = [f] ∧ f.i = (i : Int) ∧ f.n = x.n ∧ f.b = x.b ∧ f.want = x.v ∧ f.got = u) := by
  have hs : Sim l (l.set i { x with v := u }) := (Sim.refl l).set hx hx h1 u
  have hi := (List.getElem?_eq_some_iff.1 hx).1
  have hno : ∀ f ∈ readsP l, f.want = f.got := fun f hf => by
    false_or_by_contra
    rename_i hne
    have : f ∈ wrongP l := List.mem_filter.2 ⟨hf, by simp [hne]⟩
    rw [hw] at this
    simp at this
  have hm' : mayP (l.set i { x with v := u }) = true := by rw [hs.may]; exact hm
  have away : ∀ f ∈ readsP l, f.i.toNat ≠ i → (retell l (ordR l) (l.set i { x with v := u }) f).want = (retell l (ordR l) (l.set i { x with v := u }) f).got := fun f hf hne => by
    obtain ⟨j, y, ho⟩ := read_ok hm hf
    have hj : f.i.toNat = j := by rw [ho.at_, Int.toNat_natCast]
    have : (l.set i { x with v := u })[f.i.toNat]? = some y := by rw [List.getElem?_set_ne (fun e => hne e.symm), hj]; exact ho.hx
    unfold retell
    rw [this]
    simp only
    rw [hno f hf, ho.vx]
  have here : ∀ f ∈ readsP l, f.i.toNat = i → (retell l (ordR l) (l.set i { x with v := u }) f) = { f with got := u, was := lastW (l.take i) f.b u, k := kindP (ordR l) f.n (lastW (l.take i) f.b u) u } ∧ f.n = x.n ∧ f.b = x.b ∧ f.want = x.v := fun f hf e => by
    obtain ⟨j, y, ho⟩ := read_ok hm hf
    have hj : f.i.toNat = j := by rw [ho.at_, Int.toNat_natCast]
    have hij : j = i := by omega
    subst hij
    have hy := ho.hx
    rw [hx] at hy
    cases hy
    refine ⟨?_, ho.nx.symm, ho.bx.symm, by rw [hno f hf, ho.vx]⟩
    unfold retell
    rw [e, List.getElem?_set_self hi]
  refine ⟨hm', fun hn => ?_, fun hn => ?_⟩
  · unfold wrongP
    rw [hs.reads]
    refine filter_nil fun f' hf' => ?_
    obtain ⟨f, hf, rfl⟩ := List.mem_map.1 hf'
    have hne : f.i.toNat ≠ i := fun e => by
      obtain ⟨j, y, ho⟩ := read_ok hm hf
      exact hn (by rw [← (here f hf e).2.1]; exact ho.on)
    simp [away f hf hne]
  · obtain ⟨f, hf, e⟩ := reads_has hx h1 hn
    obtain ⟨j, y, ho⟩ := read_ok hm hf
    have hj : f.i.toNat = j := by rw [ho.at_, Int.toNat_natCast]
    obtain ⟨e1, e2, e3, e4⟩ := here f hf e
    have hmem : retell l (ordR l) (l.set i { x with v := u }) f ∈ wrongP (l.set i { x with v := u }) := by
      unfold wrongP
      rw [hs.reads, List.mem_filter]
      refine ⟨List.mem_map.2 ⟨f, hf, rfl⟩, ?_⟩
      rw [e1]
      simp [e4, hu]
    refine ⟨retell l (ordR l) (l.set i { x with v := u }) f, ?_, ?_, ?_, ?_, ?_, ?_⟩
    · refine pairwise_one (wrong_nodup hm') hmem (fun g hg => ?_) (by simp)
      unfold wrongP at hg
      rw [hs.reads, List.mem_filter] at hg
      obtain ⟨hg, hgw⟩ := hg
      obtain ⟨g', hg', rfl⟩ := List.mem_map.1 hg
      by_cases eg : g'.i.toNat = i
      · rw [reads_inj hm hg' hf (by omega)]
      · simp [away g' hg' eg] at hgw
    all_goals rw [e1]
    · show f.i = (i : Int)
      rw [ho.at_]; omega
    · exact e2
    · exact e3
    · exact e4

/-! ### what names that are never decided do -/

/-- What WitnessGrows lays behind a history. -/
def extP (n : Nm) : List Int → Nat → List Sn
  | [], _ => [⟨3, n, 0, z0, 0⟩]
  | b :: bs, i => ⟨2, n, b, ⟨(1 + i : Nat), 0, 0, 0, 0, 0, 0, 0⟩, 0⟩ :: ⟨1, n, b, z0, 0⟩ :: extP n bs (i + 1)

theorem extP_name (n : Nm) : ∀ (bs : List Int) (i : Nat), ∀ x ∈ extP n bs i, x.n = n ∧ x.k ≠ 5 ∧ x.k ≠ 0
  | [], i, x, hx => by
    simp [extP] at hx; subst hx
    exact ⟨rfl, (by simp), (by simp)⟩
  | b :: bs, i, x, hx => by
    simp only [extP, List.mem_cons] at hx
    rcases hx with rfl | rfl | hx
    · exact ⟨rfl, (by simp), (by simp)⟩
    · exact ⟨rfl, (by simp), (by simp)⟩
    · exact extP_name n bs (i + 1) x hx

theorem extP_may (n : Nm) (hg : n.good = true) : ∀ (bs : List Int) (i : Nat) (p : List Sn), (∀ b ∈ bs, 0 ≤ b ∧ b < 32) → isC 0 n p = true → isC 3 n p = false → mayF p (extP n bs i) = true
  | [], i, p, _, h0, h3 => by
    simp [extP, mayF, stepOK, hg, h0, h3]
  | b :: bs, i, p, hb, h0, h3 => by
    have hb0 := hb b List.mem_cons_self
    have e2 : ∀ (v : V8) (q : List Sn), isC 0 n q = true → isC 3 n q = false → isC 0 n (q ++ [⟨2, n, b, v, 0⟩]) = true ∧ isC 3 n (q ++ [⟨2, n, b, v, 0⟩]) = false := fun v q a c => by
      refine ⟨by rw [isC_append, a]; rfl, by rw [isC_append, c, isC_one]; simp [hit]⟩
    have e1 : ∀ (v : V8) (q : List Sn), isC 0 n q = true → isC 3 n q = false → isC 0 n (q ++ [⟨1, n, b, v, 0⟩]) = true ∧ isC 3 n (q ++ [⟨1, n, b, v, 0⟩]) = false := fun v q a c => by
      refine ⟨by rw [isC_append, a]; rfl, by rw [isC_append, c, isC_one]; simp [hit]⟩
    simp only [extP, mayF]
    obtain ⟨a1, a2⟩ := e2 ⟨(1 + i : Nat), 0, 0, 0, 0, 0, 0, 0⟩ p h0 h3
    obtain ⟨b1, b2⟩ := e1 z0 _ a1 a2
    rw [extP_may n hg bs (i + 1) _ (fun c hc => hb c (List.mem_cons_of_mem _ hc)) b1 b2]
    simp only [stepOK, hg, h0, h3, a1, a2]
    simp [hb0]

theorem idxN_none (n : Nm) : ∀ (l : List Sn) (k : Nat), (∀ x ∈ l, x.n ≠ n) → idxN n l k = []
  | [], _, _ => rfl
  | x :: l, k, h => by
    unfold idxN
    rw [if_neg (h x List.mem_cons_self)]
    exact idxN_none n l (k + 1) fun y hy => h y (List.mem_cons_of_mem _ hy)

theorem emit_longer (l r : List Sn) (ns : List Nm) : ∀ (ps : List (Nm × Nat)) (h : List Sn), (∀ p ∈ ps, p.2 < l.length) → emit (l ++ r) ns ps h = emit l ns ps h
  | [], _, _ => rfl
  | (n, i) :: ps, h, hp => by
    have hi : i < l.length := hp (n, i) List.mem_cons_self
    have hp' : ∀ p ∈ ps, p.2 < l.length := fun p hq => hp p (List.mem_cons_of_mem _ hq)
    unfold emit
    rw [List.getElem?_append_left hi]
    cases l[i]? with
    | none => exact emit_longer l r ns ps h hp'
    | some x =>
      simp only
      split
      · exact emit_longer l r ns ps _ hp'
      · split
        · rw [emit_longer l r ns ps h hp']
          congr 1
          unfold ftOf
          rw [List.take_append_of_le_length (by omega)]
        · exact emit_longer l r ns ps h hp'

theorem grow_law {l : List Sn} {n : Nm} {bs : List Int} (hn : ∀ x ∈ l, x.n ≠ n) (hb : ∀ b ∈ bs, 0 ≤ b ∧ b < 32) :
    (n.good = false → mayP (l ++ ⟨0, n, 0, z0, 0⟩ :: extP n bs 0) = false) ∧
    (n.good = true → mayP (l ++ ⟨0, n, 0, z0, 0⟩ :: extP n bs 0) = mayP l) ∧
    wrongP (l ++ ⟨0, n, 0, z0, 0⟩ :: extP n bs 0) = wrongP l := by
  have hC : ∀ k, isC k n l = false := fun k => by
    cases h : isC k n l with
    | false => rfl
    | true =>
      obtain ⟨x, hx, _, e⟩ := isC_mem.1 h
      exact absurd e (hn x hx)
  have hmay : mayP (l ++ ⟨0, n, 0, z0, 0⟩ :: extP n bs 0) = (mayP l && mayF l (⟨0, n, 0, z0, 0⟩ :: extP n bs 0)) := by
    unfold mayP
    rw [mayF_app]
    rfl
  refine ⟨fun hg => ?_, fun hg => ?_, ?_⟩
  · rw [hmay, mayF]
    simp [stepOK, hg]
  · rw [hmay, mayF]
    have h1 : isC 0 n (l ++ [⟨0, n, 0, z0, 0⟩]) = true := by rw [isC_append, isC_one]; simp [hit]
    have h3 : isC 3 n (l ++ [⟨0, n, 0, z0, 0⟩]) = false := by rw [isC_append, isC_one, hC]; simp [hit]
    rw [extP_may n hg bs 0 _ hb h1 h3]
    simp [stepOK, hg, hC]
  · have hr : ∀ x ∈ (⟨0, n, 0, z0, 0⟩ :: extP n bs 0 : List Sn), x.n = n ∧ x.k ≠ 5 := fun x hx => by
      rcases List.mem_cons.1 hx with rfl | hx
      · exact ⟨rfl, (by simp)⟩
      · exact ⟨(extP_name n bs 0 x hx).1, (extP_name n bs 0 x hx).2.1⟩
    generalize (⟨0, n, 0, z0, 0⟩ :: extP n bs 0 : List Sn) = r at hr ⊢
    have h5 : ∀ m, isC 5 m (l ++ r) = isC 5 m l := fun m => by
      rw [isC_append]
      have : isC 5 m r = false := by
        cases h : isC 5 m r with
        | false => rfl
        | true =>
          obtain ⟨x, hx, e, _⟩ := isC_mem.1 h
          exact absurd e (hr x hx).2
      rw [this, Bool.or_false]
    have ho : ordR (l ++ r) = ordR l := by
      unfold ordR
      rw [List.filter_append, List.map_append]
      have e1 : (l.filter fun x => decide (x.k = 3) && isC 5 x.n (l ++ r)) = l.filter fun x => decide (x.k = 3) && isC 5 x.n l := by
        congr 1; funext x; rw [h5]
      have e2 : (r.filter fun x => decide (x.k = 3) && isC 5 x.n (l ++ r)) = [] := filter_nil fun x hx => by
        rw [h5, (hr x hx).1, hC]; simp
      rw [e1, e2]; simp
    have hon : ∀ m ∈ ordR l, m ≠ n := fun m hm e => by
      unfold ordR at hm
      obtain ⟨x, hx, rfl⟩ := List.mem_map.1 hm
      exact hn x (List.mem_filter.1 hx).1 e
    have hps : pairsP (l ++ r) (ordR l) = pairsP l (ordR l) := by
      unfold pairsP
      have : ∀ ns : List Nm, (∀ m ∈ ns, m ≠ n) → (ns.flatMap fun n => (idxN n (l ++ r) 0).map fun i => (n, i)) = ns.flatMap fun n => (idxN n l 0).map fun i => (n, i) := by
        intro ns
        induction ns with
        | nil => intro _; rfl
        | cons m ns ih =>
          intro h
          rw [List.flatMap_cons, List.flatMap_cons, ih (fun q hq => h q (List.mem_cons_of_mem _ hq)), idxN_app, idxN_none m r _ (fun x hx e => h m List.mem_cons_self (by rw [← e, (hr x hx).1])), List.append_nil]
      exact this _ hon
    unfold wrongP readsP
    rw [ho, hps, emit_longer]
    intro p hp
    obtain ⟨m, i⟩ := p
    obtain ⟨_, x, hx, _⟩ := pairs_mem hp
    exact (List.getElem?_eq_some_iff.1 hx).1

end Go.Proofs.Ytgdmgeihgkbjaaa
/- 'witness.Count' -/
namespace Go.Proofs.Ytgdmgeihgkbjaaa
open Go.RowKit Go.Shelf
attribute [local go_sem] Oper.semAt_some

/-- How many faults of each kind. -/
def kdP (fs : List Ft) : List Int := [((fs.countP fun f => decide (f.k = 0) : Nat) : Int), ((fs.countP fun f => decide (f.k = 1) : Nat) : Int), ((fs.countP fun f => decide (f.k = 2) : Nat) : Int), ((fs.countP fun f => decide (f.k = 3) : Nat) : Int), ((fs.countP fun f => decide (f.k = 4) : Nat) : Int)]
def kdA (ks : List Int) : Array Value := (ks.map fun c => Value.int .i64 c).toArray
def kd0 : List Int := [0, 0, 0, 0, 0]

theorem kdP_length (fs : List Ft) : (kdP fs).length = 5 := rfl
theorem kdA_size (ks : List Int) : (kdA ks).size = ks.length := by simp [kdA]
theorem kdP_snoc (fs : List Ft) (x : Ft) (h0 : 0 ≤ x.k) (h4 : x.k ≤ 4) : kdP (fs ++ [x]) = (kdP fs).set x.k.toNat (((kdP fs)[x.k.toNat]?.getD 0) + 1) := by
  have hk : x.k = 0 ∨ x.k = 1 ∨ x.k = 2 ∨ x.k = 3 ∨ x.k = 4 := by omega
  unfold kdP
  rcases hk with h | h | h | h | h <;> rw [h] <;> simp [List.countP_append, h]

theorem kdP_le (fs : List Ft) : ∀ c ∈ kdP fs, 0 ≤ c ∧ c ≤ (fs.length : Int) := by
  intro c hc
  simp only [kdP, List.mem_cons, List.not_mem_nil, or_false] at hc
  rcases hc with rfl | rfl | rfl | rfl | rfl
  all_goals
    refine ⟨by omega, ?_⟩
    exact Int.ofNat_le.2 List.countP_le_length

theorem run_store1 {w : World} {B j : Nat} {cs : List Value} {t : TypeId} (x : Int) (h : w.heap[B]? = some (.cells cs.toArray t (0, 0))) (hj : j < cs.length) :
    (storeVar 3 ⟨B, j, none⟩ (.int .i64 x)).run Try.prog w = .ok () (w.setRow B (cs.set j (.int .i64 x)).toArray) := by
  have h' := run_storeCells_row (P := Try.prog) w B j cs t [.int .i64 x] h (by simp; omega) (by intro c hc; simp at hc; subst hc; rfl)
  have hs : ((Value.int .i64 x).cells.size ≠ 1) = False := by simp [Value.cells]
  have e : splice cs j [Value.int .i64 x] = cs.set j (.int .i64 x) := by
    unfold splice
    rw [List.set_eq_take_append_cons_drop, if_pos hj]
    simp
  rw [e] at h'
  simp only [storeVar, Sem.run_bind, Try.sizeOf3, Result.andThen_ok, hs, if_false]
  exact h'

theorem st_b1 {w : World} {B : Nat} {u : Value} (x : Int) (h : Boxed w B 3 u) : (storeVar 3 ⟨B, 0, none⟩ (.int .i64 x)).run Try.prog w = .ok () (w.setRow B #[.int .i64 x]) := by
  have := run_store1 (w := w) (B := B) (j := 0) (cs := [u]) (t := 3) x h (by simp)
  simpa using this

theorem st_kd1 {w : World} {B j : Nat} {ks : List Int} {t : TypeId} (x : Int) (h : w.heap[B]? = some (.cells (kdA ks) t (0, 0))) (hj : j < ks.length) : (storeVar 3 ⟨B, j, none⟩ (.int .i64 x)).run Try.prog w = .ok () (w.setRow B (kdA (ks.set j x))) := by
  have := run_store1 (w := w) (B := B) (j := j) (cs := ks.map fun c => Value.int .i64 c) (t := t) x h (by simpa using hj)
  rw [this]
  unfold kdA
  rw [List.map_set]

theorem info68 : (Try.prog.info? 68).map (·.size) = some 5 := by kernel_rfl

theorem kdA_one (ks : List Int) : (kdA ks).all (·.oneCell') = true := by
  rw [Array.all_eq_true_iff_forall_mem]
  intro v hv
  simp [kdA] at hv
  obtain ⟨c, _, rfl⟩ := hv
  rfl

theorem ld_kd {w : World} {B : Nat} {ks : List Int} {t : TypeId} {fr : Nat × Nat} (h : w.heap[B]? = some (.cells (kdA ks) t fr)) (hk : ks.length = 5) : (loadVar 68 ⟨B, 0, none⟩).run Try.prog w = .ok (.agg (kdA ks)) w :=
  run_loadVar_row w B t 68 (kdA ks) fr _ h Try.underlying68 rfl (by rw [kdA_size, hk]; exact info68)

theorem st_kd {w : World} {B : Nat} {ks : List Int} (ks' : List Int) {t : TypeId} (h : w.heap[B]? = some (.cells (kdA ks) t (0, 0))) (hk : ks.length = 5) (hk' : ks'.length = 5) : (storeVar 68 ⟨B, 0, none⟩ (.agg (kdA ks'))).run Try.prog w = .ok () (w.setRow B (kdA ks')) :=
  run_storeVar_row w B t 68 (kdA ks) (kdA ks') h (by rw [kdA_size, hk']; exact info68) (by rw [kdA_size, kdA_size, hk, hk']) (kdA_one ks')

theorem kd_at {w : World} {B j : Nat} {ks : List Int} {c : Int} {t : TypeId} {fr : Nat × Nat} (h : w.heap[B]? = some (.cells (kdA ks) t fr)) (hj : ks[j]? = some c) : w.cell? ⟨B, j, none⟩ = some (.int .i64 c) := by
  rw [cell_of_row w B _ _ t fr h]
  simp [kdA, hj]

/-- The three cells of Count's results. -/
structure CtC (w : World) (r s : Int) (ks : List Int) (W : World) : Prop where
  b0 : Boxed W w.heap.size 3 (.int .i64 r)
  b1 : Boxed W (w.heap.size + 1) 3 (.int .i64 s)
  b2 : W.heap[w.heap.size + 2]? = some (.cells (kdA ks) 68 (0, 0))
  below : Below w.heap.size w W

theorem CtC.set0 {w : World} {r s : Int} {ks : List Int} {W : World} (h : CtC w r s ks W) (r' : Int) : CtC w r' s ks (W.setRow w.heap.size #[.int .i64 r']) :=
  ⟨setRow_heap _ _ _ _ _ _ h.b0, cells_turn h.b1 (grownBy_setRow _ _ _) (by omega), cells_turn h.b2 (grownBy_setRow _ _ _) (by omega), h.below.grown (grownBy_setRow _ _ _) h.below.size (fun k e => by cases e; omega)⟩
theorem CtC.set1 {w : World} {r s : Int} {ks : List Int} {W : World} (h : CtC w r s ks W) (s' : Int) : CtC w r s' ks (W.setRow (w.heap.size + 1) #[.int .i64 s']) :=
  ⟨cells_turn h.b0 (grownBy_setRow _ _ _) (by omega), setRow_heap _ _ _ _ _ _ h.b1, cells_turn h.b2 (grownBy_setRow _ _ _) (by omega), h.below.grown (grownBy_setRow _ _ _) h.below.size (fun k e => by cases e; omega)⟩
theorem CtC.set2 {w : World} {r s : Int} {ks : List Int} {W : World} (h : CtC w r s ks W) (ks' : List Int) : CtC w r s ks' (W.setRow (w.heap.size + 2) (kdA ks')) :=
  ⟨cells_turn h.b0 (grownBy_setRow _ _ _) (by omega), cells_turn h.b1 (grownBy_setRow _ _ _) (by omega), setRow_heap _ _ _ _ _ _ h.b2, h.below.grown (grownBy_setRow _ _ _) h.below.size (fun k e => by cases e; omega)⟩
theorem CtC.far {w : World} {r s : Int} {ks : List Int} {W W' : World} (h : CtC w r s ks W) {lo : Nat} (hlo : w.heap.size + 3 ≤ lo) {row : Option Nat} (hg : W.grownBy W' row) (hr : ∀ k, row = some k → lo ≤ k) : CtC w r s ks W' :=
  ⟨(hg.block _ (lt_of_heap h.b0) (fun e => by have := hr _ e.symm; omega)).trans h.b0, (hg.block _ (lt_of_heap h.b1) (fun e => by have := hr _ e.symm; omega)).trans h.b1, (hg.block _ (lt_of_heap h.b2) (fun e => by have := hr _ e.symm; omega)).trans h.b2, h.below.grown hg h.below.size (fun k e => by have := hr k e; omega)⟩

structure CtI (w wS : World) (ys : List Ft) (b k : Nat) (A : World) : Prop where
  ct : CtC w (k : Int) ((((ys.take k).filter fun f => decide (f.want ≠ f.got)).length : Nat) : Int) (kdP ((ys.take k).filter fun f => decide (f.want ≠ f.got))) A
  hb : wS.heap.size + 2 ≤ b
  hsz : b ≤ A.heap.size

theorem CtI.own {w wS : World} {ys : List Ft} {b k : Nat} {A A' : World} (h : CtI w wS ys b k A) (hs : w.heap.size + 3 ≤ wS.heap.size) (ht : OwnTurn wS.heap.size b A A') : CtI w wS ys b k A' := by
  obtain ⟨row, hg, hr⟩ := ht
  exact ⟨h.ct.far hs hg (fun r e => (hr r e).1), h.hb, Nat.le_trans h.hsz hg.size⟩

theorem op_stF {o : Oper} {a : Act} {w w' : World} {K : Act → World → Prop} {Q : Exit → Act → World → Prop} (ty : TypeId) (x y : Operand) (ho : o.op = .store ty x y)
    (ad : Addr) (hx : a.eval x = .pointer (some ad)) (v : Value) (hy : a.eval y = v) (hl : (storeVar ty ad v).run Try.prog w = .ok () w') (h : K (a.put o.dst undef) w') : o.wp Try.prog a w K Q := by
  unfold Oper.wp execOp
  simp only [ho, hx, hy, Instr.storeAt, Instr.sureAddr, Sem.run_bind, Sem.run_pure, Result.andThen_ok, hl]
  exact h

theorem frame_late {L : Nat → Bool} {a : Act} {ps : List (Nat × Nat × Value)} {k d : Nat} {v u : Value} (h1 : slotOf ps d = some (k, v)) (hL : L k = false) (h2 : a.tmps[d]? = some u) : (frameOf L a ps).tmps[d]? = some u := by
  rw [frame_get, h1, h2]
  simp [hL]

theorem results_ccct {P : Program} {fn : Func} {p q r t : Tmp} {ty uy sy : TypeId} (h : fn.results = #[.cell p ty, .cell q uy, .cell r sy, .tmp t]) {tmps : Array Value} {w : World} {a b c : Addr} {u v z x : Value} (hp : tmps.getD p undef = .pointer (some a)) (ha : (loadVar ty a).run P w = .ok u w)
    (hq : tmps.getD q undef = .pointer (some b)) (hb : (loadVar uy b).run P w = .ok v w) (hr : tmps.getD r undef = .pointer (some c)) (hc : (loadVar sy c).run P w = .ok z w) (ht : tmps.getD t undef = x) : (results fn tmps).run P w = .ok (.tuple #[u, v, z, x]) w := by
  rw [Array.getD_eq_getD_getElem?] at hp hq hr ht
  simp [results, h, hp, hq, hr, ht, asAddr, ha, hb, hc]

theorem ld_b1 {w : World} {B : Nat} {x : Int} (h : Boxed w B 3 (.int .i64 x)) : (loadVar 3 ⟨B, 0, none⟩).run Try.prog w = .ok (.int .i64 x) w := by
  have hc := h.cell
  simp [go_sem, hc]

theorem ct_start (w : World) : CtC w 0 0 kd0 (((w.alloc (.cells #[.int .i64 0] 3)).alloc (.cells #[.int .i64 0] 3)).alloc (.cells (kdA kd0) 68)) := by
  obtain ⟨w1, h1⟩ : ∃ w1, w.alloc (.cells #[.int .i64 0] 3) = w1 := ⟨_, rfl⟩
  obtain ⟨w2, h2⟩ : ∃ w2, w1.alloc (.cells #[.int .i64 0] 3) = w2 := ⟨_, rfl⟩
  have s1 : w1.heap.size = w.heap.size + 1 := by rw [← h1]; simp
  have s2 : w2.heap.size = w.heap.size + 2 := by rw [← h2]; simp [s1]
  have a0 : w1.heap[w.heap.size]? = some (.cells #[.int .i64 0] 3 (0, 0)) := h1 ▸ heap_alloc_new w _
  have a1 : w2.heap[w1.heap.size]? = some (.cells #[.int .i64 0] 3 (0, 0)) := h2 ▸ heap_alloc_new w1 _
  have b1 : Below w1.heap.size w1 w2 := h2 ▸ below_alloc1 _
  have b0 : Below w.heap.size w w1 := h1 ▸ below_alloc1 _
  have b2 : Below w2.heap.size w2 (w2.alloc (.cells (kdA kd0) 68)) := below_alloc1 _
  rw [h1, h2]
  have a2 : (w2.alloc (.cells (kdA kd0) 68)).heap[w2.heap.size]? = some (.cells (kdA kd0) 68 (0, 0)) := heap_alloc_new w2 _
  refine ⟨?_, ?_, by rw [← s2]; exact a2, b0.trans ((b1.trans (b2.mono b1.size)).mono b0.size)⟩
  · exact (b2.block _ (by omega)).trans ((b1.block _ (by omega)).trans a0)
  · rw [← s1]
    exact (b2.block _ (by omega)).trans a1

set_option maxRecDepth 100000 in
set_option maxHeartbeats 4000000 in
theorem count_err (l : List Sn) (v : Value) (w : World) (hl : l.length ≤ 100000) (hv : Sns w.heap.size w v l) (hm : mayP l = false) :
    Calls Try.prog 39 #[v] w fun e w' => e = .returned (.tuple #[.int .i64 0, .int .i64 0, .agg (kdA kd0), .int .i64 2]) ∧ Below w.heap.size w w' := by
  have hct := ct_start w
  obtain ⟨w1, hw1⟩ : ∃ w1, ((w.alloc (.cells #[.int .i64 0] 3)).alloc (.cells #[.int .i64 0] 3)).alloc (.cells (kdA kd0) 68) = w1 := ⟨_, rfl⟩
  rw [hw1] at hct
  have hw1' : ((w.alloc (.cells #[.int .i64 0] 3)).alloc (.cells #[.int .i64 0] 3)).alloc (.cells #[.int .i64 0, .int .i64 0, .int .i64 0, .int .i64 0, .int .i64 0] 68) = w1 := hw1
  have HC := Lib.hid (look_any l v w1 hl ((hv.below hct.below).mono hct.below.size))
  obtain ⟨va, vc, rfl, _, _⟩ := hv
  have HW1 := Lib.hid hw1'
  have HCT := Lib.hid hct
  have HM := Lib.hid hm
  clear hw1 hw1' hct hm
  go_enter Try.func39, Try.ntmps39
  go_upto_region 1 with (fail)
  rw [HW1.out]
  go_wp2_with fail
  refine HC.out.mono ?_
  rintro e w2 ⟨h, b2⟩
  rcases h with ⟨_, rfl⟩ | ⟨h2, _⟩
  · have HC2 : Hid (CtC w 0 0 kd0 w2) := Lib.hid (HCT.out.far (lo := w1.heap.size) (by have := lt_of_heap HCT.out.b2; omega) (grownBy_of_below b2 (row := none)) (fun k e => by cases e))
    clear b2 HC HCT
    go_upto_region 3 with (fail)
    refine wp_region_frame mixed (by kernel_rfl) [(0, 15, .agg (kdA kd0)), (1, 16, .int .i64 2), (5, 5, .int .i64 2)] (fun L Wx => CtC w 0 0 kd0 Wx) ?_ ?_ (by rfl) (by rfl) ?_
    · exact HC2.out.far (lo := w.heap.size + 3) (Nat.le_refl _) (grownBy_of_below (Below.refl _ _).drew (row := none)) (fun k e => by cases e)
    · intro a0 ps ha0 hps
      have hsz : a0.tmps.size = 38 := by rw [ha0]; rfl
      have u2 : a0.tmps[2]? = some (.pointer (some ⟨w.heap.size, 0, none⟩)) := by rw [ha0]; rfl
      have u3 : a0.tmps[3]? = some (.pointer (some ⟨w.heap.size + 1, 0, none⟩)) := by rw [ha0]; rfl
      have u4 : a0.tmps[4]? = some (.pointer (some ⟨w.heap.size + 2, 0, none⟩)) := by rw [ha0]; rfl
      have n2 : slotOf ps 2 = none := by rw [hps]; rfl
      have n3 : slotOf ps 3 = none := by rw [hps]; rfl
      have n4 : slotOf ps 4 = none := by rw [hps]; rfl
      have k15 : slotOf ps 15 = some (0, .agg (kdA kd0)) := by rw [hps]; rfl
      have q15 : keysOK ps 0 15 = true := by rw [hps]; rfl
      have k16 : slotOf ps 16 = some (1, .int .i64 2) := by rw [hps]; rfl
      have q16 : keysOK ps 1 16 = true := by rw [hps]; rfl
      have z2 : (ps.all fun p => !(p.1 == 2)) = true := by rw [hps]; rfl
      have z3 : (ps.all fun p => !(p.1 == 3)) = true := by rw [hps]; rfl
      have z4 : (ps.all fun p => !(p.1 == 4)) = true := by rw [hps]; rfl
      have k5 : slotOf ps 5 = some (5, .int .i64 2) := by rw [hps]; rfl
      have q5 : keysOK ps 5 5 = true := by rw [hps]; rfl
      have u5 : a0.tmps[5]? = some (.int .i64 2) := by rw [ha0]; rfl
      clear ha0 hps
      refine ⟨?_, ?_, ?_, ?_, ?_, ?_, trivial⟩
      · rintro L _ Wx ⟨rfl, hT⟩ hcl hk hd
        rw [if_pos (by simp [Region.wanted])]
        refine op_loadF 68 (.tmp 4) rfl ⟨w.heap.size + 2, 0, none⟩ (by rw [frame_oute n4 u4]) (.agg (kdA kd0)) (ld_kd hT.b2 rfl) ⟨frame_put (k15) (q15), ?_⟩
        simpa [upd] using hT
      · rintro L _ Wx ⟨rfl, hT⟩ hcl hk hd
        have hN : L 5 = false := by
          cases hh : L 5 with
          | false => rfl
          | true =>
            have h1 := hcl 5 _ rfl (by simp [hh])
            simp [Region.binds] at h1
            simp [hk] at h1
        rw [if_pos (by simp [Region.wanted])]
        refine op_value (v := .int .i64 2) (w' := Wx) (by simp [execOp, go_sem, frame_late k5 hN u5]) ⟨frame_put (k16) (q16), ?_⟩
        simpa [upd] using hT
      · rintro L _ Wx ⟨rfl, hT⟩ hcl hk hd
        rw [if_pos (by simp [Region.wanted])]
        refine op_stF 3 (.tmp 2) (.const (.int .i64 0)) rfl ⟨w.heap.size, 0, none⟩ (by rw [frame_oute n2 u2]) (.int .i64 0) rfl (st_b1 0 hT.b0) ⟨frame_putNone (z2), ?_⟩
        exact hT.set0 0
      · rintro L _ Wx ⟨rfl, hT⟩ hcl hk hd
        rw [if_pos (by simp [Region.wanted])]
        refine op_stF 3 (.tmp 3) (.const (.int .i64 0)) rfl ⟨w.heap.size + 1, 0, none⟩ (by rw [frame_oute n3 u3]) (.int .i64 0) rfl (st_b1 0 hT.b1) ⟨frame_putNone (z3), ?_⟩
        exact hT.set1 0
      · rintro L _ Wx ⟨rfl, hT⟩ hcl hk hd
        have hL0 : L 0 = true := by have h := hd; simp [Region.binds] at h; simp [h]
        rw [if_pos (by simp [Region.wanted])]
        refine op_stF 68 (.tmp 4) (.tmp 15) rfl ⟨w.heap.size + 2, 0, none⟩ (by rw [frame_oute n4 u4]) (.agg (kdA kd0)) (by rw [frame_in k15 hL0 (Nat.lt_of_lt_of_eq (by decide : 15 < 38) hsz.symm)]) (st_kd kd0 hT.b2 rfl rfl) ⟨frame_putNone (z4), ?_⟩
        exact hT.set2 kd0
      · rintro L _ Wx ⟨rfl, hT⟩ hcl hk hd
        have hL1 : L 1 = true := by have h := hd; simp [Region.binds] at h; simp [h]
        rw [if_pos (by simp [Region.wanted])]
        refine op_value (v := .int .i64 2) (w' := Wx) (by simp [execOp, go_sem, frame_tmp (k16) hL1 (Nat.lt_of_lt_of_eq (by decide : 16 < 38) hsz.symm)]) ⟨frame_put (k5) (q5), ?_⟩
        simpa [upd] using hT
    · rintro L W' hT hall
      simp only [putAll, Act.put, List.setIfInBounds_toArray, List.set_cons_succ, List.set_cons_zero]
      go_wp2_with fail
      refine bodyPost_ret (v := .tuple #[.int .i64 0, .int .i64 0, .agg (kdA kd0), .int .i64 2]) (results_ccct Try.results39 rfl (ld_b1 hT.b0) rfl (ld_b1 hT.b1) rfl (ld_kd hT.b2 rfl) rfl) rfl ⟨rfl, hT.below⟩
  · rw [HM.out] at h2; cases h2

set_option maxRecDepth 100000 in
set_option maxHeartbeats 8000000 in
theorem count_ok (l : List Sn) (v : Value) (w : World) (hl : l.length ≤ 100000) (hv : Sns w.heap.size w v l) (hm : mayP l = true) :
    Calls Try.prog 39 #[v] w fun e w' => e = .returned (.tuple #[.int .i64 ((readsP l).length : Int), .int .i64 ((wrongP l).length : Int), .agg (kdA (kdP (wrongP l))), .int .i64 0]) ∧ Below w.heap.size w w' := by
  have hct := ct_start w
  obtain ⟨w1, hw1⟩ : ∃ w1, ((w.alloc (.cells #[.int .i64 0] 3)).alloc (.cells #[.int .i64 0] 3)).alloc (.cells (kdA kd0) 68) = w1 := ⟨_, rfl⟩
  have hs1 : w1.heap.size = w.heap.size + 3 := by rw [← hw1]; simp
  rw [hw1] at hct
  have hw1' : ((w.alloc (.cells #[.int .i64 0] 3)).alloc (.cells #[.int .i64 0] 3)).alloc (.cells #[.int .i64 0, .int .i64 0, .int .i64 0, .int .i64 0, .int .i64 0] 68) = w1 := hw1
  have HC := Lib.hid (look_any l v w1 hl ((hv.below hct.below).mono hct.below.size))
  have hva : ∃ a c, v = .slice a l.length c := by obtain ⟨a, c, h, _⟩ := hv; exact ⟨a, c, h⟩
  obtain ⟨va, vc, rfl⟩ := hva
  have HV := Lib.hid hv
  have HW1 := Lib.hid hw1'
  have HCT := Lib.hid hct
  have HM := Lib.hid hm
  have HS1 := Lib.hid hs1
  clear hw1 hw1' hct hm hs1 hv
  refine (callsIn_wide (n := 10)).1 ?_
  refine callsIn_of_wp_marks Try.func39 rfl trivial ?_ rfl
  simp only [Try.ntmps39, List.size_toArray, List.length_cons, List.length_nil, Nat.reduceAdd, Nat.reduceSub, Array.replicate_succ, Array.replicate_zero, List.push_toArray, List.append_toArray, List.nil_append, List.cons_append]
  gi_wp2_with fail
  refine ⟨trivial, ?_⟩
  rw [HW1.out]
  refine (callsIn_wide.2 HC.out).mono ?_
  rintro e w2 ⟨h, b2⟩
  rcases h with ⟨h2, _⟩ | ⟨_, Bv, rfl, hvw⟩
  · rw [HM.out] at h2; cases h2
  obtain ⟨na, nc, Mp, hBv, hMp, hbv, hmp, hnn, hnr⟩ := id hvw
  have HVW := Lib.hid hvw
  have hz1 : w1.heap.size ≤ w2.heap.size := b2.size
  have HC2 : Hid (CtC w 0 0 kd0 w2) := Lib.hid (HCT.out.far (lo := w1.heap.size) (by have := HS1.out; omega) (grownBy_of_below b2 (row := none)) (fun k e => by cases e))
  have HBV := Lib.hid hBv
  have HZ1 := Lib.hid hz1
  clear b2 hMp hbv hmp hnn hnr hvw hBv hz1 HC HCT
  gi_wp2_with fail
  refine ⟨trivial, ?_⟩
  refine (callsIn_wide.2 (reads59_any Bv w2)).mono ?_
  rintro e w3 ⟨rfl, hw3⟩
  have hb3 : Below w2.heap.size w2 w3 := hw3 ▸ below_alloc1 _
  have hz3 : w3.heap.size = w2.heap.size + 1 := by rw [← hw3]; simp
  have hbox3 : w3.heap[w2.heap.size]? = some (.cells #[.pointer (some ⟨Bv, 0, none⟩)] 98 (0, 0)) := hw3 ▸ heap_alloc_new w2 _
  have hc3 : CtC w 0 0 kd0 w3 := HC2.out.far (lo := w2.heap.size) (by have := HS1.out; have := HZ1.out; omega) (grownBy_of_below hb3 (row := none)) (fun k e => by cases e)
  have hz : w.heap.size + 3 ≤ w2.heap.size := by have := HS1.out; have := HZ1.out; omega
  have hseq := reads74_in 0 w2.heap.size Bv w.heap.size (w.heap.size + 3) none (.slice va l.length vc) l hl HM.out w3 (HV.out.below hc3.below) (by omega) (by omega) (fun b hb => by cases hb)
    (fun k hk => by
      obtain ⟨b, o, s, n, c, e, hc⟩ := hk
      cases e) (by omega) hbox3 (HVW.out.below hb3 (by have := HS1.out; omega))
  have HC3 := Lib.hid hc3
  clear hw3 hb3 hbox3 hc3
  gi_wp2_with fail
  refine wpIn_rangeX (n := 10) (by omega) (gf := 74) (lb := #[.pointer (some ⟨w2.heap.size, 0, none⟩)]) rfl (enters_of Try.func74 (by kernel_rfl) rfl) (encs := fun f => #[.agg (ftArr f)]) (Kp := KeepR w.heap.size (w.heap.size + 3) none) (ys := readsP l) (w0 := w3) hseq (Below.refl _ _) (fun _ => rfl)
    (fun h1 h2 => h1.trans h2) (fun A r r' h => KeepR.book (w := w3) (fun b hb => by cases hb) A (w3.heap.size + 1) _ _ (by omega) h rfl rfl)
    (fun b k A => CtI w w3 (readsP l) b k A)
    (fun W1 h1 h2 => ⟨HC3.out.far (lo := w3.heap.size) (by omega) (grownBy_of_below h1 (row := none)) (fun k e => by cases e), h2, Nat.le_refl _⟩)
    (fun b k A A' h ht => h.own (by omega) ht)
    (fun x a' A => ∃ Bx, w3.heap.size + 2 ≤ Bx ∧ A.heap[Bx]? = some (.cells (ftArr x) 59 (0, 0)) ∧ a' = { tmps := #[.slice va l.length vc, undef, .pointer (some ⟨w.heap.size, 0, none⟩), .pointer (some ⟨w.heap.size + 1, 0, none⟩), .pointer (some ⟨w.heap.size + 2, 0, none⟩), .int .i64 0, .pointer (some ⟨Bv, 0, none⟩), .pointer (some ⟨Bx, 0, none⟩), .tuple #[.pointer (some ⟨Bv, 0, none⟩), .int .i64 0], .slice va l.length vc, .tuple #[.pointer (some ⟨Bv, 0, none⟩), .int .i64 0], .pointer (some ⟨Bv, 0, none⟩), .int .i64 0, .int .i64 0, .bool false, undef, undef, .pointer (some ⟨Bv, 0, none⟩), .func (.func 74) #[] #[.pointer (some ⟨w2.heap.size, 0, none⟩)], .agg (ftArr x), undef, undef, undef, undef, undef, undef, undef, undef, undef, undef, undef, undef, undef, undef, undef, undef, undef, undef], defers := [] })
    (fun x a' A r ⟨Bx, h1, h2, h3⟩ => ⟨Bx, h1, (World.putObj_heap_other (by omega)).trans h2, h3⟩) ?assign ?body ?done
  case assign =>
    rintro lp b k x A K hx hI hK hlt
    gi_wp2_with (refine wpListIn_store rfl 59 (.tmp 7) (.tmp 19) rfl ⟨A.heap.size, 0, none⟩ rfl (.agg (ftArr x)) rfl (st_ft A x) ?_)
    refine hK _ _ ?_ ?_ ?_ ?_
    · exact fun j hj => Below.heap_alloc A _ j (by rcases hj with rfl | rfl <;> omega)
    · exact KeepR.below (below_alloc1 _) (fun b hb => by cases hb)
    · exact hI.own (by omega) ⟨none, World.grownBy_alloc A _ none, fun r e => by cases e⟩
    · exact ⟨A.heap.size, by omega, heap_alloc_new A _, rfl⟩
  case body =>
    rintro lp b k x a' A hx hI ⟨Bx, hBx, hbx, rfl⟩ hlt hlb
    have hst := wr_step hx
    have hkl : k < (readsP l).length := (List.getElem?_eq_some_iff.1 hx).1
    have hkb : k ≤ 10000000000 := by have := reads_length hl; omega
    have hct := hI.ct
    have hc0 := hct.b0.cell
    -- the count of reads
    obtain ⟨A1, hA1⟩ : ∃ A1, A.setRow w.heap.size #[.int .i64 ((k : Int) + 1)] = A1 := ⟨_, rfl⟩
    have hct1 : CtC w ((k : Int) + 1) _ _ A1 := hA1 ▸ hct.set0 ((k : Int) + 1)
    have hg1 : A.grownBy A1 (some w.heap.size) := hA1 ▸ grownBy_setRow _ _ _
    have hbx1 : A1.heap[Bx]? = some (.cells (ftArr x) 59 (0, 0)) := cells_turn hbx hg1 (by omega)
    obtain ⟨d0, d1, d2, d3, d4, d5, d6, d7, d8, d9, d10, d11, d12, d13, d14, d15⟩ := ft_at hbx1
    have hq := fun w => neq_v8 x.want x.got w
    have HS0 := Lib.hid (st_b1 ((k : Int) + 1) hct.b0)
    have HA1 := Lib.hid hA1
    have HC1 := Lib.hid hct1
    have HG1 := Lib.hid hg1
    have HBX1 := Lib.hid hbx1
    have hBb := hI.hb
    have hAb := hI.hsz
    have hx2 := List.mem_of_getElem? hx
    have hR1 : Rnd w.heap.size (w.heap.size + 3) none A A1 := Rnd.turn hg1 (Nat.le_refl _) (by omega) (fun b hb => by cases hb)
    have HR1 := Lib.hid hR1
    clear hA1 hct1 hg1 hbx1 hct hI hbx hseq hR1 hx
    by_cases hne : x.want = x.got
    · have hd : decide (x.want = x.got) = true := by simpa using hne
      rw [if_pos hne, List.append_nil] at hst
      have HST := Lib.hid hst
      clear hne hst hx2
      gi_wp2_with (refine wpListIn_store rfl 3 (.tmp 2) (.tmp 21) rfl ⟨w.heap.size, 0, none⟩ rfl (.int .i64 ((k : Int) + 1)) rfl HS0.out ?_; rw [HA1.out])
      refine ⟨fun j hj => HG1.out.block j (by rcases hj with rfl | rfl <;> omega) (fun e => by cases e; rcases hj with hj | hj <;> omega), ⟨HR1.out.keep, fun _ k' hk' => by obtain ⟨_, _, _, _, _, e, _⟩ := hk'; cases e⟩, ⟨?_, hBb, Nat.le_trans hAb HG1.out.size⟩⟩
      rw [HST.out]
      exact_mod_cast HC1.out
    · have hd : decide (x.want = x.got) = false := by simpa using hne
      have hxw : x ∈ wrongP l := List.mem_filter.2 ⟨hx2, by simp [hne]⟩
      obtain ⟨bi, bx, hbo⟩ := blame_ok HM.out hxw
      have hk0 := hbo.k0
      have hk4 := hbo.k4
      rw [if_neg hne] at hst
      have hyl : ((readsP l).take k).length ≤ 10000000000 := by have := reads_length hl; rw [List.length_take]; omega
      have hfl : (((readsP l).take k).filter fun f => decide (f.want ≠ f.got)).length ≤ 10000000000 := Nat.le_trans (List.length_filter_le _ _) hyl
      have hks := kdP_snoc (((readsP l).take k).filter fun f => decide (f.want ≠ f.got)) x hk0 hk4
      have HST := Lib.hid hst
      clear hne hst hbo hxw hyl
      generalize hxs : ((readsP l).take k).filter (fun f => decide (f.want ≠ f.got)) = xs at *
      have hkl5 := kdP_length xs
      obtain ⟨c, hc⟩ : ∃ c, (kdP xs)[x.k.toNat]? = some c := ⟨_, List.getElem?_eq_getElem (by omega)⟩
      rw [hc] at hks
      have hcb := kdP_le xs c (List.mem_of_getElem? hc)
      have hcc := kd_at HC1.out.b2 hc
      obtain ⟨A2, hA2⟩ : ∃ A2, A1.setRow (w.heap.size + 2) (kdA ((kdP xs).set x.k.toNat (c + 1))) = A2 := ⟨_, rfl⟩
      have hct2 : CtC w ((k : Int) + 1) _ ((kdP xs).set x.k.toNat (c + 1)) A2 := hA2 ▸ HC1.out.set2 ((kdP xs).set x.k.toNat (c + 1))
      have hg2 : A1.grownBy A2 (some (w.heap.size + 2)) := hA2 ▸ grownBy_setRow _ _ _
      have hc2 := hct2.b1.cell
      have HS2 := Lib.hid (st_kd1 (c + 1) HC1.out.b2 (show x.k.toNat < (kdP xs).length by omega))
      have HA2 := Lib.hid hA2
      obtain ⟨A3, hA3⟩ : ∃ A3, A2.setRow (w.heap.size + 1) #[.int .i64 ((xs.length : Int) + 1)] = A3 := ⟨_, rfl⟩
      have hct3 : CtC w ((k : Int) + 1) ((xs.length : Int) + 1) ((kdP xs).set x.k.toNat (c + 1)) A3 := hA3 ▸ hct2.set1 ((xs.length : Int) + 1)
      have hg3 : A2.grownBy A3 (some (w.heap.size + 1)) := hA3 ▸ grownBy_setRow _ _ _
      have HS3 := Lib.hid (st_b1 ((xs.length : Int) + 1) hct2.b1)
      have HA3 := Lib.hid hA3
      have HC3' := Lib.hid hct3
      have HKS := Lib.hid hks
      have hkc : A1.cell? ⟨Bx, 27, none⟩ = some (.int .i8 x.k) := by rw [cell_of_row A1 Bx _ _ 59 (0, 0) HBX1.out]; rfl
      have hR2 : Rnd w.heap.size (w.heap.size + 3) none A A3 := (HR1.out.trans (Rnd.turn hg2 (by omega) (by omega) (fun b hb => by cases hb))).trans (Rnd.turn hg3 (by omega) (by omega) (fun b hb => by cases hb))
      have HR2 := Lib.hid hR2
      have HGG : Hid (∀ j, w3.heap.size ≤ j → j < A.heap.size → A3.heap[j]? = A.heap[j]?) := Lib.hid (fun j hj hjl => by
        have e1 := HG1.out.block j hjl (fun e => by cases e; omega)
        have e2 := hg2.block j (by have := HG1.out.size; omega) (fun e => by cases e; omega)
        have e3 := hg3.block j (by have := HG1.out.size; have := hg2.size; omega) (fun e => by cases e; omega)
        exact e3.trans (e2.trans e1))
      have HSZ : Hid (A.heap.size ≤ A3.heap.size) := Lib.hid (Nat.le_trans HG1.out.size (Nat.le_trans hg2.size hg3.size))
      clear hA2 hct2 hg2 hA3 hct3 hg3 hks hR2 hc hxs
      gi_wp2_with (first | (refine wpListIn_store rfl 3 (.tmp 2) (.tmp 21) rfl ⟨w.heap.size, 0, none⟩ rfl (.int .i64 ((k : Int) + 1)) rfl HS0.out ?_; rw [HA1.out]) | (refine wpListIn_store rfl 3 (.tmp 32) (.tmp 31) rfl ⟨w.heap.size + 2, x.k.toNat, none⟩ rfl (.int .i64 (c + 1)) rfl HS2.out ?_; rw [HA2.out]) | (refine wpListIn_store rfl 3 (.tmp 3) (.tmp 34) rfl ⟨w.heap.size + 1, 0, none⟩ rfl (.int .i64 ((xs.length : Int) + 1)) rfl HS3.out ?_; rw [HA3.out]))
      refine ⟨fun j hj => HGG.out j (by rcases hj with rfl | rfl <;> omega) (by rcases hj with rfl | rfl <;> omega), ⟨HR2.out.keep, fun _ k' hk' => by obtain ⟨_, _, _, _, _, e, _⟩ := hk'; cases e⟩, ⟨?_, hBb, Nat.le_trans hAb HSZ.out⟩⟩
      have hfin : ((readsP l).take (k + 1)).filter (fun f => decide (f.want ≠ f.got)) = xs ++ [x] := HST.out
      rw [hfin, HKS.out, List.length_append, List.length_singleton]
      exact_mod_cast HC3'.out
  case done =>
    rintro b W hI hD
    have hct : CtC w ((readsP l).length : Int) ((wrongP l).length : Int) (kdP (wrongP l)) W := by
      have := hI.ct
      rwa [List.take_length] at this
    have hwd : w.heap.size + 3 ≤ w3.heap.size := by omega
    have HCW := Lib.hid hct
    have HD := Lib.hid hD
    clear hseq hI hct hD
    have hkp := kdP_length (wrongP l)
    generalize hnr : (readsP l).length = nr at *
    generalize hnw : (wrongP l).length = nw at *
    generalize hks : kdP (wrongP l) = ks at *
    have HNR := Lib.hid hnr
    have HNW := Lib.hid hnw
    have HKS := Lib.hid hks
    clear hnr hnw hks
    gi_wp2_with fail
    refine wpIn_region_frame mixed (fun _ => trivial) (by kernel_rfl) [(0, 35, .int .i64 (nr : Int)), (1, 36, .int .i64 (nw : Int)), (2, 37, .agg (kdA ks)), (6, 5, .int .i64 0)] (fun L Wx => CtC w (nr : Int) (nw : Int) ks Wx ∧ Wx.heap[w3.heap.size]? = some (.deferred (some []))) ?_ ?_ (by rfl) (by rfl) ?_
    · exact ⟨HCW.out.far (lo := w.heap.size + 3) (Nat.le_refl _) (grownBy_of_below (Below.refl _ _).drew (row := none)) (fun k e => by cases e), HD.out⟩
    · intro a0 ps ha0 hps
      have hsz : a0.tmps.size = 38 := by rw [ha0]; rfl
      have u2 : a0.tmps[2]? = some (.pointer (some ⟨w.heap.size, 0, none⟩)) := by rw [ha0]; rfl
      have u3 : a0.tmps[3]? = some (.pointer (some ⟨w.heap.size + 1, 0, none⟩)) := by rw [ha0]; rfl
      have u4 : a0.tmps[4]? = some (.pointer (some ⟨w.heap.size + 2, 0, none⟩)) := by rw [ha0]; rfl
      have n2 : slotOf ps 2 = none := by rw [hps]; rfl
      have n3 : slotOf ps 3 = none := by rw [hps]; rfl
      have n4 : slotOf ps 4 = none := by rw [hps]; rfl
      have k35 : slotOf ps 35 = some (0, .int .i64 (nr : Int)) := by rw [hps]; rfl
      have q35 : keysOK ps 0 35 = true := by rw [hps]; rfl
      have k36 : slotOf ps 36 = some (1, .int .i64 (nw : Int)) := by rw [hps]; rfl
      have q36 : keysOK ps 1 36 = true := by rw [hps]; rfl
      have k37 : slotOf ps 37 = some (2, .agg (kdA ks)) := by rw [hps]; rfl
      have q37 : keysOK ps 2 37 = true := by rw [hps]; rfl
      have z3 : (ps.all fun p => !(p.1 == 3)) = true := by rw [hps]; rfl
      have z4 : (ps.all fun p => !(p.1 == 4)) = true := by rw [hps]; rfl
      have z5 : (ps.all fun p => !(p.1 == 5)) = true := by rw [hps]; rfl
      have k5 : slotOf ps 5 = some (6, .int .i64 0) := by rw [hps]; rfl
      have q5 : keysOK ps 6 5 = true := by rw [hps]; rfl
      clear ha0 hps
      refine ⟨?_, ?_, ?_, ?_, ?_, ?_, ?_, trivial⟩
      · rintro L _ Wx ⟨rfl, hT⟩ hcl hk hd
        rw [if_pos (by simp [Region.wanted])]
        refine opIn_load 3 (.tmp 2) rfl ⟨w.heap.size, 0, none⟩ (by rw [frame_oute n2 u2]) (.int .i64 (nr : Int)) (ld_b1 hT.1.b0) ⟨frame_put (k35) (q35), ?_⟩
        simpa [upd] using hT
      · rintro L _ Wx ⟨rfl, hT⟩ hcl hk hd
        rw [if_pos (by simp [Region.wanted])]
        refine opIn_load 3 (.tmp 3) rfl ⟨w.heap.size + 1, 0, none⟩ (by rw [frame_oute n3 u3]) (.int .i64 (nw : Int)) (ld_b1 hT.1.b1) ⟨frame_put (k36) (q36), ?_⟩
        simpa [upd] using hT
      · rintro L _ Wx ⟨rfl, hT⟩ hcl hk hd
        rw [if_pos (by simp [Region.wanted])]
        refine opIn_load 68 (.tmp 4) rfl ⟨w.heap.size + 2, 0, none⟩ (by rw [frame_oute n4 u4]) (.agg (kdA ks)) (ld_kd hT.1.b2 hkp) ⟨frame_put (k37) (q37), ?_⟩
        simpa [upd] using hT
      · rintro L _ Wx ⟨rfl, hT⟩ hcl hk hd
        have hL0 : L 0 = true := by have h := hd; simp [Region.binds] at h; simp [h]
        rw [if_pos (by simp [Region.wanted])]
        refine opIn_store 3 (.tmp 2) (.tmp 35) rfl ⟨w.heap.size, 0, none⟩ (by rw [frame_oute n2 u2]) (.int .i64 (nr : Int)) (by rw [frame_in k35 hL0 (Nat.lt_of_lt_of_eq (by decide : 35 < 38) hsz.symm)]) (st_b1 _ hT.1.b0) ⟨frame_putNone (z3), ?_⟩
        exact ⟨hT.1.set0 _, cells_turn hT.2 (grownBy_setRow _ _ _) (by omega)⟩
      · rintro L _ Wx ⟨rfl, hT⟩ hcl hk hd
        have hL1 : L 1 = true := by have h := hd; simp [Region.binds] at h; simp [h]
        rw [if_pos (by simp [Region.wanted])]
        refine opIn_store 3 (.tmp 3) (.tmp 36) rfl ⟨w.heap.size + 1, 0, none⟩ (by rw [frame_oute n3 u3]) (.int .i64 (nw : Int)) (by rw [frame_in k36 hL1 (Nat.lt_of_lt_of_eq (by decide : 36 < 38) hsz.symm)]) (st_b1 _ hT.1.b1) ⟨frame_putNone (z4), ?_⟩
        exact ⟨hT.1.set1 _, cells_turn hT.2 (grownBy_setRow _ _ _) (by omega)⟩
      · rintro L _ Wx ⟨rfl, hT⟩ hcl hk hd
        have hL2 : L 2 = true := by have h := hd; simp [Region.binds] at h; simp [h]
        rw [if_pos (by simp [Region.wanted])]
        refine opIn_store 68 (.tmp 4) (.tmp 37) rfl ⟨w.heap.size + 2, 0, none⟩ (by rw [frame_oute n4 u4]) (.agg (kdA ks)) (by rw [frame_in k37 hL2 (Nat.lt_of_lt_of_eq (by decide : 37 < 38) hsz.symm)]) (st_kd _ hT.1.b2 hkp hkp) ⟨frame_putNone (z5), ?_⟩
        exact ⟨hT.1.set2 _, cells_turn hT.2 (grownBy_setRow _ _ _) (by omega)⟩
      · rintro L _ Wx ⟨rfl, hT⟩ hcl hk hd
        rw [if_pos (by simp [Region.wanted])]
        refine opIn_valueW (by intro c h; cases h) (v := .int .i64 0) (w' := Wx) (by simp [execOp, go_sem]) ⟨frame_put (k5) (q5), ?_⟩
        simpa [upd] using hT
    · rintro L W' hT hall
      simp only [putAll, Act.put, List.setIfInBounds_toArray, List.set_cons_succ, List.set_cons_zero]
      have hT1 := hT.1
      have hT2 := hT.2
      clear hT hall
      gi_wp2_with fail
      obtain ⟨W9, hW9⟩ : ∃ W9, W'.putObj w3.heap.size (.deferred none) = W9 := ⟨_, rfl⟩
      have hct9 : CtC w (nr : Int) (nw : Int) ks W9 := hW9 ▸ hT1.far (lo := w3.heap.size) (by omega) (grownBy_putObj W' w3.heap.size _) (fun k e => by cases e; exact Nat.le_refl _)
      refine ⟨by simp, .inl ⟨_, _, rfl, run_takeDeferred hT2, ?_⟩⟩
      rw [hW9]
      exact ⟨.tuple #[.int .i64 (nr : Int), .int .i64 (nw : Int), .agg (kdA ks), .int .i64 0], results_ccct Try.results39 rfl (ld_b1 hct9.b0) rfl (ld_b1 hct9.b1) rfl (ld_kd hct9.b2 hkp) rfl, by rw [HNR.out, HNW.out, HKS.out], hct9.below⟩

end Go.Proofs.Ytgdmgeihgkbjaaa
/- 'cashboxref27.May' -/
namespace Go.Proofs.Ytgdmgeihgkbjaaa
open Go.RowKit Go.Shelf

set_option maxHeartbeats 400000 in
/-- 'cashboxref07.Named' -/
theorem named60_any (n : Nm) (w : World) :
    Calls Try.prog 60 #[.agg #[.int .i64 n.s, .int .i64 n.i, .int .i64 n.t]] w fun e w' => e = .returned (.bool n.good) ∧ Below w.heap.size w w' := by
  have HB : ∀ o, Below w.heap.size w (w.alloc o) := fun o => (Below.refl _ _).alloc (Nat.le_refl _) _
  by_cases h1 : 1 ≤ n.s
  · by_cases h2 : n.s ≤ 1048576
    · by_cases h3 : 1 ≤ n.i
      · by_cases h4 : n.i ≤ 1048576
        · by_cases h5 : 1 ≤ n.t
          · by_cases h6 : n.t ≤ 1048576
            all_goals
              go_enter Try.func60, Try.ntmps60
              go_wp2
              go_ret
              exact ⟨by simp [Nm.good, h1, h2, h3, h4, h5, h6], HB _⟩
          · go_enter Try.func60, Try.ntmps60
            go_wp2
            go_ret
            have e : n.good = false := by (unfold Nm.good; simp; omega)
            exact ⟨by rw [e]; rfl, HB _⟩
        · go_enter Try.func60, Try.ntmps60
          go_wp2
          go_ret
          have e : n.good = false := by (unfold Nm.good; simp; omega)
          exact ⟨by rw [e]; rfl, HB _⟩
      · go_enter Try.func60, Try.ntmps60
        go_wp2
        go_ret
        have e : n.good = false := by (unfold Nm.good; simp; omega)
        exact ⟨by rw [e]; rfl, HB _⟩
    · go_enter Try.func60, Try.ntmps60
      go_wp2
      go_ret
      have e : n.good = false := by (unfold Nm.good; simp; omega)
      exact ⟨by rw [e]; rfl, HB _⟩
  · go_enter Try.func60, Try.ntmps60
    go_wp2
    go_ret
    have e : n.good = false := by (unfold Nm.good; simp; omega)
    exact ⟨by rw [e]; rfl, HB _⟩

/-! ### the reference's word of one step -/

def refC (x : Sn) (q fb fc fo : Int) : Bool :=
  decide (0 ≤ fb ∧ fb ≤ q) && (if x.k = 1 ∨ x.k = 2 then decide (0 ≤ x.b ∧ x.b < 32) && !decide (0 ≤ fc ∧ fc < q)
    else decide (fo = q) && (if x.k = 4 then decide (x.e ≠ 0) || decide (0 ≤ fc ∧ fc ≤ q) else if x.k = 5 then decide (0 ≤ fc ∧ fc ≤ q) else true))

theorem fa_take {l : List Sn} {q : Nat} {x : Sn} (hx : l[q]? = some x) (k : Int) (n : Nm) :
    firstAt k n l 0 = if isC k n (l.take q) then firstAt k n (l.take q) 0 else if hit k n x then (q : Int) else firstAt k n (l.drop (q + 1)) (q + 1) := by
  have hq := (List.getElem?_eq_some_iff.1 hx).1
  have e : (l.take q).length = q := by rw [List.length_take]; omega
  conv => lhs; rw [← List.take_append_drop q l]
  rw [firstAt_app, e, drop_cons hx, Nat.zero_add]
  rfl

theorem fa_late {k : Int} {n : Nm} : ∀ (l : List Sn) (i : Nat), firstAt k n l i = -1 ∨ (i : Int) ≤ firstAt k n l i
  | [], _ => .inl rfl
  | x :: r, i => by
    unfold firstAt
    split
    · exact .inr (Int.le_refl _)
    · rcases fa_late r (i + 1) with h | h
      · exact .inl h
      · exact .inr (by omega)

theorem fa_in {l : List Sn} {q : Nat} {x : Sn} (hx : l[q]? = some x) (k : Int) (n : Nm) :
    (isC k n (l.take q) = true → 0 ≤ firstAt k n l 0 ∧ firstAt k n l 0 < q) ∧
    (isC k n (l.take q) = false → hit k n x = true → firstAt k n l 0 = q) ∧
    (isC k n (l.take q) = false → hit k n x = false → firstAt k n l 0 = -1 ∨ (q : Int) < firstAt k n l 0) := by
  have hq := (List.getElem?_eq_some_iff.1 hx).1
  have e := fa_take hx k n
  refine ⟨fun h => ?_, fun h h' => ?_, fun h h' => ?_⟩
  · rw [if_pos h] at e
    have h1 := firstAt_ge.1 h
    have h2 := firstAt_lt (k := k) (n := n) (l := l.take q)
    rw [List.length_take] at h2
    rw [e]
    omega
  · rw [h, h'] at e
    simpa using e
  · rw [h, h'] at e
    simp only [Bool.false_eq_true, if_false] at e
    rw [e]
    rcases fa_late (k := k) (n := n) (l.drop (q + 1)) (q + 1) with h | h
    · exact .inl h
    · exact .inr (by omega)

theorem refC_step {l : List Sn} {q : Nat} {x : Sn} (hx : l[q]? = some x) (h0 : 0 ≤ x.k) (h5 : x.k ≤ 5) (hg : x.n.good = true) :
    stepOK (l.take q) x = refC x q (firstAt 0 x.n l 0) (firstAt 3 x.n l 0) (firstAt x.k x.n l 0) := by
  obtain ⟨a1, a2, a3⟩ := fa_in hx 0 x.n
  obtain ⟨b1, b2, b3⟩ := fa_in hx 3 x.n
  obtain ⟨c1, c2, _⟩ := fa_in hx x.k x.n
  have hh : hit x.k x.n x = true := hit_iff.2 ⟨rfl, rfl⟩
  have cc : (firstAt x.k x.n l 0 = (q : Int)) ↔ isC x.k x.n (l.take q) = false := by
    constructor
    · intro e
      cases h : isC x.k x.n (l.take q) with
      | false => rfl
      | true => have := c1 h; omega
    · intro h; exact c2 h hh
  unfold stepOK refC
  rw [hg, Bool.true_and]
  by_cases k0 : x.k = 0
  · have e0 : hit 0 x.n x = true := hit_iff.2 ⟨k0, rfl⟩
    rw [k0] at cc
    simp only [k0]
    cases hb : isC 0 x.n (l.take q)
    · have := a2 hb e0
      simp [this]
    · have hne : ¬ firstAt 0 x.n l 0 = (q : Int) := fun e => by rw [cc.1 e] at hb; cases hb
      simp [hne]
  · have e0 : hit 0 x.n x = false := hit_no (fun h => k0 h.1)
    have hbeg : decide (0 ≤ firstAt 0 x.n l 0 ∧ firstAt 0 x.n l 0 ≤ (q : Int)) = isC 0 x.n (l.take q) := by
      cases hb : isC 0 x.n (l.take q)
      · rcases a3 hb e0 with h | h <;> simp <;> omega
      · have := a1 hb; simp; omega
    have hcom : x.k ≠ 3 → decide (0 ≤ firstAt 3 x.n l 0 ∧ firstAt 3 x.n l 0 ≤ (q : Int)) = isC 3 x.n (l.take q) := fun k3 => by
      have e3 : hit 3 x.n x = false := hit_no (fun h => k3 h.1)
      cases hb : isC 3 x.n (l.take q)
      · rcases b3 hb e3 with h | h <;> simp <;> omega
      · have := b1 hb; simp; omega
    have hcom2 : x.k ≠ 3 → decide (0 ≤ firstAt 3 x.n l 0 ∧ firstAt 3 x.n l 0 < (q : Int)) = isC 3 x.n (l.take q) := fun k3 => by
      have e3 : hit 3 x.n x = false := hit_no (fun h => k3 h.1)
      cases hb : isC 3 x.n (l.take q)
      · rcases b3 hb e3 with h | h <;> simp <;> omega
      · have := b1 hb; simp; omega
    have hown : decide (firstAt x.k x.n l 0 = (q : Int)) = !isC x.k x.n (l.take q) := by
      cases hb : isC x.k x.n (l.take q)
      · simp [cc.2 hb]
      · have : ¬ firstAt x.k x.n l 0 = (q : Int) := fun e => by rw [cc.1 e] at hb; cases hb
        simp [this]
    rw [hbeg, hown]
    cases hb : isC 0 x.n (l.take q)
    · simp [k0]
    · simp only [cond_true, Bool.true_and]
      by_cases k12 : x.k = 1 ∨ x.k = 2
      · rw [if_pos k12, if_pos k12, hcom2 (by omega), Bool.and_comm]
      · rw [if_neg k12, if_neg k12]
        by_cases k3 : x.k = 3
        · simp [k3]
        · rw [if_neg k3, hcom k3]
          by_cases k4 : x.k = 4
          · simp [k4]
          · rw [if_neg k4, if_neg k4]
            have k5 : x.k = 5 := by omega
            simp [k5]

theorem may_no {l : List Sn} {q : Nat} {x : Sn} (hx : l[q]? = some x) (h : stepOK (l.take q) x = false) : mayP l = false := by
  cases hm : mayP l with
  | false => rfl
  | true => rw [mayP_at.1 hm q x hx] at h; cases h

theorem may_more {l : List Sn} {q : Nat} {x : Sn} (hx : l[q]? = some x) (hm : mayP (l.take q) = true) (h : stepOK (l.take q) x = true) : mayP (l.take (q + 1)) = true := by
  have e : l.take (q + 1) = l.take q ++ [x] := by rw [List.take_add_one, hx]; rfl
  rw [e]
  unfold mayP at hm ⊢
  rw [mayF_app, hm]
  simp [mayF, h]

theorem step_bad {p : List Sn} {x : Sn} (h : ¬ (0 ≤ x.k ∧ x.k ≤ 5) ∨ x.n.good = false) : stepOK p x = false := by
  unfold stepOK
  rcases h with h | h
  · cases isC 0 x.n p
    · have : ¬ x.k = 0 := by omega
      simp [this]
    · have a : ¬ (x.k = 1 ∨ x.k = 2) := by omega
      have b : ¬ x.k = 3 := by omega
      have c : ¬ x.k = 4 := by omega
      have d : ¬ x.k = 5 := by omega
      simp [a, b, c, d]
  · rw [h]; rfl

set_option maxRecDepth 100000 in
set_option maxHeartbeats 8000000 in
theorem may61_any (l : List Sn) (v : Value) (w : World) (hl : l.length ≤ 100000) (hv : Sns w.heap.size w v l) :
    Calls Try.prog 61 #[v] w fun e w' => e = .returned (.bool (mayP l)) ∧ Below w.heap.size w w' := by
  have HV := Lib.hid hv
  obtain ⟨a, cap, rfl, hn, ha⟩ := hv
  have HN := Lib.hid hn
  have HA := Lib.hid ha
  clear hn ha
  go_enter Try.func61, Try.ntmps61
  go_wp2_with fail
  go_loopw [3] (fun io wr => ∃ q : Nat, q ≤ l.length ∧ io = .int .i64 q ∧ mayP (l.take q) = true ∧ Below w.heap.size w wr) (fun io _ => l.length - (intOf io).toNat)
  case atStart => exact ⟨0, Nat.zero_le _, rfl, rfl, Below.refl _ _⟩
  case round =>
    obtain ⟨q, hq, rfl, hM, hB⟩ := hrel
    have HM := Lib.hid hM
    have HB := Lib.hid hB
    clear hM hB
    by_cases hlt : q < l.length
    · obtain ⟨x, hx⟩ : ∃ x, l[q]? = some x := ⟨_, List.getElem?_eq_getElem hlt⟩
      obtain ⟨b, off, rfl, hb, hr⟩ := rows_some HN.out HA.out hlt
      obtain ⟨c0, c1, c2, c3, c4, c5, c6, c7, c8, c9, c10, c11, c12, c13⟩ := (hr.below hb HB.out).sn hx
      have HX := Lib.hid hx
      have HLT := Lib.hid hlt
      clear hr hx
      obtain ⟨W1, hW1⟩ : ∃ W1, wr.alloc (.cells (snArr x) 36) = W1 := ⟨_, rfl⟩
      have b1 : Below wr.heap.size wr W1 := hW1 ▸ below_alloc1 _
      have x1 : W1.heap[wr.heap.size]? = some (.cells (snArr x) 36 (0, 0)) := hW1 ▸ heap_alloc_new _ _
      have hW1' : wr.alloc (.cells #[.int .i8 x.k, .int .i64 x.n.s, .int .i64 x.n.i, .int .i64 x.n.t, .int .i64 x.b, .int .u8 x.v.a, .int .u8 x.v.b, .int .u8 x.v.c, .int .u8 x.v.d, .int .u8 x.v.e, .int .u8 x.v.f, .int .u8 x.v.g, .int .u8 x.v.h, .int .i64 x.e] 36) = W1 := hW1
      by_cases k0 : x.k < 0
      · have k0_0 : decide (x.k < 0) = true := by simp; omega
        have HNO : Hid (mayP l = false) := Lib.hid (may_no HX.out (step_bad (.inl (by omega))))
        clear k0 hW1 hW1' b1 x1
        go_wp2_with fail
        go_ret
        exact ⟨by rw [HNO.out]; rfl, HB.out.trans ((below_alloc1 _).mono HB.out.size)⟩
      have k0_0 : decide (x.k < 0) = false := by simp; omega
      by_cases k9 : 5 < x.k
      · have k9_0 : decide (5 < x.k) = true := by simp; omega
        have HNO : Hid (mayP l = false) := Lib.hid (may_no HX.out (step_bad (.inl (by omega))))
        clear k0 k9 hW1 hW1' b1 x1
        go_wp2_with fail
        go_ret
        exact ⟨by rw [HNO.out]; rfl, HB.out.trans ((below_alloc1 _).mono HB.out.size)⟩
      have k9_0 : decide (5 < x.k) = false := by simp; omega
      have HK : Hid (0 ≤ x.k ∧ x.k ≤ 5) := Lib.hid ⟨by omega, by omega⟩
      have HW1 := Lib.hid hW1'
      have B1 := Lib.hid b1
      have X1 := Lib.hid x1
      clear hW1 hW1' b1 x1 k0 k9
      go_wp2_with fail
      rw [HW1.out]
      refine (named60_any x.n W1).mono ?_
      rintro e w2 ⟨rfl, b2⟩
      have bw : Below wr.heap.size wr w2 := B1.out.trans (b2.mono B1.out.size)
      have x2 := (b2.block _ (lt_of_heap X1.out)).trans X1.out
      have HB2 := Lib.hid (HB.out.trans (bw.mono HB.out.size))
      have HX2 := Lib.hid x2
      clear b2 bw x2 HB HW1 B1 X1 c0 c1 c2 c3 c4 c5 c6 c7 c8 c9 c10 c11 c12 c13
      cases hg : x.n.good with
      | false =>
        have HNO : Hid (mayP l = false) := Lib.hid (may_no HX.out (step_bad (.inr hg)))
        clear hg
        go_wp2_with fail
        go_ret
        exact ⟨by rw [HNO.out]; rfl, HB2.out⟩
      | true =>
          have HR := Lib.hid (refC_step HX.out HK.out.1 HK.out.2 hg)
          clear hg
          go_upto_region 7 with (fail)
          have hsv : Sns w2.heap.size w2 (.slice (some ⟨b, off, none⟩) l.length cap) l := (HV.out.below HB2.out).mono HB2.out.size
          have hll := hl
          have hxc : ∀ Wx, Below w2.heap.size w2 Wx → Wx.cell? ⟨wr.heap.size, 1, none⟩ = some (.int .i64 x.n.s) ∧ Wx.cell? ⟨wr.heap.size, 2, none⟩ = some (.int .i64 x.n.i) ∧ Wx.cell? ⟨wr.heap.size, 3, none⟩ = some (.int .i64 x.n.t) := fun Wx hT => by
            obtain ⟨_, d1, d2, d3, _⟩ := snArr_at ((hT.block _ (lt_of_heap HX2.out)).trans HX2.out)
            exact ⟨d1, d2, d3⟩
          refine wp_region_frame mixed (by kernel_rfl) [(0, 31, .slice (some ⟨b, off, none⟩) l.length cap), (1, 32, .pointer (some ⟨wr.heap.size, 1, none⟩)), (2, 33, .agg #[.int .i64 x.n.s, .int .i64 x.n.i, .int .i64 x.n.t]), (3, 34, .int .i64 (firstAt 0 x.n l 0)), (4, 35, .slice (some ⟨b, off, none⟩) l.length cap), (5, 36, .pointer (some ⟨wr.heap.size, 1, none⟩)), (6, 37, .agg #[.int .i64 x.n.s, .int .i64 x.n.i, .int .i64 x.n.t]), (7, 38, .int .i64 (firstAt 3 x.n l 0)), (8, 5, .int .i64 (firstAt 0 x.n l 0)), (9, 6, .int .i64 (firstAt 3 x.n l 0))] (fun L Wx => Below w2.heap.size w2 Wx) ?_ ?_ (by rfl) (by rfl) ?_
          · exact (Below.refl _ _).drew
          · intro a0 ps ha0 hps
            have hsz : a0.tmps.size = 111 := by rw [ha0]; rfl
            have u0 : a0.tmps[0]? = some (.slice (some ⟨b, off, none⟩) l.length cap) := by rw [ha0]; rfl
            have u4 : a0.tmps[4]? = some (.pointer (some ⟨wr.heap.size, 0, none⟩)) := by rw [ha0]; rfl
            have n0 : slotOf ps 0 = none := by rw [hps]; rfl
            have n4 : slotOf ps 4 = none := by rw [hps]; rfl
            have k31 : slotOf ps 31 = some (0, .slice (some ⟨b, off, none⟩) l.length cap) := by rw [hps]; rfl
            have q31 : keysOK ps 0 31 = true := by rw [hps]; rfl
            have k32 : slotOf ps 32 = some (1, .pointer (some ⟨wr.heap.size, 1, none⟩)) := by rw [hps]; rfl
            have q32 : keysOK ps 1 32 = true := by rw [hps]; rfl
            have k33 : slotOf ps 33 = some (2, .agg #[.int .i64 x.n.s, .int .i64 x.n.i, .int .i64 x.n.t]) := by rw [hps]; rfl
            have q33 : keysOK ps 2 33 = true := by rw [hps]; rfl
            have k34 : slotOf ps 34 = some (3, .int .i64 (firstAt 0 x.n l 0)) := by rw [hps]; rfl
            have q34 : keysOK ps 3 34 = true := by rw [hps]; rfl
            have k35 : slotOf ps 35 = some (4, .slice (some ⟨b, off, none⟩) l.length cap) := by rw [hps]; rfl
            have q35 : keysOK ps 4 35 = true := by rw [hps]; rfl
            have k36 : slotOf ps 36 = some (5, .pointer (some ⟨wr.heap.size, 1, none⟩)) := by rw [hps]; rfl
            have q36 : keysOK ps 5 36 = true := by rw [hps]; rfl
            have k37 : slotOf ps 37 = some (6, .agg #[.int .i64 x.n.s, .int .i64 x.n.i, .int .i64 x.n.t]) := by rw [hps]; rfl
            have q37 : keysOK ps 6 37 = true := by rw [hps]; rfl
            have k38 : slotOf ps 38 = some (7, .int .i64 (firstAt 3 x.n l 0)) := by rw [hps]; rfl
            have q38 : keysOK ps 7 38 = true := by rw [hps]; rfl
            have k5 : slotOf ps 5 = some (8, .int .i64 (firstAt 0 x.n l 0)) := by rw [hps]; rfl
            have q5 : keysOK ps 8 5 = true := by rw [hps]; rfl
            have k6 : slotOf ps 6 = some (9, .int .i64 (firstAt 3 x.n l 0)) := by rw [hps]; rfl
            have q6 : keysOK ps 9 6 = true := by rw [hps]; rfl
            clear ha0 hps
            refine ⟨?_, ?_, ?_, ?_, ?_, ?_, ?_, ?_, ?_, ?_, trivial⟩
            · rintro L _ Wx ⟨rfl, hT⟩ hcl hk hd
              rw [if_pos (by simp [Region.wanted])]
              refine op_value (v := .slice (some ⟨b, off, none⟩) l.length cap) (w' := Wx) (by simp [execOp, go_sem, frame_tout (n0) u0]) ⟨frame_put (k31) (q31), ?_⟩
              simpa [upd] using hT
            · rintro L _ Wx ⟨rfl, hT⟩ hcl hk hd
              rw [if_pos (by simp [Region.wanted])]
              refine op_value (v := .pointer (some ⟨wr.heap.size, 1, none⟩)) (w' := Wx) (by simp [execOp, go_sem, frame_tout (n4) u4]) ⟨frame_put (k32) (q32), ?_⟩
              simpa [upd] using hT
            · rintro L _ Wx ⟨rfl, hT⟩ hcl hk hd
              have hL1 : L 1 = true := by have h := hd; simp [Region.binds] at h; simp [h]
              rw [if_pos (by simp [Region.wanted])]
              refine op_value (v := .agg #[.int .i64 x.n.s, .int .i64 x.n.i, .int .i64 x.n.t]) (w' := Wx) (by simp [execOp, go_sem, frame_tmp (k32) hL1 (Nat.lt_of_lt_of_eq (by decide : 32 < 111) hsz.symm), (hxc _ hT).1, (hxc _ hT).2.1, (hxc _ hT).2.2]) ⟨frame_put (k33) (q33), ?_⟩
              simpa [upd] using hT
            · rintro L _ Wx ⟨rfl, hT⟩ hcl hk hd
              have hL0 : L 0 = true := by have h := hd; simp [Region.binds] at h; simp [h]
              have hL2 : L 2 = true := by have h := hd; simp [Region.binds] at h; simp [h]
              rw [if_pos (by simp [Region.wanted])]
              refine op_callP (f := 62) (args := #[.slice (some ⟨b, off, none⟩) l.length cap, .int .i8 0, .agg #[.int .i64 x.n.s, .int .i64 x.n.i, .int .i64 x.n.t]]) (by simp [go_sem, frame_tmp (k31) hL0 (Nat.lt_of_lt_of_eq (by decide : 31 < 111) hsz.symm), frame_tmp (k33) hL2 (Nat.lt_of_lt_of_eq (by decide : 33 < 111) hsz.symm)]) (first_any l _ 0 x.n Wx hll ((hsv.below hT).mono hT.size)) ?_
              rintro e w' ⟨rfl, hb'⟩
              refine ⟨_, rfl, frame_put (k34) (q34), ?_⟩
              exact hT.trans (hb'.mono hT.size)
            · rintro L _ Wx ⟨rfl, hT⟩ hcl hk hd
              rw [if_pos (by simp [Region.wanted])]
              refine op_value (v := .slice (some ⟨b, off, none⟩) l.length cap) (w' := Wx) (by simp [execOp, go_sem, frame_tout (n0) u0]) ⟨frame_put (k35) (q35), ?_⟩
              simpa [upd] using hT
            · rintro L _ Wx ⟨rfl, hT⟩ hcl hk hd
              rw [if_pos (by simp [Region.wanted])]
              refine op_value (v := .pointer (some ⟨wr.heap.size, 1, none⟩)) (w' := Wx) (by simp [execOp, go_sem, frame_tout (n4) u4]) ⟨frame_put (k36) (q36), ?_⟩
              simpa [upd] using hT
            · rintro L _ Wx ⟨rfl, hT⟩ hcl hk hd
              have hL5 : L 5 = true := by have h := hd; simp [Region.binds] at h; simp [h]
              rw [if_pos (by simp [Region.wanted])]
              refine op_value (v := .agg #[.int .i64 x.n.s, .int .i64 x.n.i, .int .i64 x.n.t]) (w' := Wx) (by simp [execOp, go_sem, frame_tmp (k36) hL5 (Nat.lt_of_lt_of_eq (by decide : 36 < 111) hsz.symm), (hxc _ hT).1, (hxc _ hT).2.1, (hxc _ hT).2.2]) ⟨frame_put (k37) (q37), ?_⟩
              simpa [upd] using hT
            · rintro L _ Wx ⟨rfl, hT⟩ hcl hk hd
              have hL4 : L 4 = true := by have h := hd; simp [Region.binds] at h; simp [h]
              have hL6 : L 6 = true := by have h := hd; simp [Region.binds] at h; simp [h]
              rw [if_pos (by simp [Region.wanted])]
              refine op_callP (f := 62) (args := #[.slice (some ⟨b, off, none⟩) l.length cap, .int .i8 3, .agg #[.int .i64 x.n.s, .int .i64 x.n.i, .int .i64 x.n.t]]) (by simp [go_sem, frame_tmp (k35) hL4 (Nat.lt_of_lt_of_eq (by decide : 35 < 111) hsz.symm), frame_tmp (k37) hL6 (Nat.lt_of_lt_of_eq (by decide : 37 < 111) hsz.symm)]) (first_any l _ 3 x.n Wx hll ((hsv.below hT).mono hT.size)) ?_
              rintro e w' ⟨rfl, hb'⟩
              refine ⟨_, rfl, frame_put (k38) (q38), ?_⟩
              exact hT.trans (hb'.mono hT.size)
            · rintro L _ Wx ⟨rfl, hT⟩ hcl hk hd
              have hL3 : L 3 = true := by have h := hd; simp [Region.binds] at h; simp [h]
              rw [if_pos (by simp [Region.wanted])]
              refine op_value (v := .int .i64 (firstAt 0 x.n l 0)) (w' := Wx) (by simp [execOp, go_sem, frame_tmp (k34) hL3 (Nat.lt_of_lt_of_eq (by decide : 34 < 111) hsz.symm)]) ⟨frame_put (k5) (q5), ?_⟩
              simpa [upd] using hT
            · rintro L _ Wx ⟨rfl, hT⟩ hcl hk hd
              have hL7 : L 7 = true := by have h := hd; simp [Region.binds] at h; simp [h]
              rw [if_pos (by simp [Region.wanted])]
              refine op_value (v := .int .i64 (firstAt 3 x.n l 0)) (w' := Wx) (by simp [execOp, go_sem, frame_tmp (k38) hL7 (Nat.lt_of_lt_of_eq (by decide : 38 < 111) hsz.symm)]) ⟨frame_put (k6) (q6), ?_⟩
              simpa [upd] using hT
          · rintro L w3 hT hall
            simp only [putAll, Act.put, List.setIfInBounds_toArray, List.set_cons_succ, List.set_cons_zero]
            have hx3 := (hT.block _ (lt_of_heap HX2.out)).trans HX2.out
            have HBW := Lib.hid (HB2.out.trans (hT.mono HB2.out.size))
            clear hT hall hxc hsv hll
            obtain ⟨d0, d1, d2, d3, d4, d5, d6, d7, d8, d9, d10, d11, d12, d13⟩ := snArr_at hx3
            have HX3 := Lib.hid hx3
            clear hx3 HX2 HB2
            generalize hfb : firstAt 0 x.n l 0 = fb at HR ⊢
            generalize hfc : firstAt 3 x.n l 0 = fc at HR ⊢
            clear hfb hfc
            have HY0 := HR
            by_cases b0 : fb < 0
            · have b0_0 : decide (fb < 0) = true := by simp; omega
              have HNO : Hid (mayP l = false) := Lib.hid (may_no HX.out (by rw [HR.out]; simp [refC, show ¬ 0 ≤ fb by omega]))
              clear b0 HY0
              go_wp2_with fail
              go_ret
              exact ⟨by rw [HNO.out]; rfl, HBW.out⟩
            · have b0_0 : decide (fb < 0) = false := by simp; omega
              by_cases b1 : (q : Int) < fb
              · have b1_0 : decide ((q : Int) < fb) = true := by simp; omega
                have HNO : Hid (mayP l = false) := Lib.hid (may_no HX.out (by rw [HR.out]; simp [refC, show ¬ fb ≤ (q : Int) by omega]))
                clear b0 b1 HY0
                go_wp2_with fail
                go_ret
                exact ⟨by rw [HNO.out]; rfl, HBW.out⟩
              · have b1_0 : decide ((q : Int) < fb) = false := by simp; omega
                by_cases k1 : x.k = 1
                · have k1_0 : (x.k == 1) = true := by simp [k1]
                  have k1_1 : (x.k != 1) = false := by simp [k1]
                  by_cases x0 : x.b < 0
                  · have x0_0 : decide (x.b < 0) = true := by simp; omega
                    have HNO : Hid (mayP l = false) := Lib.hid (may_no HX.out (by rw [HR.out]; simp [refC, k1, show 0 ≤ fb by omega, show fb ≤ (q : Int) by omega, show ¬ 0 ≤ x.b by omega]))
                    clear x0 k1 b0 b1
                    go_wp2_with fail
                    go_ret
                    exact ⟨by rw [HNO.out]; rfl, HBW.out⟩
                  · have x0_0 : decide (x.b < 0) = false := by simp; omega
                    by_cases x1 : 32 ≤ x.b
                    · have x1_0 : decide (32 ≤ x.b) = true := by simp; omega
                      have HNO : Hid (mayP l = false) := Lib.hid (may_no HX.out (by rw [HR.out]; simp [refC, k1, show 0 ≤ fb by omega, show fb ≤ (q : Int) by omega, show ¬ x.b < 32 by omega]))
                      clear x0 x1 k1 b0 b1
                      go_wp2_with fail
                      go_ret
                      exact ⟨by rw [HNO.out]; rfl, HBW.out⟩
                    · have x1_0 : decide (32 ≤ x.b) = false := by simp; omega
                      by_cases c0 : 0 ≤ fc
                      · have c0_0 : decide (0 ≤ fc) = true := by simp; omega
                        by_cases c1 : fc < (q : Int)
                        · have c1_0 : decide (fc < (q : Int)) = true := by simp; omega
                          have HNO : Hid (mayP l = false) := Lib.hid (may_no HX.out (by rw [HR.out]; simp [refC, k1, show 0 ≤ fb by omega, show fb ≤ (q : Int) by omega, c0, c1]))
                          clear x0 x1 c0 c1 k1 b0 b1
                          go_wp2_with fail
                          go_ret
                          exact ⟨by rw [HNO.out]; rfl, HBW.out⟩
                        · have c1_0 : decide (fc < (q : Int)) = false := by simp; omega
                          have HY : Hid (mayP (l.take (q + 1)) = true) := Lib.hid (may_more HX.out HM.out (by rw [HR.out]; simp [refC, k1, show 0 ≤ fb by omega, show fb ≤ (q : Int) by omega, show 0 ≤ x.b by omega, show x.b < 32 by omega, c0, c1]))
                          clear x0 x1 c0 c1 k1 b0 b1
                          go_wp2_with fail
                          go_roundw
                          case rel => exact ⟨q + 1, by have := HLT.out; omega, by go_num, HY.out, HBW.out⟩
                          case measure => have := HLT.out; simp [intOf]; omega
                      · have c0_0 : decide (0 ≤ fc) = false := by simp; omega
                        have HY : Hid (mayP (l.take (q + 1)) = true) := Lib.hid (may_more HX.out HM.out (by rw [HR.out]; simp [refC, k1, show 0 ≤ fb by omega, show fb ≤ (q : Int) by omega, show 0 ≤ x.b by omega, show x.b < 32 by omega, c0]))
                        clear x0 x1 c0 k1 b0 b1
                        go_wp2_with fail
                        go_roundw
                        case rel => exact ⟨q + 1, by have := HLT.out; omega, by go_num, HY.out, HBW.out⟩
                        case measure => have := HLT.out; simp [intOf]; omega
                · have k1_0 : (x.k == 1) = false := by simp [k1]
                  have k1_1 : (x.k != 1) = true := by simp [k1]
                  by_cases k2 : x.k = 2
                  · have k2_0 : (x.k == 2) = true := by simp [k2]
                    have k2_1 : (x.k != 2) = false := by simp [k2]
                    by_cases x0 : x.b < 0
                    · have x0_0 : decide (x.b < 0) = true := by simp; omega
                      have HNO : Hid (mayP l = false) := Lib.hid (may_no HX.out (by rw [HR.out]; simp [refC, k2, show 0 ≤ fb by omega, show fb ≤ (q : Int) by omega, show ¬ 0 ≤ x.b by omega]))
                      clear x0 k2 b0 b1 k1
                      go_wp2_with fail
                      go_ret
                      exact ⟨by rw [HNO.out]; rfl, HBW.out⟩
                    · have x0_0 : decide (x.b < 0) = false := by simp; omega
                      by_cases x1 : 32 ≤ x.b
                      · have x1_0 : decide (32 ≤ x.b) = true := by simp; omega
                        have HNO : Hid (mayP l = false) := Lib.hid (may_no HX.out (by rw [HR.out]; simp [refC, k2, show 0 ≤ fb by omega, show fb ≤ (q : Int) by omega, show ¬ x.b < 32 by omega]))
                        clear x0 x1 k2 b0 b1 k1
                        go_wp2_with fail
                        go_ret
                        exact ⟨by rw [HNO.out]; rfl, HBW.out⟩
                      · have x1_0 : decide (32 ≤ x.b) = false := by simp; omega
                        by_cases c0 : 0 ≤ fc
                        · have c0_0 : decide (0 ≤ fc) = true := by simp; omega
                          by_cases c1 : fc < (q : Int)
                          · have c1_0 : decide (fc < (q : Int)) = true := by simp; omega
                            have HNO : Hid (mayP l = false) := Lib.hid (may_no HX.out (by rw [HR.out]; simp [refC, k2, show 0 ≤ fb by omega, show fb ≤ (q : Int) by omega, c0, c1]))
                            clear x0 x1 c0 c1 k2 b0 b1 k1
                            go_wp2_with fail
                            go_ret
                            exact ⟨by rw [HNO.out]; rfl, HBW.out⟩
                          · have c1_0 : decide (fc < (q : Int)) = false := by simp; omega
                            have HY : Hid (mayP (l.take (q + 1)) = true) := Lib.hid (may_more HX.out HM.out (by rw [HR.out]; simp [refC, k2, show 0 ≤ fb by omega, show fb ≤ (q : Int) by omega, show 0 ≤ x.b by omega, show x.b < 32 by omega, c0, c1]))
                            clear x0 x1 c0 c1 k2 b0 b1 k1
                            go_wp2_with fail
                            go_roundw
                            case rel => exact ⟨q + 1, by have := HLT.out; omega, by go_num, HY.out, HBW.out⟩
                            case measure => have := HLT.out; simp [intOf]; omega
                        · have c0_0 : decide (0 ≤ fc) = false := by simp; omega
                          have HY : Hid (mayP (l.take (q + 1)) = true) := Lib.hid (may_more HX.out HM.out (by rw [HR.out]; simp [refC, k2, show 0 ≤ fb by omega, show fb ≤ (q : Int) by omega, show 0 ≤ x.b by omega, show x.b < 32 by omega, c0]))
                          clear x0 x1 c0 k2 b0 b1 k1
                          go_wp2_with fail
                          go_roundw
                          case rel => exact ⟨q + 1, by have := HLT.out; omega, by go_num, HY.out, HBW.out⟩
                          case measure => have := HLT.out; simp [intOf]; omega
                  · have k2_0 : (x.k == 2) = false := by simp [k2]
                    have k2_1 : (x.k != 2) = true := by simp [k2]
                    have HK1 := Lib.hid k1
                    have HK2 := Lib.hid k2
                    clear k1 k2
                    go_wp2_with fail
                    refine (first_any l _ x.k x.n w3 hl ((HV.out.below HBW.out).mono HBW.out.size)).mono ?_
                    rintro e w4 ⟨rfl, b4⟩
                    have HBW4 := Lib.hid (HBW.out.trans (b4.mono HBW.out.size))
                    obtain ⟨e0, e1, e2, e3, e4, e5, e6, e7, e8, e9, e10, e11, e12, e13⟩ := snArr_at ((b4.block _ (lt_of_heap HX3.out)).trans HX3.out)
                    have HR4 : Hid (stepOK (l.take q) x = refC x q fb fc (firstAt x.k x.n l 0)) := HR
                    clear b4 HR d0 d1 d2 d3 d4 d5 d6 d7 d8 d9 d10 d11 d12 d13
                    generalize firstAt x.k x.n l 0 = fo at HR4 ⊢
                    have HR := HR4
                    clear HR4 HBW
                    have HBW := HBW4
                    clear HBW4
                    by_cases fo0 : fo = (q : Int)
                    · have fo_0 : (fo != (q : Int)) = false := by simp [fo0]
                      have HFO := Lib.hid fo0
                      clear fo0
                      by_cases k4 : x.k = 4
                      · have k4_0 : (x.k == 4) = true := by simp [k4]
                        by_cases er : x.e = 0
                        · have er_0 : (x.e == 0) = true := by simp [er]
                          by_cases c0 : fc < 0
                          · have c0_0 : decide (fc < 0) = true := by simp; omega
                            have HNO : Hid (mayP l = false) := Lib.hid (may_no HX.out (by rw [HR.out]; simp [refC, HFO.out, show 0 ≤ fb by omega, show fb ≤ (q : Int) by omega, k4, er, show ¬ 0 ≤ fc by omega]))
                            clear c0 b0 b1 k4 er
                            go_wp2_with fail
                            go_ret
                            exact ⟨by rw [HNO.out]; rfl, HBW.out⟩
                          · have c0_0 : decide (fc < 0) = false := by simp; omega
                            by_cases c1 : (q : Int) < fc
                            · have c1_0 : decide ((q : Int) < fc) = true := by simp; omega
                              have HNO : Hid (mayP l = false) := Lib.hid (may_no HX.out (by rw [HR.out]; simp [refC, HFO.out, show 0 ≤ fb by omega, show fb ≤ (q : Int) by omega, k4, er, show ¬ fc ≤ (q : Int) by omega]))
                              clear c0 c1 b0 b1 k4 er
                              go_wp2_with fail
                              go_ret
                              exact ⟨by rw [HNO.out]; rfl, HBW.out⟩
                            · have c1_0 : decide ((q : Int) < fc) = false := by simp; omega
                              have HY : Hid (mayP (l.take (q + 1)) = true) := Lib.hid (may_more HX.out HM.out (by rw [HR.out]; simp [refC, HFO.out, show 0 ≤ fb by omega, show fb ≤ (q : Int) by omega, k4, er, show 0 ≤ fc by omega, show fc ≤ (q : Int) by omega]))
                              clear c0 c1 b0 b1 k4 er
                              go_wp2_with fail
                              go_roundw
                              case rel => exact ⟨q + 1, by have := HLT.out; omega, by go_num, HY.out, HBW.out⟩
                              case measure => have := HLT.out; simp [intOf]; omega
                        · have er_0 : (x.e == 0) = false := by simp [er]
                          have HY : Hid (mayP (l.take (q + 1)) = true) := Lib.hid (may_more HX.out HM.out (by rw [HR.out]; simp [refC, HFO.out, show 0 ≤ fb by omega, show fb ≤ (q : Int) by omega, k4, er]))
                          clear k4 er b0 b1
                          go_wp2_with fail
                          go_roundw
                          case rel => exact ⟨q + 1, by have := HLT.out; omega, by go_num, HY.out, HBW.out⟩
                          case measure => have := HLT.out; simp [intOf]; omega
                      · have k4_0 : (x.k == 4) = false := by simp [k4]
                        by_cases k5 : x.k = 5
                        · have k5_0 : (x.k == 5) = true := by simp [k5]
                          by_cases c0 : fc < 0
                          · have c0_0 : decide (fc < 0) = true := by simp; omega
                            have HNO : Hid (mayP l = false) := Lib.hid (may_no HX.out (by rw [HR.out]; simp [refC, HFO.out, show 0 ≤ fb by omega, show fb ≤ (q : Int) by omega, k5, show ¬ 0 ≤ fc by omega]))
                            clear c0 b0 b1 k4 k5
                            go_wp2_with fail
                            go_ret
                            exact ⟨by rw [HNO.out]; rfl, HBW.out⟩
                          · have c0_0 : decide (fc < 0) = false := by simp; omega
                            by_cases c1 : (q : Int) < fc
                            · have c1_0 : decide ((q : Int) < fc) = true := by simp; omega
                              have HNO : Hid (mayP l = false) := Lib.hid (may_no HX.out (by rw [HR.out]; simp [refC, HFO.out, show 0 ≤ fb by omega, show fb ≤ (q : Int) by omega, k5, show ¬ fc ≤ (q : Int) by omega]))
                              clear c0 c1 b0 b1 k4 k5
                              go_wp2_with fail
                              go_ret
                              exact ⟨by rw [HNO.out]; rfl, HBW.out⟩
                            · have c1_0 : decide ((q : Int) < fc) = false := by simp; omega
                              have HY : Hid (mayP (l.take (q + 1)) = true) := Lib.hid (may_more HX.out HM.out (by rw [HR.out]; simp [refC, HFO.out, show 0 ≤ fb by omega, show fb ≤ (q : Int) by omega, k5, show 0 ≤ fc by omega, show fc ≤ (q : Int) by omega]))
                              clear c0 c1 b0 b1 k4 k5
                              go_wp2_with fail
                              go_roundw
                              case rel => exact ⟨q + 1, by have := HLT.out; omega, by go_num, HY.out, HBW.out⟩
                              case measure => have := HLT.out; simp [intOf]; omega
                        · have k5_0 : (x.k == 5) = false := by simp [k5]
                          have HY : Hid (mayP (l.take (q + 1)) = true) := Lib.hid (may_more HX.out HM.out (by rw [HR.out]; simp [refC, HK1.out, HK2.out, HFO.out, show 0 ≤ fb by omega, show fb ≤ (q : Int) by omega, k4, k5]))
                          clear k4 k5 b0 b1
                          go_wp2_with fail
                          go_roundw
                          case rel => exact ⟨q + 1, by have := HLT.out; omega, by go_num, HY.out, HBW.out⟩
                          case measure => have := HLT.out; simp [intOf]; omega
                    · have fo_0 : (fo != (q : Int)) = true := by simp [fo0]
                      have HNO : Hid (mayP l = false) := Lib.hid (may_no HX.out (by rw [HR.out]; simp [refC, HK1.out, HK2.out, fo0]))
                      clear fo0 b0 b1
                      go_wp2_with fail
                      go_ret
                      exact ⟨by rw [HNO.out]; rfl, HBW.out⟩
    · obtain rfl : q = l.length := by omega
      have HF : Hid (mayP l = true) := Lib.hid (by have := HM.out; rwa [List.take_length] at this)
      go_wp2_with fail
      go_ret
      exact ⟨by rw [HF.out]; rfl, HB.out⟩

end Go.Proofs.Ytgdmgeihgkbjaaa
/- 'cashboxref27.Order' -/
namespace Go.Proofs.Ytgdmgeihgkbjaaa
open Go.RowKit Go.Shelf

/-- The decided of the first q steps. -/
def ordQ (l : List Sn) (q : Nat) : List Nm := ((l.take q).filter fun x => decide (x.k = 3) && isC 5 x.n l).map (·.n)

theorem ordQ_succ {l : List Sn} {q : Nat} {x : Sn} (hx : l[q]? = some x) : ordQ l (q + 1) = ordQ l q ++ (if x.k = 3 ∧ isC 5 x.n l = true then [x.n] else []) := by
  unfold ordQ
  rw [List.take_add_one, hx, Option.toList_some, List.filter_append, List.map_append]
  congr 1
  by_cases h : x.k = 3
  · cases h5 : isC 5 x.n l <;> simp [h, h5]
  · simp [h]

theorem ordQ_all (l : List Sn) : ordQ l l.length = ordR l := by unfold ordQ ordR; rw [List.take_length]
theorem ordQ_length (l : List Sn) (q : Nat) : (ordQ l q).length ≤ l.length := by
  unfold ordQ
  rw [List.length_map]
  refine Nat.le_trans (List.length_filter_le _ _) ?_
  rw [List.length_take]; omega

theorem owns_below {W W' : World} {base : Nat} {e : TypeId} {size n : Nat} {v : Value} {xs : List Value} (h : W.ownsRow base e size v n xs) (hb : Below W.heap.size W W') : W'.ownsRow base e size v n xs := by
  refine h.kept (grownBy_of_below hb (row := none)) ?_
  cases v.ownBlock with
  | none => exact .inl rfl
  | some k => exact .inr (by simp)

set_option maxRecDepth 100000 in
set_option maxHeartbeats 4000000 in
theorem order35_any (l : List Sn) (v : Value) (w : World) (hl : l.length ≤ 100000) (hv : Sns w.heap.size w v l) :
    Calls Try.prog 35 #[v] w fun e w' => OrderR w.heap.size l e w' ∧ Below w.heap.size w w' := by
  obtain ⟨i0, hi, hz0, hz1, hz2⟩ := info_parts info34
  have HV := Lib.hid hv
  have HC := Lib.hid (may61_any l v w hl hv)
  obtain ⟨a, cap, rfl, hn, ha⟩ := hv
  have HN := Lib.hid hn
  have HA := Lib.hid ha
  clear hn ha
  go_enter Try.func35, Try.ntmps35
  go_wp2_with fail
  refine HC.out.mono ?_
  rintro e w1 ⟨rfl, b1⟩
  have HB1 := Lib.hid b1
  clear b1 HC
  cases hm : mayP l with
  | false =>
    have HM := Lib.hid hm
    clear hm
    go_wp2_with fail
    go_ret2
    exact ⟨.inl ⟨HM.out, rfl⟩, HB1.out⟩
  | true =>
    have HM := Lib.hid hm
    clear hm
    go_wp2_with fail
    go_loopw [4, 5] (fun vo io wr => ∃ q : Nat, q ≤ l.length ∧ io = .int .i64 q ∧ wr.ownsRow w.heap.size 34 3 vo (ordQ l q).length ((ordQ l q).flatMap Nm.cells) ∧ Below w.heap.size w wr) (fun _ io _ => l.length - (intOf io).toNat)
    case atStart => exact ⟨0, Nat.zero_le _, rfl, World.ownsRow_nil _ _ _ _, HB1.out⟩
    case round =>
      obtain ⟨q, hq, rfl, hown, hB⟩ := hrel
      have HO := Lib.hid hown
      have HB := Lib.hid hB
      clear hown hB
      by_cases hlt : q < l.length
      · obtain ⟨x, hx⟩ : ∃ x, l[q]? = some x := ⟨_, List.getElem?_eq_getElem hlt⟩
        obtain ⟨b, off, rfl, hb, hr⟩ := rows_some HN.out HA.out hlt
        obtain ⟨c0, c1, c2, c3, _⟩ := (hr.below hb HB.out).sn hx
        have HX := Lib.hid hx
        have HLT := Lib.hid hlt
        have HR := Lib.hid hr
        have hqs := ordQ_succ hx
        clear hr hx hlt
        by_cases k3 : x.k = 3
        · have k3_0 : (x.k == 3) = true := by simp [k3]
          have HC5 := Lib.hid (first_any l _ 5 x.n wr hl ((HV.out.below HB.out).mono HB.out.size))
          have HK := Lib.hid k3
          clear k3
          go_wp2_with fail
          refine HC5.out.mono ?_
          rintro e w2 ⟨rfl, b2⟩
          have HB2 := Lib.hid (HB.out.trans (b2.mono HB.out.size))
          have HO2 := Lib.hid (owns_below HO.out b2)
          obtain ⟨d0, d1, d2, d3, _⟩ := (HR.out.below hb HB2.out).sn HX.out
          have hge := firstAt_ge (k := 5) (n := x.n) (l := l)
          clear b2 HC5 c0 c1 c2 c3
          cases h5 : isC 5 x.n l with
          | true =>
            have e5 : decide (0 ≤ firstAt 5 x.n l 0) = true := by rw [h5] at hge; simpa using hge
            rw [if_pos ⟨HK.out, h5⟩] at hqs
            have hln := ordQ_length l (q + 1)
            rw [hqs, List.length_append] at hln
            have hln' : (ordQ l q).length + 1 ≤ 100000 := by simp at hln; omega
            have HQS := Lib.hid hqs
            clear hqs h5 hge hln
            generalize hoo : ordQ l q = acc at *
            generalize firstAt 5 x.n l 0 = f5 at *
            go_wp2_with (at_builtin; refine wpList_append_own _ rfl _ _ 45 rfl w.heap.size 34 i0 (.agg #[.int .i64 0, .int .i64 0, .int .i64 0]) 3 24 Try.underlying45 hi hz0 hz1 hz2 rfl (by decide) _ _ _ rfl (HO2.out.alloc _) ⟨w2.heap.size, 0, none⟩ 1 1 x.n.cells rfl rfl (cells_new w2 x.n.cells 34) (Nm.cells_one x.n) (by unfold maxLen; omega) (by omega) (by have := HB2.out.size; simp; omega) ?_; intro v5 w5 hown5 hg5 _)
            have H5 := Lib.hid hown5
            have HG5 := Lib.hid hg5
            clear hown5 hg5
            go_roundw
            case rel =>
              refine ⟨q + 1, by have := HLT.out; omega, by go_num, ?_, ?_⟩
              · rw [HQS.out]
                have := H5.out
                simpa using this
              · exact (HB2.out.alloc HB2.out.size _).grown HG5.out (by have := HB2.out.size; simp; omega) (fun k e => (HO2.out.lt k e).1)
            case measure => have := HLT.out; simp [intOf]; omega
          | false =>
            have e5 : decide (0 ≤ firstAt 5 x.n l 0) = false := by rw [h5] at hge; simpa using hge
            rw [if_neg (by simp [h5]), List.append_nil] at hqs
            have HQS := Lib.hid hqs
            clear hqs h5 hge
            generalize firstAt 5 x.n l 0 = f5 at *
            go_wp2_with fail
            go_roundw
            case rel => exact ⟨q + 1, by have := HLT.out; omega, by go_num, by rw [HQS.out]; exact HO2.out, HB2.out⟩
            case measure => have := HLT.out; simp [intOf]; omega
        · have k3_0 : (x.k == 3) = false := by simp [k3]
          rw [if_neg (fun h => k3 h.1), List.append_nil] at hqs
          have HQS := Lib.hid hqs
          clear k3 hqs
          go_wp2_with fail
          go_roundw
          case rel => exact ⟨q + 1, by have := HLT.out; omega, by go_num, by rw [HQS.out]; exact HO.out, HB.out⟩
          case measure => have := HLT.out; simp [intOf]; omega
      · obtain rfl : q = l.length := by omega
        have HF : Hid (wr.ownsRow w.heap.size 34 3 u4 (ordR l).length ((ordR l).flatMap Nm.cells)) := Lib.hid (by have := HO.out; rwa [ordQ_all] at this)
        go_wp2_with fail
        go_ret2
        exact ⟨.inr ⟨HM.out, _, rfl, HF.out⟩, HB.out⟩

end Go.Proofs.Ytgdmgeihgkbjaaa
/- 'cashboxref27.Replay' -/
namespace Go.Proofs.Ytgdmgeihgkbjaaa
open Go.RowKit Go.Shelf

theorem results_ctt {P : Program} {fn : Func} {p q t : Tmp} {ty : TypeId} (h : fn.results = #[.cell p ty, .tmp q, .tmp t]) {tmps : Array Value} {w : World} {a : Addr} {u v x : Value} (hp : tmps.getD p undef = .pointer (some a)) (ha : (loadVar ty a).run P w = .ok u w)
    (hq : tmps.getD q undef = v) (ht : tmps.getD t undef = x) : (results fn tmps).run P w = .ok (.tuple #[u, v, x]) w := by
  rw [Array.getD_eq_getD_getElem?] at hp hq ht
  simp [results, h, hp, hq, ht, asAddr, ha]

theorem stCells_at {W : World} {B i : Nat} {s : List V8} {v : V8} {t : TypeId} {fr : Nat × Nat} (hB : W.heap[B]? = some (.cells (stArr s) t fr)) (hi : s[i]? = some v) :
    W.cell? ⟨B, i * 8, none⟩ = some (.int .u8 v.a) ∧ W.cell? ⟨B, i * 8 + 1, none⟩ = some (.int .u8 v.b) ∧ W.cell? ⟨B, i * 8 + 2, none⟩ = some (.int .u8 v.c) ∧ W.cell? ⟨B, i * 8 + 3, none⟩ = some (.int .u8 v.d) ∧
    W.cell? ⟨B, i * 8 + 4, none⟩ = some (.int .u8 v.e) ∧ W.cell? ⟨B, i * 8 + 5, none⟩ = some (.int .u8 v.f) ∧ W.cell? ⟨B, i * 8 + 6, none⟩ = some (.int .u8 v.g) ∧ W.cell? ⟨B, i * 8 + 7, none⟩ = some (.int .u8 v.h) := by
  have hc : ∀ j c, v.cells[j]? = some c → W.cell? ⟨B, i * 8 + j, none⟩ = some c := by
    intro j c hj
    have hj8 : j < 8 := by
      have := (List.getElem?_eq_some_iff.1 hj).1
      simpa [V8.cells] using this
    rw [cell_of_row W B _ _ t fr hB]
    simp only [stArr, stCells, List.getElem?_toArray]
    rw [flat_get V8.cells_length s i v hi j hj8]
    exact hj
  exact ⟨hc 0 _ rfl, hc 1 _ rfl, hc 2 _ rfl, hc 3 _ rfl, hc 4 _ rfl, hc 5 _ rfl, hc 6 _ rfl, hc 7 _ rfl⟩

theorem wpList_stSet {ops : Array Oper} {rest : List Oper} {o : Oper} {a : Act} {w : World} {Q : Exit → Act → World → Prop} (hgd : o.guard = none) (x y : Operand) (ho : o.op = .store 23 x y)
    (B i : Nat) (hx : a.eval x = .pointer (some ⟨B, i * 8, none⟩)) (v : V8) (hy : a.eval y = v8Val v) {s : List V8} {t : TypeId} (hB : w.heap[B]? = some (.cells (stArr s) t (0, 0))) (hi : i < s.length)
    (h : ∀ w', w.grownBy w' (some B) → w'.heap[B]? = some (.cells (stArr (s.set i v)) t (0, 0)) → wpList Try.prog ops Q rest (a.put o.dst undef) w') : wpList Try.prog ops Q (o :: rest) a w :=
  wpList_store hgd 23 x y ho ⟨B, i * 8, none⟩ hx (v8Val v) hy (st_st v hB hi) (h _ (grownBy_setRow _ _ _) (setRow_heap w B _ _ t _ hB))

theorem CK.turn {n₀ n₁ : Nat} {A W W' : World} {B : Nat} (h : CK n₀ n₁ A W) (hg : W.grownBy W' (some B)) (hB : A.heap.size ≤ B ∨ (n₀ ≤ B ∧ B < n₁)) : CK n₀ n₁ A W' := fun k o hk ho hA => by
  have hW := h k o hk ho hA
  have hkA := lt_of_heap hA
  exact (hg.block k (lt_of_heap hW) (fun e => by cases e; omega)).trans hW

/-- What lies in Replay's loops: the results' cells, the state. -/
structure RfI (w w2 : World) (s : List V8) (W : World) : Prop where
  r0 : W.heap[w.heap.size]? = some (.cells (stArr st0) 24 (0, 0))
  st : W.heap[w.heap.size + 1]? = some (.cells (stArr s) 24 (0, 0))
  below : Below w.heap.size w W
  ck : CK w.heap.size (w.heap.size + 2) w2 W
  sz : w2.heap.size ≤ W.heap.size

theorem RfI.alloc {w w2 : World} {s : List V8} {W : World} (h : RfI w w2 s W) (o : Obj) : RfI w w2 s (W.alloc o) :=
  ⟨(Below.heap_alloc W o _ (lt_of_heap h.r0)).trans h.r0, (Below.heap_alloc W o _ (lt_of_heap h.st)).trans h.st, h.below.alloc h.below.size _, h.ck.trans (ck_alloc W o), by have := h.sz; simp; omega⟩

theorem RfI.drew {w w2 : World} {s : List V8} {W : World} (h : RfI w w2 s W) (n : Nat) : RfI w w2 s (W.drewN n) := ⟨h.r0, h.st, Below.drewN' h.below n, h.ck, h.sz⟩

theorem RfI.turn {w w2 : World} {s : List V8} {W W' : World} (h : RfI w w2 s W) {B : Nat} (hg : W.grownBy W' (some B)) (h2 : w2.heap.size ≤ B) (h3 : w.heap.size + 2 ≤ B) : RfI w w2 s W' :=
  ⟨cells_turn h.r0 hg (by omega), cells_turn h.st hg (by omega), h.below.grown hg h.below.size (fun k e => by cases e; omega), h.ck.turn hg (.inl h2), Nat.le_trans h.sz hg.size⟩

theorem RfI.set {w w2 : World} {s s' : List V8} {W W' : World} (h : RfI w w2 s W) (hg : W.grownBy W' (some (w.heap.size + 1))) (hs : W'.heap[w.heap.size + 1]? = some (.cells (stArr s') 24 (0, 0))) : RfI w w2 s' W' :=
  ⟨cells_turn h.r0 hg (by omega), hs, h.below.grown hg h.below.size (fun k e => by cases e; omega), h.ck.turn hg (.inr ⟨by omega, by omega⟩), Nat.le_trans h.sz hg.size⟩

set_option maxRecDepth 100000 in
set_option maxHeartbeats 4000000 in
theorem replay38_no (l : List Sn) (v : Value) (w : World) (hl : l.length ≤ 100000) (hv : Sns w.heap.size w v l) (hm : mayP l = false) :
    Calls Try.prog 38 #[v] w fun e w' => e = .returned (.tuple #[.agg (stArr st0), .bool false, .int .i64 2]) ∧ Below w.heap.size w w' := by
  have h0 : ((w.alloc (.cells (stArr st0) 24)).alloc (.cells (stArr st0) 24)).heap[w.heap.size]? = some (.cells (stArr st0) 24 (0, 0)) := heap_alloc2_old w _ _
  have h1 : ((w.alloc (.cells (stArr st0) 24)).alloc (.cells (stArr st0) 24)).heap[w.heap.size + 1]? = some (.cells (stArr st0) 24 (0, 0)) := heap_alloc2_new w _ _
  have hb : Below w.heap.size w ((w.alloc (.cells (stArr st0) 24)).alloc (.cells (stArr st0) 24)) := ((Below.refl _ _).alloc (Nat.le_refl _) _).alloc (by simp) _
  have hC := order35_any l v _ hl ((hv.below hb).mono hb.size)
  obtain ⟨w2, hw2⟩ : ∃ w2, (w.alloc (.cells (stArr st0) 24)).alloc (.cells (stArr st0) 24) = w2 := ⟨_, rfl⟩
  rw [hw2] at h0 h1 hb hC
  have HW2 := Lib.hid hw2
  have HC := Lib.hid hC
  have H0 := Lib.hid h0
  have H1 := Lib.hid h1
  have HB := Lib.hid hb
  have HM := Lib.hid hm
  clear hw2 hC h0 h1 hb hm hv
  go_enter Try.func38, Try.ntmps38
  go_wp2_with (rw [zero24s])
  rw [HW2.out]
  refine HC.out.mono ?_
  rintro e w3 ⟨h, b3⟩
  rcases h with ⟨_, rfl⟩ | ⟨h2, _⟩
  · have B3 := Lib.hid (HB.out.trans (b3.mono HB.out.size))
    have H03 : Hid (w3.heap[w.heap.size]? = some (.cells (stArr st0) 24 (0, 0))) := (b3.block _ (lt_of_heap H0.out)).trans H0.out
    have H13 : Hid (w3.heap[w.heap.size + 1]? = some (.cells (stArr st0) 24 (0, 0))) := (b3.block _ (lt_of_heap H1.out)).trans H1.out
    clear b3
    go_wp2_with (first | (refine wpList_load rfl 24 (.tmp 5) rfl ⟨w.heap.size + 1, 0, none⟩ rfl (.agg (stArr st0)) (ld_all H13.out (by decide)) ?_) | (refine wpList_store rfl 24 (.tmp 2) (.tmp 19) rfl ⟨w.heap.size, 0, none⟩ rfl (.agg (stArr st0)) rfl (st_all _ H03.out (by decide) (by decide)) ?_))
    have hl5 := ld_all (setRow_heap w3 w.heap.size (stArr st0) (stArr st0) 24 (0, 0) H03.out) (show st0.length = 32 by decide)
    refine bodyPost_ret (v := .tuple #[.agg (stArr st0), .bool false, .int .i64 2]) (results_ctt Try.results38 rfl hl5 rfl rfl) rfl ⟨rfl, ?_⟩
    exact B3.out.grown (grownBy_setRow _ _ _) B3.out.size (fun k e => by cases e; omega)
  · rw [HM.out] at h2; cases h2

theorem rep_skip {n : Nm} {x : Sn} {r : List Sn} {k : Nat} (h : ¬ (x.n = n ∧ (x.k = 1 ∨ x.k = 2))) : nmSteps n (x :: r) k = nmSteps n r (k + 1) := by
  conv => lhs; unfold nmSteps
  rw [if_neg h]
theorem rep_take {n : Nm} {x : Sn} {r : List Sn} {k : Nat} (h1 : x.n = n) (h2 : x.k = 1 ∨ x.k = 2) : nmSteps n (x :: r) k = (k, x) :: nmSteps n r (k + 1) := by
  conv => lhs; unfold nmSteps
  rw [if_pos ⟨h1, h2⟩]

set_option maxRecDepth 100000 in
set_option maxHeartbeats 8000000 in
theorem replay38_ok (l : List Sn) (v : Value) (w : World) (hl : l.length ≤ 100000) (hv : Sns w.heap.size w v l) (hm : mayP l = true) :
    Calls Try.prog 38 #[v] w fun e w' => e = .returned (.tuple #[.agg (stArr (repP l).1), .bool (repP l).2, .int .i64 0]) ∧ Below w.heap.size w w' := by
  have h0 : ((w.alloc (.cells (stArr st0) 24)).alloc (.cells (stArr st0) 24)).heap[w.heap.size]? = some (.cells (stArr st0) 24 (0, 0)) := heap_alloc2_old w _ _
  have h1 : ((w.alloc (.cells (stArr st0) 24)).alloc (.cells (stArr st0) 24)).heap[w.heap.size + 1]? = some (.cells (stArr st0) 24 (0, 0)) := heap_alloc2_new w _ _
  have hb : Below w.heap.size w ((w.alloc (.cells (stArr st0) 24)).alloc (.cells (stArr st0) 24)) := ((Below.refl _ _).alloc (Nat.le_refl _) _).alloc (by simp) _
  have hsz1 : ((w.alloc (.cells (stArr st0) 24)).alloc (.cells (stArr st0) 24)).heap.size = w.heap.size + 2 := by simp
  have hC := order35_any l v _ hl ((hv.below hb).mono hb.size)
  obtain ⟨w1, hw1⟩ : ∃ w1, (w.alloc (.cells (stArr st0) 24)).alloc (.cells (stArr st0) 24) = w1 := ⟨_, rfl⟩
  rw [hw1] at h0 h1 hb hC hsz1
  obtain ⟨a, cap, rfl, hn, ha⟩ := hv
  have HN := Lib.hid hn
  have HA := Lib.hid ha
  have HW1 := Lib.hid hw1
  have HC := Lib.hid hC
  have H0 := Lib.hid h0
  have H1 := Lib.hid h1
  have HB := Lib.hid hb
  have HM := Lib.hid hm
  have HSZ1 := Lib.hid hsz1
  clear hw1 hC h0 h1 hb hm hn ha hsz1
  go_enter Try.func38, Try.ntmps38
  go_wp2_with (rw [zero24s])
  rw [HW1.out]
  refine HC.out.mono ?_
  rintro e w2 ⟨h, b2⟩
  rcases h with ⟨h2, _⟩ | ⟨_, vn, rfl, hrow⟩
  · rw [HM.out] at h2; cases h2
  obtain ⟨na, nc, rfl⟩ := ownsRow_slice hrow
  have HNS : Hid (∀ (q : Nat) n, (ordR l)[q]? = some n → ∃ g, na = some ⟨g, 0, none⟩ ∧ w.heap.size + 2 ≤ g ∧ RowsAt Nm.cells 3 w2 g 0 (ordR l)) := Lib.hid (fun q n hq => by
    obtain ⟨g, h1, h2, _, h4⟩ := owns_rows (enc := Nm.cells) (fun _ => rfl) hrow (by have := (List.getElem?_eq_some_iff.1 hq).1; omega) rfl
    exact ⟨g, h1, by have := HSZ1.out; omega, h4⟩)
  have hI0 : RfI w w2 st0 w2 := ⟨(b2.block _ (lt_of_heap H0.out)).trans H0.out, (b2.block _ (lt_of_heap H1.out)).trans H1.out, HB.out.trans (b2.mono HB.out.size), CK.refl _ _ _, Nat.le_refl _⟩
  have HI0 := Lib.hid hI0
  have hol := ordR_le l
  have HOL : Hid ((ordR l).length ≤ 100000) := Lib.hid (by omega)
  have HS2 : Hid (w.heap.size + 2 ≤ w2.heap.size) := Lib.hid (by have := b2.size; have := HSZ1.out; omega)
  clear hrow b2 hI0 hol HW1 HC H0 H1 HB
  go_wp2_with fail
  go_loopw [8, 9] (fun so io wr => ∃ (q : Nat) (s : List V8) (ok : Bool), q ≤ (ordR l).length ∧ so = .bool ok ∧ io = .int .i64 q ∧ s.length = 32 ∧ RfI w w2 s wr ∧ ((ordR l).drop q).foldl (repName l) (s, ok) = repP l) (fun _ io _ => (ordR l).length - (intOf io).toNat)
  case atStart => exact ⟨0, st0, true, Nat.zero_le _, rfl, rfl, rfl, HI0.out, rfl⟩
  case round =>
    obtain ⟨q, s, ok, hq, rfl, rfl, hs, hI, hF⟩ := hrel
    have HI := Lib.hid hI
    have HF := Lib.hid hF
    clear hI hF
    by_cases hlt : q < (ordR l).length
    · obtain ⟨n, hn⟩ : ∃ n, (ordR l)[q]? = some n := ⟨_, List.getElem?_eq_getElem hlt⟩
      obtain ⟨g, rfl, hg2, hgr⟩ := HNS.out q n hn
      have HF2 : Hid (((ordR l).drop (q + 1)).foldl (repName l) (repName l (s, ok) n) = repP l) := Lib.hid (by
        rw [← HF.out]
        obtain ⟨e1, e2⟩ := List.getElem?_eq_some_iff.1 hn
        rw [List.drop_eq_getElem_cons e1, e2]
        rfl)
      have HGR := Lib.hid hgr
      have HG2 := Lib.hid hg2
      have HNQ := Lib.hid hn
      have HLT := Lib.hid hlt
      have hBo : w2.heap.size ≤ wr.heap.size := HI.out.sz
      obtain ⟨Wa, hWa⟩ : ∃ Wa, (wr.alloc (.cells (stArr st0) 24)).setRow wr.heap.size (stArr s) = Wa := ⟨_, rfl⟩
      have hIa : RfI w w2 s Wa := by
        rw [← hWa]
        exact (HI.out.alloc _).turn (grownBy_setRow _ _ _) hBo (by have := HS2.out; omega)
      have hOa : Wa.heap[wr.heap.size]? = some (.cells (stArr s) 24 (0, 0)) := by
        rw [← hWa]
        exact setRow_heap _ _ _ _ _ _ (heap_alloc_new wr _)
      have HWa := Lib.hid hWa
      have HIA := Lib.hid hIa
      have HOA := Lib.hid hOa
      have HBO := Lib.hid hBo
      clear hgr hg2 hn hWa hIa hOa hBo hlt
      go_wp2_with (first | (refine wpList_load rfl 24 (.tmp 5) rfl ⟨w.heap.size + 1, 0, none⟩ rfl (.agg (stArr s)) (ld_all HI.out.st hs) ?_) | (rw [zero24s]; refine wpList_store rfl 24 (.tmp 10) (.tmp 27) rfl ⟨wr.heap.size, 0, none⟩ rfl (.agg (stArr s)) rfl (st_all _ (heap_alloc_new wr _) (by decide) hs) ?_))
      rw [HWa.out]
      have HXS : Hid (w2.heap.size ≤ wr.heap.size ∧ Wa.heap[wr.heap.size]? = some (.cells (stArr s) 24 (0, 0))) := Lib.hid ⟨HBO.out, HOA.out⟩
      clear HWa HBO HOA
      generalize wr.heap.size = Bo at HXS ⊢
      have HBO : Hid (w2.heap.size ≤ Bo) := HXS.out.1
      have HOA : Hid (Wa.heap[Bo]? = some (.cells (stArr s) 24 (0, 0))) := HXS.out.2
      clear HXS HI HF
      go_loopw [8, 11] (fun so jo wi => ∃ (k : Nat) (s' : List V8) (ok' : Bool), k ≤ l.length ∧ so = .bool ok' ∧ jo = .int .i64 k ∧ s'.length = 32 ∧ wi.heap[Bo]? = some (.cells (stArr s') 24 (0, 0)) ∧ RfI w w2 s wi ∧ ((nmSteps n (l.drop k) k).map (·.2)).foldl repStep (s', ok') = repName l (s, ok) n) (fun _ jo _ => l.length - (intOf jo).toNat)
      case atStart => exact ⟨0, s, ok, Nat.zero_le _, rfl, rfl, hs, HOA.out, HIA.out, rfl⟩
      case round =>
        obtain ⟨k, s', ok', hk, rfl, rfl, hs', hO, hI, hF⟩ := hrel
        have HO := Lib.hid hO
        have HII := Lib.hid hI
        have HFI := Lib.hid hF
        clear hO hI hF
        by_cases hklt : k < l.length
        · obtain ⟨x, hx⟩ : ∃ x, l[k]? = some x := ⟨_, List.getElem?_eq_getElem hklt⟩
          obtain ⟨b, off, rfl, hb, hr⟩ := rows_some HN.out HA.out hklt
          obtain ⟨c0, c1, c2, c3, c4, c5, c6, c7, c8, c9, c10, c11, c12, c13⟩ := (hr.below hb HII.out.below).sn hx
          have hgr2 := HGR.out.ck HII.out.ck (.inr HG2.out)
          have g0 := hgr2 q n HNQ.out 0 _ rfl
          have g1 := hgr2 q n HNQ.out 1 _ rfl
          have g2 := hgr2 q n HNQ.out 2 _ rfl
          simp only [Nat.zero_add, Nat.add_zero] at g0 g1 g2
          have hdr := drop_cons hx
          have HX := Lib.hid hx
          have HKL := Lib.hid hklt
          have HDR := Lib.hid hdr
          have hqi : (q : Int) < ((ordR l).length : Int) := by have := HLT.out; omega
          have hen := fun w => neq_nm x.n n w
          have HR := Lib.hid hr
          clear hr hgr2 hx hdr hklt
          by_cases hnn : x.n = n
          · have e_n : decide (x.n = n) = true := by simp [hnn]
            by_cases k1 : x.k = 1
            · have e_k : (x.k == 1) = true := by simp [k1]
              have e_k2 : (x.k == 2) = false := by simp [k1]
              obtain ⟨hx0, hx1⟩ := step_range HM.out HX.out (.inl k1)
              obtain ⟨y, hy⟩ : ∃ y, s'[x.b.toNat]? = some y := ⟨_, List.getElem?_eq_getElem (by omega)⟩
              obtain ⟨d0, d1, d2, d3, d4, d5, d6, d7⟩ := stCells_at HO.out hy
              have hev := fun w => neq_v8 y x.v w
              have HST : Hid (repStep (s', ok') x = (s', ok' && decide (y = x.v))) := Lib.hid (by simp [repStep, k1, hy])
              have HFN : Hid (((nmSteps n (l.drop (k + 1)) (k + 1)).map (·.2)).foldl repStep (s', ok' && decide (y = x.v)) = repName l (s, ok) n) := Lib.hid (by
                rw [← HFI.out, HDR.out, rep_take hnn (.inl k1), List.map_cons, List.foldl_cons, HST.out])
              clear hy hnn k1
              by_cases hyv : y = x.v
              · have e_v : decide (y = x.v) = true := by simp [hyv]
                rw [e_v, Bool.and_true] at HFN
                clear hyv
                go_wp2_with fail
                go_quiet (fail)
                go_wp2_with fail
                go_quiet (fail)
                go_wp2_with fail
                go_roundw
                case rel => exact ⟨k + 1, s', ok', by have := HKL.out; omega, rfl, by go_num, hs', HO.out, HII.out.drew _, HFN.out⟩
                case measure => have := HKL.out; simp [intOf]; omega
              · have e_v : decide (y = x.v) = false := by simp [hyv]
                rw [e_v, Bool.and_false] at HFN
                clear hyv
                go_wp2_with fail
                go_quiet (fail)
                go_wp2_with fail
                go_quiet (fail)
                go_wp2_with fail
                go_roundw
                case rel => exact ⟨k + 1, s', false, by have := HKL.out; omega, rfl, by go_num, hs', HO.out, HII.out.drew _, HFN.out⟩
                case measure => have := HKL.out; simp [intOf]; omega
            · have e_k : (x.k == 1) = false := by simp [k1]
              by_cases k2 : x.k = 2
              · have e_k2 : (x.k == 2) = true := by simp [k2]
                obtain ⟨hx0, hx1⟩ := step_range HM.out HX.out (.inr k2)
                have HST : Hid (repStep (s', ok') x = (s'.set x.b.toNat x.v, ok')) := Lib.hid (by simp [repStep, k1])
                have HFN : Hid (((nmSteps n (l.drop (k + 1)) (k + 1)).map (·.2)).foldl repStep (s'.set x.b.toNat x.v, ok') = repName l (s, ok) n) := Lib.hid (by
                  rw [← HFI.out, HDR.out, rep_take hnn (.inr k2), List.map_cons, List.foldl_cons, HST.out])
                have hj : x.b.toNat < s'.length := by omega
                clear hnn k1 k2
                go_wp2_with fail
                go_quiet (fail)
                generalize nq = n1 at *
                go_wp2_with fail
                go_quiet (fail)
                generalize nq = n2 at *
                go_upto_region 17 with (fail)
                have hO4 : (wr.drewN (n1 + n2)).heap[Bo]? = some (.cells (stArr s') 24 (0, 0)) := HO.out
                have hI4 : RfI w w2 s (wr.drewN (n1 + n2)) := HII.out.drew (n1 + n2)
                have HO4 := Lib.hid hO4
                have HI4 := Lib.hid hI4
                clear hO4 hI4 c0 c1 c2 c3 c4 c5 c6 c7 c8 c9 c10 c11 c12 c13 g0 g1 g2 HO HII
                generalize wr.drewN (n1 + n2) = w7 at HO4 HI4 ⊢
                obtain ⟨c0, c1, c2, c3, c4, c5, c6, c7, c8, c9, c10, c11, c12, c13⟩ := (HR.out.below hb HI4.out.below).sn HX.out
                go_still_tail 11, (by kernel_rfl)
                change wpList _ _ _ _ _ w7.drew
                have hO3 : w7.drew.heap[Bo]? = some (.cells (stArr s') 24 (0, 0)) := HO4.out
                have hI3 : RfI w w2 s w7.drew := HI4.out.drew 1
                have HO3 := Lib.hid hO3
                have HI3 := Lib.hid hI3
                clear hO3 hI3 c0 c1 c2 c3 c4 c5 c6 c7 c8 c9 c10 c11 c12 c13 HO4 HI4
                generalize w7.drew = wq at HO3 HI3 ⊢
                obtain ⟨c0, c1, c2, c3, c4, c5, c6, c7, c8, c9, c10, c11, c12, c13⟩ := (HR.out.below hb HI3.out.below).sn HX.out
                go_wp2_with (refine wpList_stSet rfl (.tmp 81) (.tmp 80) rfl Bo x.b.toNat rfl x.v rfl HO3.out hj ?_; intro W2 hg2 hst2)
                go_roundw
                case rel => exact ⟨k + 1, s'.set x.b.toNat x.v, ok', by have := HKL.out; omega, rfl, by go_num, by simpa using hs', hst2, HI3.out.turn hg2 HBO.out (by have := HS2.out; have := HBO.out; omega), HFN.out⟩
                case measure => have := HKL.out; simp [intOf]; omega
              · have e_k2 : (x.k == 2) = false := by simp [k2]
                have HFN : Hid (((nmSteps n (l.drop (k + 1)) (k + 1)).map (·.2)).foldl repStep (s', ok') = repName l (s, ok) n) := Lib.hid (by
                  rw [← HFI.out, HDR.out, rep_skip (fun h => by omega)])
                clear hnn k1 k2
                go_wp2_with fail
                go_quiet (fail)
                go_wp2_with fail
                go_quiet (fail)
                go_wp2_with fail
                go_roundw
                case rel => exact ⟨k + 1, s', ok', by have := HKL.out; omega, rfl, by go_num, hs', HO.out, HII.out.drew _, HFN.out⟩
                case measure => have := HKL.out; simp [intOf]; omega
          · have e_n : decide (x.n = n) = false := by simp [hnn]
            have HFN : Hid (((nmSteps n (l.drop (k + 1)) (k + 1)).map (·.2)).foldl repStep (s', ok') = repName l (s, ok) n) := Lib.hid (by
              rw [← HFI.out, HDR.out, rep_skip (fun h => hnn h.1)])
            clear hnn
            go_wp2_with fail
            go_quiet (fail)
            go_wp2_with fail
            go_roundw
            case rel => exact ⟨k + 1, s', ok', by have := HKL.out; omega, rfl, by go_num, hs', HO.out, HII.out.drew _, HFN.out⟩
            case measure => have := HKL.out; simp [intOf]; omega
        · have hol := HOL.out
          have hqi : (q : Int) < ((ordR l).length : Int) := by have := HLT.out; omega
          have HFN : Hid ((s', ok') = repName l (s, ok) n) := Lib.hid (by rw [← HFI.out, drop_end hklt]; rfl)
          go_wp2_with (first | (refine wpList_load rfl 24 (.tmp 10) rfl ⟨Bo, 0, none⟩ rfl (.agg (stArr s')) (ld_all HO.out hs') ?_) | (refine wpList_store rfl 24 (.tmp 5) (.tmp 82) rfl ⟨w.heap.size + 1, 0, none⟩ rfl (.agg (stArr s')) rfl (st_all _ HII.out.st hs hs') ?_))
          go_roundw
          case rel => exact ⟨q + 1, s', ok', by have := HLT.out; omega, rfl, by go_num, hs', HII.out.set (grownBy_setRow _ _ _) (setRow_heap _ _ _ _ _ _ HII.out.st), by rw [HFN.out]; exact HF2.out⟩
          case measure => have := HLT.out; simp [intOf]; omega
    · have HFN : Hid ((s, ok) = repP l) := Lib.hid (by rw [← HF.out, drop_end hlt]; rfl)
      go_wp2_with (first | (refine wpList_load rfl 24 (.tmp 5) rfl ⟨w.heap.size + 1, 0, none⟩ rfl (.agg (stArr s)) (ld_all HI.out.st hs) ?_) | (refine wpList_store rfl 24 (.tmp 2) (.tmp 83) rfl ⟨w.heap.size, 0, none⟩ rfl (.agg (stArr s)) rfl (st_all _ HI.out.r0 (by decide) hs) ?_))
      have hl5 := ld_all (setRow_heap wr w.heap.size (stArr st0) (stArr s) 24 (0, 0) HI.out.r0) hs
      refine bodyPost_ret (v := .tuple #[.agg (stArr s), .bool ok, .int .i64 0]) (results_ctt Try.results38 rfl hl5 rfl rfl) rfl ⟨by rw [← HFN.out], ?_⟩
      exact HI.out.below.grown (grownBy_setRow _ _ _) HI.out.below.size (fun k e => by cases e; omega)

end Go.Proofs.Ytgdmgeihgkbjaaa
