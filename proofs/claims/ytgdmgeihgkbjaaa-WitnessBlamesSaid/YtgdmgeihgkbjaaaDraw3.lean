/- A region that draws its order and hands on to a loop's body: the call of yield; results not known beforehand. -/
import Derived.Test.YtgdmgeihgkbjaaaDraw2
namespace Go.Proofs.Ytgdmgeihgkbjaaa
open Go.RowKit Go.Shelf

/-- An operation that hands back a value, at the wide fence: a builtin's call too. -/
theorem opIn_valueW {n : Nat} {o : Oper} {a : Act} {w : World} {K : Act → World → Prop} {Q : Exit → Act → World → Prop} (hd : ∀ c, o.op ≠ .defer c)
    {v : Value} {w' : World} (hr : (execOp a.eval o).run Try.prog w = .ok (.value v) w') (h : K (a.put o.dst v) w') : o.wpIn Fence.wide n Try.prog a w K Q := by
  unfold Oper.wpIn
  refine ⟨fun _ _ => trivial, ?_⟩
  rw [Oper.semAt_plain _ _ _ (by intro c hc'; exact hd c hc'), hr]
  exact h

/-- The call of yield. -/
theorem opIn_round {n : Nat} {o : Oper} {a : Act} {w : World} {K : Act → World → Prop} {Q : Exit → Act → World → Prop} (hd : ∀ c, o.op ≠ .defer c) {l : Nat} {f : FuncId} {tmps : Array Value} {assign body : Code}
    (hr : (execOp a.eval o).run Try.prog w = .ok (.round l f tmps assign body) w) {R : Ending → World → Prop} (hc : RoundIn Fence.wide n Try.prog l f tmps assign body w R) (hR : ∀ e w', R e w' → ∃ r, e = .returned r ∧ K (a.put o.dst r) w') :
    o.wpIn Fence.wide (n + 1) Try.prog a w K Q := by
  unfold Oper.wpIn
  refine ⟨fun _ _ => trivial, ?_⟩
  rw [Oper.semAt_plain _ _ _ (by intro c hc'; exact hd c hc'), hr, Oper.uponIn_round]
  refine ⟨fun _ => by omega, hc.mono ?_⟩
  intro e w' h
  obtain ⟨r, rfl, hk⟩ := hR e w' h
  exact hk

/-- Two lists of what is written: the same slots by the same operations; the same values wherever the operation has been carried out. -/
inductive SameW (L : Nat → Bool) : List (Nat × Nat × Value) → List (Nat × Nat × Value) → Prop
  | nil : SameW L [] []
  | cons {k d : Nat} {v v' : Value} {r r' : List (Nat × Nat × Value)} (h : L k = true → v = v') (t : SameW L r r') : SameW L ((k, d, v) :: r) ((k, d, v') :: r')

theorem SameW.slot {L : Nat → Bool} {ps ps' : List (Nat × Nat × Value)} (h : SameW L ps ps') (i : Nat) : (slotOf ps i = none ∧ slotOf ps' i = none) ∨ ∃ k v v', slotOf ps i = some (k, v) ∧ slotOf ps' i = some (k, v') ∧ (L k = true → v = v') := by
  induction h with
  | nil => exact .inl ⟨rfl, rfl⟩
  | @cons k d v v' r r' h t ih =>
    simp only [slotOf]
    by_cases hd : d = i
    · rw [if_pos hd, if_pos hd]; exact .inr ⟨k, v, v', rfl, rfl, h⟩
    · rw [if_neg hd, if_neg hd]; exact ih

theorem frame_swap {L : Nat → Bool} {a : Act} {ps ps' : List (Nat × Nat × Value)} (h : SameW L ps ps') : frameOf L a ps = frameOf L a ps' := by
  refine act_ext (fun i => ?_) rfl
  rw [frame_get, frame_get]
  cases a.tmps[i]? with
  | none => rfl
  | some u =>
    simp only [Option.map_some]
    rcases h.slot i with ⟨h1, h2⟩ | ⟨k, v, v', h1, h2, h3⟩
    · rw [h1, h2]
    · rw [h1, h2]
      cases hL : L k with
      | false => simp [hL]
      | true => rw [h3 hL]

/-- The world ahead of the call and behind it. -/
def YT (w0 : World) (Post : Bool → World → Prop) (d : Bool) (e : Bool) (W : World) : Prop := (d = false → W = w0) ∧ (d = true → Post e W)

theorem YT.start {w0 : World} {Post : Bool → World → Prop} {e : Bool} : YT w0 Post false e w0 := ⟨fun _ => rfl, fun h => by cases h⟩

end Go.Proofs.Ytgdmgeihgkbjaaa
