/- What a replay leaves in a block: what the last one in the order that wrote it wrote last. -/
import Derived.Test.YtgdmgeihgkbjaaaReplay
namespace Go.Proofs.Ytgdmgeihgkbjaaa
open Go.RowKit

def wStep (n : Nm) (blk : Int) (v : V8) (x : Sn) : V8 := if x.k = 2 ∧ x.n = n ∧ x.b = blk then x.v else v
def wantN (l : List Sn) (blk : Int) (v : V8) (n : Nm) : V8 := l.foldl (wStep n blk) v
def wantP (l : List Sn) (blk : Int) : V8 := (ordR l).foldl (wantN l blk) z0

theorem nm_last (n : Nm) (blk : Int) (hb : 0 ≤ blk) : ∀ (r : List Sn) (i : Nat) (s : List V8 × Bool) (v : V8), (∀ x ∈ r, x.k = 1 ∨ x.k = 2 → 0 ≤ x.b ∧ x.b < 32) → s.1.length = 32 → s.1[blk.toNat]? = some v →
    ((((nmSteps n r i).map (·.2)).foldl repStep s).1)[blk.toNat]? = some (r.foldl (wStep n blk) v)
  | [], _, _, _, _, _, hv => hv
  | x :: r, i, s, v, hr, hs, hv => by
    have hr' : ∀ x ∈ r, x.k = 1 ∨ x.k = 2 → 0 ≤ x.b ∧ x.b < 32 := fun y hy => hr y (List.mem_cons_of_mem _ hy)
    simp only [nmSteps, List.foldl_cons]
    by_cases hx : x.n = n ∧ (x.k = 1 ∨ x.k = 2)
    · rw [if_pos hx, List.map_cons, List.foldl_cons]
      obtain ⟨h0, h1⟩ := hr x (by simp) hx.2
      by_cases hk : x.k = 1
      · have e1 : repStep s x = (s.1, s.2 && decide (s.1[x.b.toNat]?.getD z0 = x.v)) := by simp [repStep, hk]
        have e2 : wStep n blk v x = v := by unfold wStep; rw [if_neg (by omega)]
        rw [e2]
        exact nm_last n blk hb r (i + 1) _ v hr' (by rw [e1]; exact hs) (by rw [e1]; exact hv)
      · have e1 : repStep s x = (s.1.set x.b.toNat x.v, s.2) := by simp [repStep, hk]
        refine nm_last n blk hb r (i + 1) _ _ hr' (by rw [e1]; simpa using hs) ?_
        rw [e1]
        unfold wStep
        by_cases hbk : x.b = blk
        · rw [if_pos ⟨by omega, hx.1, hbk⟩, ← hbk]
          simp [List.getElem?_set]; omega
        · rw [if_neg (fun h => hbk h.2.2)]
          have : x.b.toNat ≠ blk.toNat := by omega
          simp only [List.getElem?_set, this, if_false]
          exact hv
    · rw [if_neg hx]
      have e2 : wStep n blk v x = v := by unfold wStep; rw [if_neg (fun h => hx ⟨h.2.1, .inr h.1⟩)]
      rw [e2]
      exact nm_last n blk hb r (i + 1) s v hr' hs hv

theorem rep_last {l : List Sn} (hm : mayP l = true) (blk : Int) (hb : 0 ≤ blk) : ∀ (ns : List Nm) (s : List V8 × Bool) (v : V8), s.1.length = 32 → s.1[blk.toNat]? = some v → ((ns.foldl (repName l) s).1)[blk.toNat]? = some (ns.foldl (wantN l blk) v)
  | [], _, _, _, hv => hv
  | n :: ns, s, v, hs, hv => by
    rw [List.foldl_cons, List.foldl_cons]
    refine rep_last hm blk hb ns _ _ (by rw [repName_length]; exact hs) ?_
    refine nm_last n blk hb l 0 s v (fun x hx hk => ?_) hs hv
    obtain ⟨i, hi⟩ := List.getElem?_of_mem hx
    exact step_range hm hi hk

theorem last_law {l : List Sn} (hm : mayP l = true) {blk : Int} (hb : 0 ≤ blk) (hb2 : blk < 32) : (repP l).1[blk.toNat]? = some (wantP l blk) := by
  refine rep_last hm blk hb (ordR l) _ _ (by decide) ?_
  have : blk.toNat < 32 := by omega
  show (List.replicate 32 z0)[blk.toNat]? = some z0
  rw [List.getElem?_replicate, if_pos this]

theorem repP_length (l : List Sn) : (repP l).1.length = 32 := by
  unfold repP
  have : ∀ (ns : List Nm) (s : List V8 × Bool), (ns.foldl (repName l) s).1.length = s.1.length := by
    intro ns
    induction ns with
    | nil => intro s; rfl
    | cons n ns ih => intro s; rw [List.foldl_cons, ih, repName_length]
  rw [this]; decide

end Go.Proofs.Ytgdmgeihgkbjaaa
