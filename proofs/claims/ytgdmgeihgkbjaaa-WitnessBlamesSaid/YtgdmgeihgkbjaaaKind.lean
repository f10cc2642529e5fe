/- 'witness.kind' -/
import Derived.Test.YtgdmgeihgkbjaaaWhose
namespace Go.Proofs.Ytgdmgeihgkbjaaa
open Go.RowKit Go.Shelf

theorem zero3 (w : World) : (zeroValue 3).run Try.prog w = .ok (.int .i64 0) w := by simp [go_sem]

theorem drewn1 (w : World) (n : Nat) : ∃ k, w.drewN n = w.drewN k := ⟨n, rfl⟩
theorem drewn2 (w : World) (n m : Nat) : ∃ k, (w.drewN n).drewN m = w.drewN k := ⟨n + m, World.drewN_drewN _ _ _⟩
theorem drewn3 (w : World) (n m r : Nat) : ∃ k, ((w.drewN n).drewN m).drewN r = w.drewN k := ⟨n + (m + r), by rw [World.drewN_drewN, World.drewN_drewN]⟩

theorem lookup_place {W : World} {Mp : Nat} {ns : List Nm} (hn : ns.Nodup) (hm : MapIs nmV intV W Mp (plF [] ns 0)) (n : Nm) (k : Nat) :
    (Instr.lookup 117 (.map (some Mp)) (.agg #[.int .i64 n.s, .int .i64 n.i, .int .i64 n.t]) false).run Try.prog (W.drewN k) = .ok (.int .i64 (placeOf ns n)) (W.drewN k) := by
  have h := run_look (w := W.drewN k) Try.underlying117 nmKey zero3 (hm.kept (w' := W.drewN k) (show (W.drewN k).heap[Mp]? = W.heap[Mp]? from rfl)) n
  have e : (((look (plF [] ns 0) n).map intV).getD (.int .i64 0)) = .int .i64 (placeOf ns n) := by
    rw [← look_place ns hn n]
    cases look (plF [] ns 0) n <;> rfl
  rw [e] at h
  exact h

set_option maxRecDepth 100000 in
set_option maxHeartbeats 4000000 in
theorem kind_any (f : Ft) (ns : List Nm) (hn : ns.Nodup) (Bv Bf Mp : Nat) (y z : Value) (w : World) (hb : w.heap[Bv]? = some (.cells #[y, z, .map (some Mp)] 119 (0, 0))) (hf : w.heap[Bf]? = some (.cells (ftArr f) 59 (0, 0))) (hm : MapIs nmV intV w Mp (plF [] ns 0)) :
    Calls Try.prog 76 #[.pointer (some ⟨Bv, 0, none⟩), .pointer (some ⟨Bf, 0, none⟩)] w fun e w' => e = .returned (.int .i8 (kindP ns f.n f.was f.got)) ∧ ∃ k, w' = w.drewN k := by
  have cv : w.cell? ⟨Bv, 2, none⟩ = some (.map (some Mp)) := by rw [cell_of_row w _ _ _ 119 (0, 0) hb]; rfl
  have hc : ∀ j u, (ftArr f)[j]? = some u → w.cell? ⟨Bf, j, none⟩ = some u := fun j u hu => by rw [cell_of_row w _ _ _ 59 (0, 0) hf]; exact hu
  have n0 : w.cell? ⟨Bf, 1, none⟩ = some (.int .i64 f.n.s) := hc 1 _ rfl
  have n1 : w.cell? ⟨Bf, 2, none⟩ = some (.int .i64 f.n.i) := hc 2 _ rfl
  have n2 : w.cell? ⟨Bf, 3, none⟩ = some (.int .i64 f.n.t) := hc 3 _ rfl
  have g0 : w.cell? ⟨Bf, 13, none⟩ = some (.int .u8 f.got.a) := hc 13 _ rfl
  have g1 : w.cell? ⟨Bf, 14, none⟩ = some (.int .u8 f.got.b) := hc 14 _ rfl
  have g2 : w.cell? ⟨Bf, 15, none⟩ = some (.int .u8 f.got.c) := hc 15 _ rfl
  have g3 : w.cell? ⟨Bf, 16, none⟩ = some (.int .u8 f.got.d) := hc 16 _ rfl
  have g4 : w.cell? ⟨Bf, 17, none⟩ = some (.int .u8 f.got.e) := hc 17 _ rfl
  have g5 : w.cell? ⟨Bf, 18, none⟩ = some (.int .u8 f.got.f) := hc 18 _ rfl
  have g6 : w.cell? ⟨Bf, 19, none⟩ = some (.int .u8 f.got.g) := hc 19 _ rfl
  have g7 : w.cell? ⟨Bf, 20, none⟩ = some (.int .u8 f.got.h) := hc 20 _ rfl
  have w0 : w.cell? ⟨Bf, 24, none⟩ = some (.int .i64 f.was.s) := hc 24 _ rfl
  have w1 : w.cell? ⟨Bf, 25, none⟩ = some (.int .i64 f.was.i) := hc 25 _ rfl
  have w2 : w.cell? ⟨Bf, 26, none⟩ = some (.int .i64 f.was.t) := hc 26 _ rfl
  have lw := fun k => lookup_place hn hm f.was k
  have ln := fun k => lookup_place hn hm f.n k
  have ez := eql_nm_z f.was
  have eg := neq_v8_z f.got
  have en := eql_nm f.was f.n
  have HK : Hid (kindP ns f.n f.was f.got = if f.was = nz ∧ f.got ≠ z0 then 4 else if f.was = f.n then 3 else if f.was ≠ nz ∧ placeOf ns f.was = 0 then 2 else if placeOf ns f.was > placeOf ns f.n then 1 else 0) := rfl
  clear hb hf hm hc hn
  generalize placeOf ns f.was = pw at *
  generalize placeOf ns f.n = pn at *
  have fin : ∀ r : Int, kindP ns f.n f.was f.got = r → Hid (kindP ns f.n f.was f.got = r) := fun _ h => h
  by_cases hz : f.was = nz
  · have d1 : decide (f.was = ⟨0, 0, 0⟩) = true := by simpa [nz] using hz
    by_cases hg : f.got = z0
    · have d2 : decide (f.got = ⟨0, 0, 0, 0, 0, 0, 0, 0⟩) = true := by simpa [z0] using hg
      by_cases hs : f.was = f.n
      · have d3 : decide (f.was = f.n) = true := by simpa using hs
        have HR := fin 3 (by rw [HK.out, if_neg (fun h => h.2 hg), if_pos hs])
        clear hz hg hs fin
        go_enter Try.func76, Try.ntmps76
        go_wp2_with fail
        go_step3
        go_wp2_with fail
        go_step3
        go_wp2_with fail
        go_quiet (fail)
        go_wp2_with fail
        try rw [Exit.noGoto_ret]
        go_ret
        exact ⟨by rw [HR.out]; rfl, by first | exact drewn1 _ _ | exact drewn2 _ _ _ | exact drewn3 _ _ _ _⟩
      · have d3 : decide (f.was = f.n) = false := by simpa using hs
        by_cases hp : pw > pn
        · have d4 : decide (pw > pn) = true := by simpa using hp
          have HR := fin 1 (by rw [HK.out, if_neg (fun h => h.2 hg), if_neg hs, if_neg (fun h => h.1 hz), if_pos hp])
          clear hz hg hs hp fin
          go_enter Try.func76, Try.ntmps76
          go_wp2_with fail
          go_step3
          go_wp2_with fail
          go_step3
          go_wp2_with fail
          go_quiet (fail)
          go_wp2_with fail
          go_quiet (fail)
          go_wp2_with fail
          go_quiet (fail)
          go_wp2_with fail
          try rw [Exit.noGoto_ret]
          go_ret
          exact ⟨by rw [HR.out]; rfl, by first | exact drewn1 _ _ | exact drewn2 _ _ _ | exact drewn3 _ _ _ _⟩
        · have d4 : decide (pw > pn) = false := by simpa using hp
          have HR := fin 0 (by rw [HK.out, if_neg (fun h => h.2 hg), if_neg hs, if_neg (fun h => h.1 hz), if_neg hp])
          clear hz hg hs hp fin
          go_enter Try.func76, Try.ntmps76
          go_wp2_with fail
          go_step3
          go_wp2_with fail
          go_step3
          go_wp2_with fail
          go_quiet (fail)
          go_wp2_with fail
          go_quiet (fail)
          go_wp2_with fail
          go_quiet (fail)
          go_wp2_with fail
          try rw [Exit.noGoto_ret]
          go_ret
          exact ⟨by rw [HR.out]; rfl, by first | exact drewn1 _ _ | exact drewn2 _ _ _ | exact drewn3 _ _ _ _⟩
    · have d2 : decide (f.got = ⟨0, 0, 0, 0, 0, 0, 0, 0⟩) = false := by simpa [z0] using hg
      have HR := fin 4 (by rw [HK.out, if_pos ⟨hz, hg⟩])
      clear hz hg fin
      go_enter Try.func76, Try.ntmps76
      go_wp2_with fail
      go_step3
      go_wp2_with fail
      go_step3
      go_wp2_with fail
      try rw [Exit.noGoto_ret]
      go_ret
      exact ⟨by rw [HR.out]; rfl, 0, rfl⟩
  · have d1 : decide (f.was = ⟨0, 0, 0⟩) = false := by simpa [nz] using hz
    by_cases hs : f.was = f.n
    · have d3 : decide (f.was = f.n) = true := by simpa using hs
      have HR := fin 3 (by rw [HK.out, if_neg (fun h => hz h.1), if_pos hs])
      clear hz hs fin
      go_enter Try.func76, Try.ntmps76
      go_wp2_with fail
      go_step3
      go_wp2_with fail
      go_step3
      go_wp2_with fail
      go_quiet (fail)
      go_wp2_with fail
      try rw [Exit.noGoto_ret]
      go_ret
      exact ⟨by rw [HR.out]; rfl, by first | exact drewn1 _ _ | exact drewn2 _ _ _ | exact drewn3 _ _ _ _⟩
    · have d3 : decide (f.was = f.n) = false := by simpa using hs
      by_cases h0 : pw = 0
      · have d5 : (pw == 0) = true := by simpa using h0
        have HR := fin 2 (by rw [HK.out, if_neg (fun h => hz h.1), if_neg hs, if_pos ⟨hz, h0⟩])
        clear hz hs h0 fin
        go_enter Try.func76, Try.ntmps76
        go_wp2_with fail
        go_step3
        go_wp2_with fail
        go_step3
        go_wp2_with fail
        go_quiet (fail)
        go_wp2_with fail
        go_quiet (fail)
        go_wp2_with fail
        try rw [Exit.noGoto_ret]
        go_ret
        exact ⟨by rw [HR.out]; rfl, by first | exact drewn1 _ _ | exact drewn2 _ _ _ | exact drewn3 _ _ _ _⟩
      · have d5 : (pw == 0) = false := by simpa using h0
        by_cases hp : pw > pn
        · have d4 : decide (pw > pn) = true := by simpa using hp
          have HR := fin 1 (by rw [HK.out, if_neg (fun h => hz h.1), if_neg hs, if_neg (fun h => h0 h.2), if_pos hp])
          clear hz hs hp h0 fin
          go_enter Try.func76, Try.ntmps76
          go_wp2_with fail
          go_step3
          go_wp2_with fail
          go_step3
          go_wp2_with fail
          go_quiet (fail)
          go_wp2_with fail
          go_quiet (fail)
          go_wp2_with fail
          go_quiet (fail)
          go_wp2_with fail
          try rw [Exit.noGoto_ret]
          go_ret
          exact ⟨by rw [HR.out]; rfl, by first | exact drewn1 _ _ | exact drewn2 _ _ _ | exact drewn3 _ _ _ _⟩
        · have d4 : decide (pw > pn) = false := by simpa using hp
          have HR := fin 0 (by rw [HK.out, if_neg (fun h => hz h.1), if_neg hs, if_neg (fun h => h0 h.2), if_neg hp])
          clear hz hs hp h0 fin
          go_enter Try.func76, Try.ntmps76
          go_wp2_with fail
          go_step3
          go_wp2_with fail
          go_step3
          go_wp2_with fail
          go_quiet (fail)
          go_wp2_with fail
          go_quiet (fail)
          go_wp2_with fail
          go_quiet (fail)
          go_wp2_with fail
          try rw [Exit.noGoto_ret]
          go_ret
          exact ⟨by rw [HR.out]; rfl, by first | exact drewn1 _ _ | exact drewn2 _ _ _ | exact drewn3 _ _ _ _⟩

end Go.Proofs.Ytgdmgeihgkbjaaa
