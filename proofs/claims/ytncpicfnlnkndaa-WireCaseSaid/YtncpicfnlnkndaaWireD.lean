/- The walks of wire's (*Reader).ends and (*Reader).further. -/
import Derived.Test.YtncpicfnlnkndaaWireC
import Derived.WalkKit
import Derived.Deep.QuietTactic
import Derived.BigQuiet
import Derived.WalkLawsBesides
import Derived.WalkSpells
import Derived.Lib.Hide
import Derived.Outline
set_option linter.unusedVariables false
set_option linter.unusedSimpArgs false
namespace Go.Proofs.Ytncpicfnlnkndaa.Wire
open Go.RowKit Go.Proofs.YtncpicfnlnkndaaW.PrintWords Go.Proofs.Ytncpicfnlnkndaa.Mem Go.Proofs.Ytncpicfnlnkndaa.PA

theorem wire_ends_len (r : WR) (g : Nat) (vl vb vc : Value) (w : World) (hb : WBlk w g r vl vb vc) (h2 : r.s2 = false) :
    Calls Try.prog 78 #[.pointer (some ⟨g, 0, none⟩)] w fun e w' =>
      e = .returned (.int .i64 0) ∧ WBlk w' g { r with inBody := true, whole := r.left == 0 } vl vb vc ∧ Step (fun k => k = g) w w' := by
  have k0 : w.cell? ⟨g, 0, none⟩ = some (.bool _) := blk_cell hb 0
  have k1 : w.cell? ⟨g, 1, none⟩ = some (.bool _) := blk_cell hb 1
  have k2 : w.cell? ⟨g, 2, none⟩ = some (.bool _) := blk_cell hb 2
  have k3 : w.cell? ⟨g, 3, none⟩ = some (.int .i64 _) := blk_cell hb 3
  have k4 : w.cell? ⟨g, 4, none⟩ = some (.int .i64 _) := blk_cell hb 4
  have k5 : w.cell? ⟨g, 5, none⟩ = some vl := blk_cell hb 5
  have k6 : w.cell? ⟨g, 6, none⟩ = some (.string _) := blk_cell hb 6
  have k7 : w.cell? ⟨g, 7, none⟩ = some (.string _) := blk_cell hb 7
  have k8 : w.cell? ⟨g, 8, none⟩ = some (.string _) := blk_cell hb 8
  have k9 : w.cell? ⟨g, 9, none⟩ = some vb := blk_cell hb 9
  have k10 : w.cell? ⟨g, 10, none⟩ = some (.bool _) := blk_cell hb 10
  have k11 : w.cell? ⟨g, 11, none⟩ = some (.bool _) := blk_cell hb 11
  have k12 : w.cell? ⟨g, 12, none⟩ = some (.bool _) := blk_cell hb 12
  have k13 : w.cell? ⟨g, 13, none⟩ = some (.int .i64 _) := blk_cell hb 13
  have k14 : w.cell? ⟨g, 14, none⟩ = some vc := blk_cell hb 14
  have k15 : w.cell? ⟨g, 15, none⟩ = some (.bool _) := blk_cell hb 15
  have fz : ∀ i, w.frozen? ⟨g, i, none⟩ = false := blk_frozen hb
  rw [h2] at k12
  have HB := Aside0.mk hb
  clear hb
  clear h2
  go_enter Try.func78, Try.ntmps78
  go_wp2
  go_ret
  exact ⟨rfl, (HB.out.set15 _).set2 _, by repeat (first | exact Step.refl _ _ | refine Step.setG ?_ _ _ | refine Step.drewN ?_ _ | refine Step.drew ?_ | refine Step.alloc ?_ _)⟩

theorem wire_ends_enc (r : WR) (g : Nat) (vl vb vc : Value) (w : World) (hb : WBlk w g r vl vb vc) (h2 : r.s2 = true) :
    Calls Try.prog 78 #[.pointer (some ⟨g, 0, none⟩)] w fun e w' =>
      ∃ gc, e = .returned (.int .i64 0) ∧ WBlk w' g { r with inBody := true } vl vb (.pointer (some ⟨gc, 0, none⟩)) ∧ w.heap.size ≤ gc ∧ CRep w' (fun k => w.heap.size ≤ k) gc ⟨2048, 0, 0, [], true⟩ ∧ Step (fun k => k = g) w w' := by
  have k0 : w.cell? ⟨g, 0, none⟩ = some (.bool _) := blk_cell hb 0
  have k1 : w.cell? ⟨g, 1, none⟩ = some (.bool _) := blk_cell hb 1
  have k2 : w.cell? ⟨g, 2, none⟩ = some (.bool _) := blk_cell hb 2
  have k3 : w.cell? ⟨g, 3, none⟩ = some (.int .i64 _) := blk_cell hb 3
  have k4 : w.cell? ⟨g, 4, none⟩ = some (.int .i64 _) := blk_cell hb 4
  have k5 : w.cell? ⟨g, 5, none⟩ = some vl := blk_cell hb 5
  have k6 : w.cell? ⟨g, 6, none⟩ = some (.string _) := blk_cell hb 6
  have k7 : w.cell? ⟨g, 7, none⟩ = some (.string _) := blk_cell hb 7
  have k8 : w.cell? ⟨g, 8, none⟩ = some (.string _) := blk_cell hb 8
  have k9 : w.cell? ⟨g, 9, none⟩ = some vb := blk_cell hb 9
  have k10 : w.cell? ⟨g, 10, none⟩ = some (.bool _) := blk_cell hb 10
  have k11 : w.cell? ⟨g, 11, none⟩ = some (.bool _) := blk_cell hb 11
  have k12 : w.cell? ⟨g, 12, none⟩ = some (.bool _) := blk_cell hb 12
  have k13 : w.cell? ⟨g, 13, none⟩ = some (.int .i64 _) := blk_cell hb 13
  have k14 : w.cell? ⟨g, 14, none⟩ = some vc := blk_cell hb 14
  have k15 : w.cell? ⟨g, 15, none⟩ = some (.bool _) := blk_cell hb 15
  have fz : ∀ i, w.frozen? ⟨g, i, none⟩ = false := blk_frozen hb
  have hlt := blk_lt hb
  rw [h2] at k12
  have HB := Aside0.mk hb
  clear hb
  clear h2
  go_enter Try.func78, Try.ntmps78
  go_wp2_with (go_at_call 95; refine (chunk_New 2048 _ (by omega) (by omega)).mono ?_; rintro e w1 ⟨rfl, hc1, hb1⟩; rw [show (w.setCell ⟨g, 15, none⟩ (.bool true)).heap.size = w.heap.size from by simp [World.setCell]] at hc1; have HC1 := Aside0.mk hc1; have HB1 := Aside0.mk hb1; have HW1 := Aside0.mk ((HB.out.set15 true).below hb1); have f14 : w1.frozen? ⟨g, 14, none⟩ = false := blk_frozen HW1.out 14; have k14' : w1.cell? ⟨g, 14, none⟩ = some vc := blk_cell HW1.out 14; clear hc1 hb1)
  go_ret
  refine ⟨_, rfl, HW1.out.set14 _, by simp [World.setCell], ?_, ?_⟩
  · refine (HC1.out.step (S' := fun k => k = g) ((Step.refl _ _).setG _ _) (fun k hk => ?_)).mono (fun k hk => ?_)
    · omega
    · exact hk
  · exact (Step.below ((Step.refl _ _).setG _ _) HB1.out).setG _ _
end Go.Proofs.Ytncpicfnlnkndaa.Wire
