/- The walk of wire's (*Reader).further: Content-Length, Transfer-Encoding; all of it. -/
import Derived.Test.YtncpicfnlnkndaaWireE
import Derived.WalkKit
import Derived.Deep.QuietTactic
import Derived.BigQuiet
import Derived.WalkLawsBesides
import Derived.WalkSpells
import Derived.Lib.Hide
import Derived.Outline
set_option linter.unusedVariables false
set_option linter.unusedSimpArgs false
namespace Go.Proofs.Ytncpicfnlnkndaa.Wire
open Go.RowKit Go.Proofs.YtncpicfnlnkndaaW.PrintWords Go.Proofs.Ytncpicfnlnkndaa.Mem Go.Proofs.Ytncpicfnlnkndaa.PA

set_option maxRecDepth 100000 in
set_option maxHeartbeats 4000000 in
theorem further_len_twice1 (r : WR) (g : Nat) (vl vb vc : Value) (s : ByteArray) (w : World) (hb : WBlk w g r vl vb vc) (hs : s.size ≤ 140737488351232) {i : Nat} (h : Spec.colon s = some i) {value : ByteArray} (hv : s.extract (i + 2) s.size = value) (hn' : Spec.small (s.extract 0 i) = ⟨Spec.lenL.toArray⟩) (h1 : r.s1 = true) :
    Calls Try.prog 79 #[.pointer (some ⟨g, 0, none⟩), .string s] w fun e w' => e = .returned (.int .i64 (r.further s).1) ∧ WBlk w' g (r.further s).2 vl vb vc ∧ Step (fun k => k = g) w w' := by
  have hf : r.further s = (4, r) := by unfold WR.further; rw [h]; simp only [hn', hv]; unfold WR.field; rw [if_neg (by rw [ByteArray.toList_eq]; decide), if_pos (by rw [ByteArray.toList_eq]), if_pos (.inl h1)]
  unfold Spec.lenL at hn'
  have hsp := fun W => split_some h W (Nat.le_trans hs (by omega))
  have HF := Aside0.mk hf
  clear hf
  have HB := Aside0.mk hb
  clear hb
  rw [hn', hv] at hsp
  have HSP := Aside0.mk hsp
  clear hsp
  clear h hn' hv
  go_enter Try.func79, Try.ntmps79
  go_wp2_with (go_at_call 96; refine (HSP.out _).mono ?_; rintro e w1 ⟨rfl, hb1⟩; have HB1 := Aside0.mk hb1; clear hb1)
  have HW := Aside0.mk (fun o => (HB.out.below HB1.out).below (below_alloc (Below.refl _ _) o))
  go_loop [8, 23] (fun wh i => ∃ k : Nat, k ≤ 3 ∧ i = .int .i64 k ∧ wh = .int .i64 (if k = 0 then -1 else if k = 1 then -1 else if k = 2 then 1 else 1)) (fun _ i => 3 - (intOf i).toNat)
  case atStart => exact ⟨0, by omega, rfl, rfl⟩
  case round =>
    obtain ⟨k, hk, rfl, rfl⟩ := hrel
    rcases (show k = 0 ∨ k = 1 ∨ k = 2 ∨ k = 3 by omega) with rfl | rfl | rfl | rfl
    · go_wp2
      go_round
      case rel => exact ⟨1, by omega, rfl, rfl⟩
      case measure => simp [intOf]
    · go_wp2
      go_round
      case rel => exact ⟨2, by omega, rfl, rfl⟩
      case measure => simp [intOf]
    · go_wp2
      go_round
      case rel => exact ⟨3, by omega, rfl, rfl⟩
      case measure => simp [intOf]
    · have k8 : ∀ o, (w1.alloc o).cell? ⟨g, 8, none⟩ = some (.string _) := fun o => blk_cell (HW.out o) 8
      have k10 : ∀ o, (w1.alloc o).cell? ⟨g, 10, none⟩ = some (.bool _) := fun o => blk_cell (HW.out o) 10
      have k11 : ∀ o, (w1.alloc o).cell? ⟨g, 11, none⟩ = some (.bool _) := fun o => blk_cell (HW.out o) 11
      have k12 : ∀ o, (w1.alloc o).cell? ⟨g, 12, none⟩ = some (.bool _) := fun o => blk_cell (HW.out o) 12
      have k13 : ∀ o, (w1.alloc o).cell? ⟨g, 13, none⟩ = some (.int .i64 _) := fun o => blk_cell (HW.out o) 13
      have fz : ∀ o i, (w1.alloc o).frozen? ⟨g, i, none⟩ = false := fun o i => blk_frozen (HW.out o) i
      rw [h1] at k11
      clear h1
      go_wp2
      go_ret
      refine ⟨by rw [HF.out]; rfl, ?_, by repeat (first | exact (Step.of_below HB1.out _).alloc _ | refine Step.setG ?_ _ _ | refine Step.drewN ?_ _ | refine Step.drew ?_)⟩
      rw [HF.out]
      exact HW.out _
set_option maxRecDepth 100000 in
set_option maxHeartbeats 4000000 in
theorem further_len_twice2 (r : WR) (g : Nat) (vl vb vc : Value) (s : ByteArray) (w : World) (hb : WBlk w g r vl vb vc) (hs : s.size ≤ 140737488351232) {i : Nat} (h : Spec.colon s = some i) {value : ByteArray} (hv : s.extract (i + 2) s.size = value) (hn' : Spec.small (s.extract 0 i) = ⟨Spec.lenL.toArray⟩) (h1 : r.s1 = false) (h2 : r.s2 = true) :
    Calls Try.prog 79 #[.pointer (some ⟨g, 0, none⟩), .string s] w fun e w' => e = .returned (.int .i64 (r.further s).1) ∧ WBlk w' g (r.further s).2 vl vb vc ∧ Step (fun k => k = g) w w' := by
  have hf : r.further s = (4, r) := by unfold WR.further; rw [h]; simp only [hn', hv]; unfold WR.field; rw [if_neg (by rw [ByteArray.toList_eq]; decide), if_pos (by rw [ByteArray.toList_eq]), if_pos (.inr h2)]
  unfold Spec.lenL at hn'
  have hsp := fun W => split_some h W (Nat.le_trans hs (by omega))
  have HF := Aside0.mk hf
  clear hf
  have HB := Aside0.mk hb
  clear hb
  rw [hn', hv] at hsp
  have HSP := Aside0.mk hsp
  clear hsp
  clear h hn' hv
  go_enter Try.func79, Try.ntmps79
  go_wp2_with (go_at_call 96; refine (HSP.out _).mono ?_; rintro e w1 ⟨rfl, hb1⟩; have HB1 := Aside0.mk hb1; clear hb1)
  have HW := Aside0.mk (fun o => (HB.out.below HB1.out).below (below_alloc (Below.refl _ _) o))
  go_loop [8, 23] (fun wh i => ∃ k : Nat, k ≤ 3 ∧ i = .int .i64 k ∧ wh = .int .i64 (if k = 0 then -1 else if k = 1 then -1 else if k = 2 then 1 else 1)) (fun _ i => 3 - (intOf i).toNat)
  case atStart => exact ⟨0, by omega, rfl, rfl⟩
  case round =>
    obtain ⟨k, hk, rfl, rfl⟩ := hrel
    rcases (show k = 0 ∨ k = 1 ∨ k = 2 ∨ k = 3 by omega) with rfl | rfl | rfl | rfl
    · go_wp2
      go_round
      case rel => exact ⟨1, by omega, rfl, rfl⟩
      case measure => simp [intOf]
    · go_wp2
      go_round
      case rel => exact ⟨2, by omega, rfl, rfl⟩
      case measure => simp [intOf]
    · go_wp2
      go_round
      case rel => exact ⟨3, by omega, rfl, rfl⟩
      case measure => simp [intOf]
    · have k8 : ∀ o, (w1.alloc o).cell? ⟨g, 8, none⟩ = some (.string _) := fun o => blk_cell (HW.out o) 8
      have k10 : ∀ o, (w1.alloc o).cell? ⟨g, 10, none⟩ = some (.bool _) := fun o => blk_cell (HW.out o) 10
      have k11 : ∀ o, (w1.alloc o).cell? ⟨g, 11, none⟩ = some (.bool _) := fun o => blk_cell (HW.out o) 11
      have k12 : ∀ o, (w1.alloc o).cell? ⟨g, 12, none⟩ = some (.bool _) := fun o => blk_cell (HW.out o) 12
      have k13 : ∀ o, (w1.alloc o).cell? ⟨g, 13, none⟩ = some (.int .i64 _) := fun o => blk_cell (HW.out o) 13
      have fz : ∀ o i, (w1.alloc o).frozen? ⟨g, i, none⟩ = false := fun o i => blk_frozen (HW.out o) i
      rw [h1] at k11
      rw [h2] at k12
      clear h1 h2
      go_wp2
      go_ret
      refine ⟨by rw [HF.out]; rfl, ?_, by repeat (first | exact (Step.of_below HB1.out _).alloc _ | refine Step.setG ?_ _ _ | refine Step.drewN ?_ _ | refine Step.drew ?_)⟩
      rw [HF.out]
      exact HW.out _
set_option maxRecDepth 100000 in
set_option maxHeartbeats 4000000 in
theorem further_len_none (r : WR) (g : Nat) (vl vb vc : Value) (s : ByteArray) (w : World) (hb : WBlk w g r vl vb vc) (hs : s.size ≤ 140737488351232) {i : Nat} (h : Spec.colon s = some i) {value : ByteArray} (hv : s.extract (i + 2) s.size = value) (hn' : Spec.small (s.extract 0 i) = ⟨Spec.lenL.toArray⟩) (h1 : r.s1 = false) (h2 : r.s2 = false) (hrd : Spec.readDec value = none) :
    Calls Try.prog 79 #[.pointer (some ⟨g, 0, none⟩), .string s] w fun e w' => e = .returned (.int .i64 (r.further s).1) ∧ WBlk w' g (r.further s).2 vl vb vc ∧ Step (fun k => k = g) w w' := by
  have hf : r.further s = (4, { r with s1 := true }) := by unfold WR.further; rw [h]; simp only [hn', hv]; unfold WR.field; rw [if_neg (by rw [ByteArray.toList_eq]; decide), if_pos (by rw [ByteArray.toList_eq]), if_neg (by rw [h1, h2]; simp)]; simp only [hrd]
  unfold Spec.lenL at hn'
  have hr2 := Plain.text_ReadDec_f value
  rw [hrd] at hr2
  have HRD := Aside0.mk hr2
  clear hr2
  clear hrd
  have hsp := fun W => split_some h W (Nat.le_trans hs (by omega))
  have HF := Aside0.mk hf
  clear hf
  have HB := Aside0.mk hb
  clear hb
  rw [hn', hv] at hsp
  have HSP := Aside0.mk hsp
  clear hsp
  clear h hn' hv
  go_enter Try.func79, Try.ntmps79
  go_wp2_with (go_at_call 96; refine (HSP.out _).mono ?_; rintro e w1 ⟨rfl, hb1⟩; have HB1 := Aside0.mk hb1; clear hb1)
  have HW := Aside0.mk (fun o => (HB.out.below HB1.out).below (below_alloc (Below.refl _ _) o))
  go_loop [8, 23] (fun wh i => ∃ k : Nat, k ≤ 3 ∧ i = .int .i64 k ∧ wh = .int .i64 (if k = 0 then -1 else if k = 1 then -1 else if k = 2 then 1 else 1)) (fun _ i => 3 - (intOf i).toNat)
  case atStart => exact ⟨0, by omega, rfl, rfl⟩
  case round =>
    obtain ⟨k, hk, rfl, rfl⟩ := hrel
    rcases (show k = 0 ∨ k = 1 ∨ k = 2 ∨ k = 3 by omega) with rfl | rfl | rfl | rfl
    · go_wp2
      go_round
      case rel => exact ⟨1, by omega, rfl, rfl⟩
      case measure => simp [intOf]
    · go_wp2
      go_round
      case rel => exact ⟨2, by omega, rfl, rfl⟩
      case measure => simp [intOf]
    · go_wp2
      go_round
      case rel => exact ⟨3, by omega, rfl, rfl⟩
      case measure => simp [intOf]
    · have k8 : ∀ o, (w1.alloc o).cell? ⟨g, 8, none⟩ = some (.string _) := fun o => blk_cell (HW.out o) 8
      have k10 : ∀ o, (w1.alloc o).cell? ⟨g, 10, none⟩ = some (.bool _) := fun o => blk_cell (HW.out o) 10
      have k11 : ∀ o, (w1.alloc o).cell? ⟨g, 11, none⟩ = some (.bool _) := fun o => blk_cell (HW.out o) 11
      have k12 : ∀ o, (w1.alloc o).cell? ⟨g, 12, none⟩ = some (.bool _) := fun o => blk_cell (HW.out o) 12
      have k13 : ∀ o, (w1.alloc o).cell? ⟨g, 13, none⟩ = some (.int .i64 _) := fun o => blk_cell (HW.out o) 13
      have fz : ∀ o i, (w1.alloc o).frozen? ⟨g, i, none⟩ = false := fun o i => blk_frozen (HW.out o) i
      rw [h1] at k11
      rw [h2] at k12
      clear h1 h2
      go_wp2_with (go_at_call 91; refine (text_ReadDec.calls _ value _ _ _ HRD.out).mono ?_; rintro e w2 ⟨rfl, hd⟩; obtain ⟨nq, rfl⟩ := hd)
      go_ret
      refine ⟨by rw [HF.out]; rfl, ?_, by repeat (first | exact (Step.of_below HB1.out _).alloc _ | refine Step.setG ?_ _ _ | refine Step.drewN ?_ _ | refine Step.drew ?_)⟩
      rw [HF.out]
      exact (HW.out _).set11 _
set_option maxRecDepth 100000 in
set_option maxHeartbeats 4000000 in
theorem further_len_big (r : WR) (g : Nat) (vl vb vc : Value) (s : ByteArray) (w : World) (hb : WBlk w g r vl vb vc) (hs : s.size ≤ 140737488351232) {i : Nat} (h : Spec.colon s = some i) {value : ByteArray} (hv : s.extract (i + 2) s.size = value) (hn' : Spec.small (s.extract 0 i) = ⟨Spec.lenL.toArray⟩) (h1 : r.s1 = false) (h2 : r.s2 = false) {n : Int} (hrd : Spec.readDec value = some n) (hn : n > 2048) :
    Calls Try.prog 79 #[.pointer (some ⟨g, 0, none⟩), .string s] w fun e w' => e = .returned (.int .i64 (r.further s).1) ∧ WBlk w' g (r.further s).2 vl vb vc ∧ Step (fun k => k = g) w w' := by
  have hf : r.further s = (5, { r with s1 := true }) := by unfold WR.further; rw [h]; simp only [hn', hv]; unfold WR.field; rw [if_neg (by rw [ByteArray.toList_eq]; decide), if_pos (by rw [ByteArray.toList_eq]), if_neg (by rw [h1, h2]; simp)]; simp only [hrd]; rw [if_pos hn]
  unfold Spec.lenL at hn'
  have hr2 := Plain.text_ReadDec_f value
  rw [hrd] at hr2
  have HRD := Aside0.mk hr2
  clear hr2
  clear hrd
  have hsp := fun W => split_some h W (Nat.le_trans hs (by omega))
  have HF := Aside0.mk hf
  clear hf
  have HB := Aside0.mk hb
  clear hb
  rw [hn', hv] at hsp
  have HSP := Aside0.mk hsp
  clear hsp
  clear h hn' hv
  go_enter Try.func79, Try.ntmps79
  go_wp2_with (go_at_call 96; refine (HSP.out _).mono ?_; rintro e w1 ⟨rfl, hb1⟩; have HB1 := Aside0.mk hb1; clear hb1)
  have HW := Aside0.mk (fun o => (HB.out.below HB1.out).below (below_alloc (Below.refl _ _) o))
  go_loop [8, 23] (fun wh i => ∃ k : Nat, k ≤ 3 ∧ i = .int .i64 k ∧ wh = .int .i64 (if k = 0 then -1 else if k = 1 then -1 else if k = 2 then 1 else 1)) (fun _ i => 3 - (intOf i).toNat)
  case atStart => exact ⟨0, by omega, rfl, rfl⟩
  case round =>
    obtain ⟨k, hk, rfl, rfl⟩ := hrel
    rcases (show k = 0 ∨ k = 1 ∨ k = 2 ∨ k = 3 by omega) with rfl | rfl | rfl | rfl
    · go_wp2
      go_round
      case rel => exact ⟨1, by omega, rfl, rfl⟩
      case measure => simp [intOf]
    · go_wp2
      go_round
      case rel => exact ⟨2, by omega, rfl, rfl⟩
      case measure => simp [intOf]
    · go_wp2
      go_round
      case rel => exact ⟨3, by omega, rfl, rfl⟩
      case measure => simp [intOf]
    · have k8 : ∀ o, (w1.alloc o).cell? ⟨g, 8, none⟩ = some (.string _) := fun o => blk_cell (HW.out o) 8
      have k10 : ∀ o, (w1.alloc o).cell? ⟨g, 10, none⟩ = some (.bool _) := fun o => blk_cell (HW.out o) 10
      have k11 : ∀ o, (w1.alloc o).cell? ⟨g, 11, none⟩ = some (.bool _) := fun o => blk_cell (HW.out o) 11
      have k12 : ∀ o, (w1.alloc o).cell? ⟨g, 12, none⟩ = some (.bool _) := fun o => blk_cell (HW.out o) 12
      have k13 : ∀ o, (w1.alloc o).cell? ⟨g, 13, none⟩ = some (.int .i64 _) := fun o => blk_cell (HW.out o) 13
      have fz : ∀ o i, (w1.alloc o).frozen? ⟨g, i, none⟩ = false := fun o i => blk_frozen (HW.out o) i
      rw [h1] at k11
      rw [h2] at k12
      clear h1 h2
      go_wp2_with (go_at_call 91; refine (text_ReadDec.calls _ value _ _ _ HRD.out).mono ?_; rintro e w2 ⟨rfl, hd⟩; obtain ⟨nq, rfl⟩ := hd)
      go_ret
      refine ⟨by rw [HF.out]; rfl, ?_, by repeat (first | exact (Step.of_below HB1.out _).alloc _ | refine Step.setG ?_ _ _ | refine Step.drewN ?_ _ | refine Step.drew ?_)⟩
      rw [HF.out]
      exact (HW.out _).set11 _
set_option maxRecDepth 100000 in
set_option maxHeartbeats 4000000 in
theorem further_len (r : WR) (g : Nat) (vl vb vc : Value) (s : ByteArray) (w : World) (hb : WBlk w g r vl vb vc) (hs : s.size ≤ 140737488351232) {i : Nat} (h : Spec.colon s = some i) {value : ByteArray} (hv : s.extract (i + 2) s.size = value) (hn' : Spec.small (s.extract 0 i) = ⟨Spec.lenL.toArray⟩) (h1 : r.s1 = false) (h2 : r.s2 = false) {n : Int} (hrd : Spec.readDec value = some n) (hn : ¬ n > 2048) :
    Calls Try.prog 79 #[.pointer (some ⟨g, 0, none⟩), .string s] w fun e w' => e = .returned (.int .i64 (r.further s).1) ∧ WBlk w' g (r.further s).2 vl vb vc ∧ Step (fun k => k = g) w w' := by
  have hf : r.further s = (0, { r with s1 := true, left := n }) := by unfold WR.further; rw [h]; simp only [hn', hv]; unfold WR.field; rw [if_neg (by rw [ByteArray.toList_eq]; decide), if_pos (by rw [ByteArray.toList_eq]), if_neg (by rw [h1, h2]; simp)]; simp only [hrd]; rw [if_neg hn]
  unfold Spec.lenL at hn'
  have hr2 := Plain.text_ReadDec_f value
  rw [hrd] at hr2
  have HRD := Aside0.mk hr2
  clear hr2
  clear hrd
  have hsp := fun W => split_some h W (Nat.le_trans hs (by omega))
  have HF := Aside0.mk hf
  clear hf
  have HB := Aside0.mk hb
  clear hb
  rw [hn', hv] at hsp
  have HSP := Aside0.mk hsp
  clear hsp
  clear h hn' hv
  go_enter Try.func79, Try.ntmps79
  go_wp2_with (go_at_call 96; refine (HSP.out _).mono ?_; rintro e w1 ⟨rfl, hb1⟩; have HB1 := Aside0.mk hb1; clear hb1)
  have HW := Aside0.mk (fun o => (HB.out.below HB1.out).below (below_alloc (Below.refl _ _) o))
  go_loop [8, 23] (fun wh i => ∃ k : Nat, k ≤ 3 ∧ i = .int .i64 k ∧ wh = .int .i64 (if k = 0 then -1 else if k = 1 then -1 else if k = 2 then 1 else 1)) (fun _ i => 3 - (intOf i).toNat)
  case atStart => exact ⟨0, by omega, rfl, rfl⟩
  case round =>
    obtain ⟨k, hk, rfl, rfl⟩ := hrel
    rcases (show k = 0 ∨ k = 1 ∨ k = 2 ∨ k = 3 by omega) with rfl | rfl | rfl | rfl
    · go_wp2
      go_round
      case rel => exact ⟨1, by omega, rfl, rfl⟩
      case measure => simp [intOf]
    · go_wp2
      go_round
      case rel => exact ⟨2, by omega, rfl, rfl⟩
      case measure => simp [intOf]
    · go_wp2
      go_round
      case rel => exact ⟨3, by omega, rfl, rfl⟩
      case measure => simp [intOf]
    · have k8 : ∀ o, (w1.alloc o).cell? ⟨g, 8, none⟩ = some (.string _) := fun o => blk_cell (HW.out o) 8
      have k10 : ∀ o, (w1.alloc o).cell? ⟨g, 10, none⟩ = some (.bool _) := fun o => blk_cell (HW.out o) 10
      have k11 : ∀ o, (w1.alloc o).cell? ⟨g, 11, none⟩ = some (.bool _) := fun o => blk_cell (HW.out o) 11
      have k12 : ∀ o, (w1.alloc o).cell? ⟨g, 12, none⟩ = some (.bool _) := fun o => blk_cell (HW.out o) 12
      have k13 : ∀ o, (w1.alloc o).cell? ⟨g, 13, none⟩ = some (.int .i64 _) := fun o => blk_cell (HW.out o) 13
      have fz : ∀ o i, (w1.alloc o).frozen? ⟨g, i, none⟩ = false := fun o i => blk_frozen (HW.out o) i
      rw [h1] at k11
      rw [h2] at k12
      clear h1 h2
      go_wp2_with (go_at_call 91; refine (text_ReadDec.calls _ value _ _ _ HRD.out).mono ?_; rintro e w2 ⟨rfl, hd⟩; obtain ⟨nq, rfl⟩ := hd)
      go_ret
      refine ⟨by rw [HF.out]; rfl, ?_, by repeat (first | exact (Step.of_below HB1.out _).alloc _ | refine Step.setG ?_ _ _ | refine Step.drewN ?_ _ | refine Step.drew ?_)⟩
      rw [HF.out]
      exact ((HW.out _).set11 _).set13 _
set_option maxRecDepth 100000 in
set_option maxHeartbeats 4000000 in
theorem further_enc_twice2 (r : WR) (g : Nat) (vl vb vc : Value) (s : ByteArray) (w : World) (hb : WBlk w g r vl vb vc) (hs : s.size ≤ 140737488351232) {i : Nat} (h : Spec.colon s = some i) {value : ByteArray} (hv : s.extract (i + 2) s.size = value) (hn' : Spec.small (s.extract 0 i) = ⟨Spec.encL.toArray⟩) (h2 : r.s2 = true) :
    Calls Try.prog 79 #[.pointer (some ⟨g, 0, none⟩), .string s] w fun e w' => e = .returned (.int .i64 (r.further s).1) ∧ WBlk w' g (r.further s).2 vl vb vc ∧ Step (fun k => k = g) w w' := by
  have hf : r.further s = (4, r) := by unfold WR.further; rw [h]; simp only [hn', hv]; unfold WR.field; rw [if_neg (by rw [ByteArray.toList_eq]; decide), if_neg (by rw [ByteArray.toList_eq]; decide), if_pos (by rw [ByteArray.toList_eq]), if_pos (.inl h2)]
  unfold Spec.encL at hn'
  have hsp := fun W => split_some h W (Nat.le_trans hs (by omega))
  have HF := Aside0.mk hf
  clear hf
  have HB := Aside0.mk hb
  clear hb
  rw [hn', hv] at hsp
  have HSP := Aside0.mk hsp
  clear hsp
  clear h hn' hv
  go_enter Try.func79, Try.ntmps79
  go_wp2_with (go_at_call 96; refine (HSP.out _).mono ?_; rintro e w1 ⟨rfl, hb1⟩; have HB1 := Aside0.mk hb1; clear hb1)
  have HW := Aside0.mk (fun o => (HB.out.below HB1.out).below (below_alloc (Below.refl _ _) o))
  go_loop [8, 23] (fun wh i => ∃ k : Nat, k ≤ 3 ∧ i = .int .i64 k ∧ wh = .int .i64 (if k = 0 then -1 else if k = 1 then -1 else if k = 2 then -1 else 2)) (fun _ i => 3 - (intOf i).toNat)
  case atStart => exact ⟨0, by omega, rfl, rfl⟩
  case round =>
    obtain ⟨k, hk, rfl, rfl⟩ := hrel
    rcases (show k = 0 ∨ k = 1 ∨ k = 2 ∨ k = 3 by omega) with rfl | rfl | rfl | rfl
    · go_wp2
      go_round
      case rel => exact ⟨1, by omega, rfl, rfl⟩
      case measure => simp [intOf]
    · go_wp2
      go_round
      case rel => exact ⟨2, by omega, rfl, rfl⟩
      case measure => simp [intOf]
    · go_wp2
      go_round
      case rel => exact ⟨3, by omega, rfl, rfl⟩
      case measure => simp [intOf]
    · have k8 : ∀ o, (w1.alloc o).cell? ⟨g, 8, none⟩ = some (.string _) := fun o => blk_cell (HW.out o) 8
      have k10 : ∀ o, (w1.alloc o).cell? ⟨g, 10, none⟩ = some (.bool _) := fun o => blk_cell (HW.out o) 10
      have k11 : ∀ o, (w1.alloc o).cell? ⟨g, 11, none⟩ = some (.bool _) := fun o => blk_cell (HW.out o) 11
      have k12 : ∀ o, (w1.alloc o).cell? ⟨g, 12, none⟩ = some (.bool _) := fun o => blk_cell (HW.out o) 12
      have k13 : ∀ o, (w1.alloc o).cell? ⟨g, 13, none⟩ = some (.int .i64 _) := fun o => blk_cell (HW.out o) 13
      have fz : ∀ o i, (w1.alloc o).frozen? ⟨g, i, none⟩ = false := fun o i => blk_frozen (HW.out o) i
      rw [h2] at k12
      clear h2
      go_wp2
      go_ret
      refine ⟨by rw [HF.out]; rfl, ?_, by repeat (first | exact (Step.of_below HB1.out _).alloc _ | refine Step.setG ?_ _ _ | refine Step.drewN ?_ _ | refine Step.drew ?_)⟩
      rw [HF.out]
      exact HW.out _
set_option maxRecDepth 100000 in
set_option maxHeartbeats 4000000 in
theorem further_enc_twice1 (r : WR) (g : Nat) (vl vb vc : Value) (s : ByteArray) (w : World) (hb : WBlk w g r vl vb vc) (hs : s.size ≤ 140737488351232) {i : Nat} (h : Spec.colon s = some i) {value : ByteArray} (hv : s.extract (i + 2) s.size = value) (hn' : Spec.small (s.extract 0 i) = ⟨Spec.encL.toArray⟩) (h1 : r.s1 = true) (h2 : r.s2 = false) :
    Calls Try.prog 79 #[.pointer (some ⟨g, 0, none⟩), .string s] w fun e w' => e = .returned (.int .i64 (r.further s).1) ∧ WBlk w' g (r.further s).2 vl vb vc ∧ Step (fun k => k = g) w w' := by
  have hf : r.further s = (4, r) := by unfold WR.further; rw [h]; simp only [hn', hv]; unfold WR.field; rw [if_neg (by rw [ByteArray.toList_eq]; decide), if_neg (by rw [ByteArray.toList_eq]; decide), if_pos (by rw [ByteArray.toList_eq]), if_pos (.inr h1)]
  unfold Spec.encL at hn'
  have hsp := fun W => split_some h W (Nat.le_trans hs (by omega))
  have HF := Aside0.mk hf
  clear hf
  have HB := Aside0.mk hb
  clear hb
  rw [hn', hv] at hsp
  have HSP := Aside0.mk hsp
  clear hsp
  clear h hn' hv
  go_enter Try.func79, Try.ntmps79
  go_wp2_with (go_at_call 96; refine (HSP.out _).mono ?_; rintro e w1 ⟨rfl, hb1⟩; have HB1 := Aside0.mk hb1; clear hb1)
  have HW := Aside0.mk (fun o => (HB.out.below HB1.out).below (below_alloc (Below.refl _ _) o))
  go_loop [8, 23] (fun wh i => ∃ k : Nat, k ≤ 3 ∧ i = .int .i64 k ∧ wh = .int .i64 (if k = 0 then -1 else if k = 1 then -1 else if k = 2 then -1 else 2)) (fun _ i => 3 - (intOf i).toNat)
  case atStart => exact ⟨0, by omega, rfl, rfl⟩
  case round =>
    obtain ⟨k, hk, rfl, rfl⟩ := hrel
    rcases (show k = 0 ∨ k = 1 ∨ k = 2 ∨ k = 3 by omega) with rfl | rfl | rfl | rfl
    · go_wp2
      go_round
      case rel => exact ⟨1, by omega, rfl, rfl⟩
      case measure => simp [intOf]
    · go_wp2
      go_round
      case rel => exact ⟨2, by omega, rfl, rfl⟩
      case measure => simp [intOf]
    · go_wp2
      go_round
      case rel => exact ⟨3, by omega, rfl, rfl⟩
      case measure => simp [intOf]
    · have k8 : ∀ o, (w1.alloc o).cell? ⟨g, 8, none⟩ = some (.string _) := fun o => blk_cell (HW.out o) 8
      have k10 : ∀ o, (w1.alloc o).cell? ⟨g, 10, none⟩ = some (.bool _) := fun o => blk_cell (HW.out o) 10
      have k11 : ∀ o, (w1.alloc o).cell? ⟨g, 11, none⟩ = some (.bool _) := fun o => blk_cell (HW.out o) 11
      have k12 : ∀ o, (w1.alloc o).cell? ⟨g, 12, none⟩ = some (.bool _) := fun o => blk_cell (HW.out o) 12
      have k13 : ∀ o, (w1.alloc o).cell? ⟨g, 13, none⟩ = some (.int .i64 _) := fun o => blk_cell (HW.out o) 13
      have fz : ∀ o i, (w1.alloc o).frozen? ⟨g, i, none⟩ = false := fun o i => blk_frozen (HW.out o) i
      rw [h1] at k11
      rw [h2] at k12
      clear h1 h2
      go_wp2
      go_ret
      refine ⟨by rw [HF.out]; rfl, ?_, by repeat (first | exact (Step.of_below HB1.out _).alloc _ | refine Step.setG ?_ _ _ | refine Step.drewN ?_ _ | refine Step.drew ?_)⟩
      rw [HF.out]
      exact HW.out _
set_option maxRecDepth 100000 in
set_option maxHeartbeats 4000000 in
theorem further_enc_not (r : WR) (g : Nat) (vl vb vc : Value) (s : ByteArray) (w : World) (hb : WBlk w g r vl vb vc) (hs : s.size ≤ 140737488351232) {i : Nat} (h : Spec.colon s = some i) {value : ByteArray} (hv : s.extract (i + 2) s.size = value) (hn' : Spec.small (s.extract 0 i) = ⟨Spec.encL.toArray⟩) (h1 : r.s1 = false) (h2 : r.s2 = false) (hc : value.toList ≠ Spec.chunkedL) :
    Calls Try.prog 79 #[.pointer (some ⟨g, 0, none⟩), .string s] w fun e w' => e = .returned (.int .i64 (r.further s).1) ∧ WBlk w' g (r.further s).2 vl vb vc ∧ Step (fun k => k = g) w w' := by
  have hf : r.further s = (4, { r with s2 := true }) := by unfold WR.further; rw [h]; simp only [hn', hv]; unfold WR.field; rw [if_neg (by rw [ByteArray.toList_eq]; decide), if_neg (by rw [ByteArray.toList_eq]; decide), if_pos (by rw [ByteArray.toList_eq]), if_neg (by rw [h1, h2]; simp), if_pos hc]
  unfold Spec.encL at hn'
  have hc2 : (value.toList == Spec.chunkedL) = false := by simpa using hc
  have hc3 : (value.toList != Spec.chunkedL) = true := by simpa using hc
  unfold Spec.chunkedL at hc2 hc3
  clear hc
  have hsp := fun W => split_some h W (Nat.le_trans hs (by omega))
  have HF := Aside0.mk hf
  clear hf
  have HB := Aside0.mk hb
  clear hb
  rw [hn', hv] at hsp
  have HSP := Aside0.mk hsp
  clear hsp
  clear h hn' hv
  go_enter Try.func79, Try.ntmps79
  go_wp2_with (go_at_call 96; refine (HSP.out _).mono ?_; rintro e w1 ⟨rfl, hb1⟩; have HB1 := Aside0.mk hb1; clear hb1)
  have HW := Aside0.mk (fun o => (HB.out.below HB1.out).below (below_alloc (Below.refl _ _) o))
  go_loop [8, 23] (fun wh i => ∃ k : Nat, k ≤ 3 ∧ i = .int .i64 k ∧ wh = .int .i64 (if k = 0 then -1 else if k = 1 then -1 else if k = 2 then -1 else 2)) (fun _ i => 3 - (intOf i).toNat)
  case atStart => exact ⟨0, by omega, rfl, rfl⟩
  case round =>
    obtain ⟨k, hk, rfl, rfl⟩ := hrel
    rcases (show k = 0 ∨ k = 1 ∨ k = 2 ∨ k = 3 by omega) with rfl | rfl | rfl | rfl
    · go_wp2
      go_round
      case rel => exact ⟨1, by omega, rfl, rfl⟩
      case measure => simp [intOf]
    · go_wp2
      go_round
      case rel => exact ⟨2, by omega, rfl, rfl⟩
      case measure => simp [intOf]
    · go_wp2
      go_round
      case rel => exact ⟨3, by omega, rfl, rfl⟩
      case measure => simp [intOf]
    · have k8 : ∀ o, (w1.alloc o).cell? ⟨g, 8, none⟩ = some (.string _) := fun o => blk_cell (HW.out o) 8
      have k10 : ∀ o, (w1.alloc o).cell? ⟨g, 10, none⟩ = some (.bool _) := fun o => blk_cell (HW.out o) 10
      have k11 : ∀ o, (w1.alloc o).cell? ⟨g, 11, none⟩ = some (.bool _) := fun o => blk_cell (HW.out o) 11
      have k12 : ∀ o, (w1.alloc o).cell? ⟨g, 12, none⟩ = some (.bool _) := fun o => blk_cell (HW.out o) 12
      have k13 : ∀ o, (w1.alloc o).cell? ⟨g, 13, none⟩ = some (.int .i64 _) := fun o => blk_cell (HW.out o) 13
      have fz : ∀ o i, (w1.alloc o).frozen? ⟨g, i, none⟩ = false := fun o i => blk_frozen (HW.out o) i
      rw [h1] at k11
      rw [h2] at k12
      clear h1 h2
      go_wp2
      go_ret
      refine ⟨by rw [HF.out]; rfl, ?_, by repeat (first | exact (Step.of_below HB1.out _).alloc _ | refine Step.setG ?_ _ _ | refine Step.drewN ?_ _ | refine Step.drew ?_)⟩
      rw [HF.out]
      exact (HW.out _).set12 _
set_option maxRecDepth 100000 in
set_option maxHeartbeats 4000000 in
theorem further_enc (r : WR) (g : Nat) (vl vb vc : Value) (s : ByteArray) (w : World) (hb : WBlk w g r vl vb vc) (hs : s.size ≤ 140737488351232) {i : Nat} (h : Spec.colon s = some i) {value : ByteArray} (hv : s.extract (i + 2) s.size = value) (hn' : Spec.small (s.extract 0 i) = ⟨Spec.encL.toArray⟩) (h1 : r.s1 = false) (h2 : r.s2 = false) (hc : value.toList = Spec.chunkedL) :
    Calls Try.prog 79 #[.pointer (some ⟨g, 0, none⟩), .string s] w fun e w' => e = .returned (.int .i64 (r.further s).1) ∧ WBlk w' g (r.further s).2 vl vb vc ∧ Step (fun k => k = g) w w' := by
  have hf : r.further s = (0, { r with s2 := true }) := by unfold WR.further; rw [h]; simp only [hn', hv]; unfold WR.field; rw [if_neg (by rw [ByteArray.toList_eq]; decide), if_neg (by rw [ByteArray.toList_eq]; decide), if_pos (by rw [ByteArray.toList_eq]), if_neg (by rw [h1, h2]; simp), if_neg (by simp [hc])]
  unfold Spec.encL at hn'
  have hc2 : (value.toList == Spec.chunkedL) = true := by simpa using hc
  have hc3 : (value.toList != Spec.chunkedL) = false := by simpa using hc
  unfold Spec.chunkedL at hc2 hc3
  clear hc
  have hsp := fun W => split_some h W (Nat.le_trans hs (by omega))
  have HF := Aside0.mk hf
  clear hf
  have HB := Aside0.mk hb
  clear hb
  rw [hn', hv] at hsp
  have HSP := Aside0.mk hsp
  clear hsp
  clear h hn' hv
  go_enter Try.func79, Try.ntmps79
  go_wp2_with (go_at_call 96; refine (HSP.out _).mono ?_; rintro e w1 ⟨rfl, hb1⟩; have HB1 := Aside0.mk hb1; clear hb1)
  have HW := Aside0.mk (fun o => (HB.out.below HB1.out).below (below_alloc (Below.refl _ _) o))
  go_loop [8, 23] (fun wh i => ∃ k : Nat, k ≤ 3 ∧ i = .int .i64 k ∧ wh = .int .i64 (if k = 0 then -1 else if k = 1 then -1 else if k = 2 then -1 else 2)) (fun _ i => 3 - (intOf i).toNat)
  case atStart => exact ⟨0, by omega, rfl, rfl⟩
  case round =>
    obtain ⟨k, hk, rfl, rfl⟩ := hrel
    rcases (show k = 0 ∨ k = 1 ∨ k = 2 ∨ k = 3 by omega) with rfl | rfl | rfl | rfl
    · go_wp2
      go_round
      case rel => exact ⟨1, by omega, rfl, rfl⟩
      case measure => simp [intOf]
    · go_wp2
      go_round
      case rel => exact ⟨2, by omega, rfl, rfl⟩
      case measure => simp [intOf]
    · go_wp2
      go_round
      case rel => exact ⟨3, by omega, rfl, rfl⟩
      case measure => simp [intOf]
    · have k8 : ∀ o, (w1.alloc o).cell? ⟨g, 8, none⟩ = some (.string _) := fun o => blk_cell (HW.out o) 8
      have k10 : ∀ o, (w1.alloc o).cell? ⟨g, 10, none⟩ = some (.bool _) := fun o => blk_cell (HW.out o) 10
      have k11 : ∀ o, (w1.alloc o).cell? ⟨g, 11, none⟩ = some (.bool _) := fun o => blk_cell (HW.out o) 11
      have k12 : ∀ o, (w1.alloc o).cell? ⟨g, 12, none⟩ = some (.bool _) := fun o => blk_cell (HW.out o) 12
      have k13 : ∀ o, (w1.alloc o).cell? ⟨g, 13, none⟩ = some (.int .i64 _) := fun o => blk_cell (HW.out o) 13
      have fz : ∀ o i, (w1.alloc o).frozen? ⟨g, i, none⟩ = false := fun o i => blk_frozen (HW.out o) i
      rw [h1] at k11
      rw [h2] at k12
      clear h1 h2
      go_wp2
      go_ret
      refine ⟨by rw [HF.out]; rfl, ?_, by repeat (first | exact (Step.of_below HB1.out _).alloc _ | refine Step.setG ?_ _ _ | refine Step.drewN ?_ _ | refine Step.drew ?_)⟩
      rw [HF.out]
      exact (HW.out _).set12 _

theorem wire_further (r : WR) (g : Nat) (vl vb vc : Value) (s : ByteArray) (w : World) (hb : WBlk w g r vl vb vc) (hs : s.size ≤ 140737488351232) :
    Calls Try.prog 79 #[.pointer (some ⟨g, 0, none⟩), .string s] w fun e w' => e = .returned (.int .i64 (r.further s).1) ∧ WBlk w' g (r.further s).2 vl vb vc ∧ Step (fun k => k = g) w w' := by
  rcases hc : Spec.colon s with _ | i
  · exact further_none r g vl vb vc s w hb hs hc
  · by_cases n1 : (Spec.small (s.extract 0 i)).toList = Spec.authL
    · have hn := lit_of n1
      rcases h0 : r.s0 with _ | _
      · by_cases hz : (s.extract (i + 2) s.size).size < 7
        · exact further_auth_short r g vl vb vc s w hb hs hc rfl hn h0 hz
        · by_cases hl : ((s.extract (i + 2) s.size).extract 0 7).toList = Spec.bearerL
          · exact further_auth r g vl vb vc s w hb hs hc rfl hn h0 hz hl
          · exact further_auth_not r g vl vb vc s w hb hs hc rfl hn h0 hz hl
      · exact further_auth_twice r g vl vb vc s w hb hs hc rfl hn h0
    · by_cases n2 : (Spec.small (s.extract 0 i)).toList = Spec.lenL
      · have hn := lit_of n2
        rcases h1 : r.s1 with _ | _
        · rcases h2 : r.s2 with _ | _
          · rcases hr : Spec.readDec (s.extract (i + 2) s.size) with _ | n
            · exact further_len_none r g vl vb vc s w hb hs hc rfl hn h1 h2 hr
            · by_cases hn2 : n > 2048
              · exact further_len_big r g vl vb vc s w hb hs hc rfl hn h1 h2 hr hn2
              · exact further_len r g vl vb vc s w hb hs hc rfl hn h1 h2 hr hn2
          · exact further_len_twice2 r g vl vb vc s w hb hs hc rfl hn h1 h2
        · exact further_len_twice1 r g vl vb vc s w hb hs hc rfl hn h1
      · by_cases n3 : (Spec.small (s.extract 0 i)).toList = Spec.encL
        · have hn := lit_of n3
          rcases h2 : r.s2 with _ | _
          · rcases h1 : r.s1 with _ | _
            · by_cases hl : (s.extract (i + 2) s.size).toList = Spec.chunkedL
              · exact further_enc r g vl vb vc s w hb hs hc rfl hn h1 h2 hl
              · exact further_enc_not r g vl vb vc s w hb hs hc rfl hn h1 h2 hl
            · exact further_enc_twice1 r g vl vb vc s w hb hs hc rfl hn h1 h2
          · exact further_enc_twice2 r g vl vb vc s w hb hs hc rfl hn h2
        · exact further_other r g vl vb vc s w hb hs hc rfl rfl n1 n2 n3
end Go.Proofs.Ytncpicfnlnkndaa.Wire
