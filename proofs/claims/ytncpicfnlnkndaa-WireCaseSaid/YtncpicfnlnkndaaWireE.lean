/- The walk of wire's (*Reader).further: a line of a head behind the first one. -/
import Derived.Test.YtncpicfnlnkndaaWireD
import Derived.WalkKit
import Derived.Deep.QuietTactic
import Derived.BigQuiet
import Derived.WalkLawsBesides
import Derived.WalkSpells
import Derived.Lib.Hide
import Derived.Outline
set_option linter.unusedVariables false
set_option linter.unusedSimpArgs false
namespace Go.Proofs.Ytncpicfnlnkndaa.Wire
open Go.RowKit Go.Proofs.YtncpicfnlnkndaaW.PrintWords Go.Proofs.Ytncpicfnlnkndaa.Mem Go.Proofs.Ytncpicfnlnkndaa.PA

theorem split_some {s : ByteArray} {i : Nat} (h : Spec.colon s = some i) (w : World) (hs : s.size ≤ 140737488355328) :
    Calls Try.prog 96 #[.string s] w fun e w' => e = .returned (.tuple #[.string (Spec.small (s.extract 0 i)), .string (s.extract (i + 2) s.size), .bool true]) ∧ Below w.heap.size w w' :=
  (wire_split s w hs).mono fun e w' h' => by unfold SplitPost at h'; rw [h] at h'; exact h'
theorem split_none {s : ByteArray} (h : Spec.colon s = none) (w : World) (hs : s.size ≤ 140737488355328) :
    Calls Try.prog 96 #[.string s] w fun e w' => e = .returned (.tuple #[.string ⟨#[]⟩, .string ⟨#[]⟩, .bool false]) ∧ Below w.heap.size w w' :=
  (wire_split s w hs).mono fun e w' h' => by unfold SplitPost at h'; rw [h] at h'; exact h'

def WR.field (r : WR) (name value : ByteArray) : Int × WR :=
  if name.toList = Spec.authL then
    (if r.s0 = true then (4, r) else if value.size < 7 ∨ (value.extract 0 7).toList ≠ Spec.bearerL then (4, { r with s0 := true })
      else (0, { r with s0 := true, token := value.extract 7 value.size }))
  else if name.toList = Spec.lenL then
    (if r.s1 = true ∨ r.s2 = true then (4, r) else
      match Spec.readDec value with
      | none => (4, { r with s1 := true })
      | some n => if n > 2048 then (5, { r with s1 := true }) else (0, { r with s1 := true, left := n }))
  else if name.toList = Spec.encL then
    (if r.s2 = true ∨ r.s1 = true then (4, r) else if value.toList ≠ Spec.chunkedL then (4, { r with s2 := true }) else (0, { r with s2 := true }))
  else (0, r)
def WR.further (r : WR) (s : ByteArray) : Int × WR :=
  match Spec.colon s with
  | none => (4, r)
  | some i => r.field (Spec.small (s.extract 0 i)) (s.extract (i + 2) s.size)


theorem further_none (r : WR) (g : Nat) (vl vb vc : Value) (s : ByteArray) (w : World) (hb : WBlk w g r vl vb vc) (hs : s.size ≤ 140737488351232) (h : Spec.colon s = none) :
    Calls Try.prog 79 #[.pointer (some ⟨g, 0, none⟩), .string s] w fun e w' => e = .returned (.int .i64 (r.further s).1) ∧ WBlk w' g (r.further s).2 vl vb vc ∧ Step (fun k => k = g) w w' := by
  have hf : r.further s = (4, r) := by unfold WR.further; rw [h]
  have hsp := fun W => split_none h W (Nat.le_trans hs (by omega))
  have HF := Aside0.mk hf
  clear hf
  have HB := Aside0.mk hb
  clear hb
  have HSP := Aside0.mk hsp
  clear hsp
  clear h
  go_enter Try.func79, Try.ntmps79
  go_wp2_with (go_at_call 96; refine (HSP.out _).mono ?_; rintro e w1 ⟨rfl, hb1⟩; have HB1 := Aside0.mk hb1; clear hb1)
  go_ret
  refine ⟨by rw [HF.out]; rfl, ?_, Step.of_below HB1.out _⟩
  rw [HF.out]
  exact HB.out.below HB1.out

set_option maxRecDepth 100000 in
set_option maxHeartbeats 4000000 in
theorem further_other (r : WR) (g : Nat) (vl vb vc : Value) (s : ByteArray) (w : World) (hb : WBlk w g r vl vb vc) (hs : s.size ≤ 140737488351232) {i : Nat} (h : Spec.colon s = some i) {name value : ByteArray} (hn' : Spec.small (s.extract 0 i) = name) (hv : s.extract (i + 2) s.size = value)
    (h1 : name.toList ≠ Spec.authL) (h2 : name.toList ≠ Spec.lenL) (h3 : name.toList ≠ Spec.encL) :
    Calls Try.prog 79 #[.pointer (some ⟨g, 0, none⟩), .string s] w fun e w' => e = .returned (.int .i64 (r.further s).1) ∧ WBlk w' g (r.further s).2 vl vb vc ∧ Step (fun k => k = g) w w' := by
  have hf : r.further s = (0, r) := by unfold WR.further; rw [h]; simp only [hn', hv]; unfold WR.field; rw [if_neg h1, if_neg h2, if_neg h3]
  have e1 : (Spec.authL == name.toList) = false := by simp only [beq_eq_false_iff_ne]; exact fun q => h1 q.symm
  have e2 : (Spec.lenL == name.toList) = false := by simp only [beq_eq_false_iff_ne]; exact fun q => h2 q.symm
  have e3 : (Spec.encL == name.toList) = false := by simp only [beq_eq_false_iff_ne]; exact fun q => h3 q.symm
  unfold Spec.authL at e1
  unfold Spec.lenL at e2
  unfold Spec.encL at e3
  clear h1 h2 h3
  have hsp := fun W => split_some h W (Nat.le_trans hs (by omega))
  have HF := Aside0.mk hf
  clear hf
  have HB := Aside0.mk hb
  clear hb
  rw [hn', hv] at hsp
  have HSP := Aside0.mk hsp
  clear hsp
  clear h hn' hv
  go_enter Try.func79, Try.ntmps79
  go_wp2_with (go_at_call 96; refine (HSP.out _).mono ?_; rintro e w1 ⟨rfl, hb1⟩; have HB1 := Aside0.mk hb1; clear hb1)
  go_loop [8, 23] (fun wh i => ∃ k : Nat, k ≤ 3 ∧ i = .int .i64 k ∧ wh = .int .i64 (if k = 0 then -1 else if k = 1 then -1 else if k = 2 then -1 else -1)) (fun _ i => 3 - (intOf i).toNat)
  case atStart => exact ⟨0, by omega, rfl, rfl⟩
  case round =>
    obtain ⟨k, hk, rfl, rfl⟩ := hrel
    rcases (show k = 0 ∨ k = 1 ∨ k = 2 ∨ k = 3 by omega) with rfl | rfl | rfl | rfl
    · go_wp2
      go_round
      case rel => exact ⟨1, by omega, rfl, rfl⟩
      case measure => simp [intOf]
    · go_wp2
      go_round
      case rel => exact ⟨2, by omega, rfl, rfl⟩
      case measure => simp [intOf]
    · go_wp2
      go_round
      case rel => exact ⟨3, by omega, rfl, rfl⟩
      case measure => simp [intOf]
    · go_wp2
      go_ret
      refine ⟨by rw [HF.out]; rfl, ?_, (Step.of_below HB1.out _).alloc _⟩
      rw [HF.out]
      exact (HB.out.below HB1.out).below (below_alloc (Below.refl _ _) _)

set_option maxRecDepth 100000 in
set_option maxHeartbeats 4000000 in
theorem further_auth_twice (r : WR) (g : Nat) (vl vb vc : Value) (s : ByteArray) (w : World) (hb : WBlk w g r vl vb vc) (hs : s.size ≤ 140737488351232) {i : Nat} (h : Spec.colon s = some i) {value : ByteArray} (hv : s.extract (i + 2) s.size = value) (hn' : Spec.small (s.extract 0 i) = ⟨Spec.authL.toArray⟩) (h0 : r.s0 = true) :
    Calls Try.prog 79 #[.pointer (some ⟨g, 0, none⟩), .string s] w fun e w' => e = .returned (.int .i64 (r.further s).1) ∧ WBlk w' g (r.further s).2 vl vb vc ∧ Step (fun k => k = g) w w' := by
  have hf : r.further s = (4, r) := by unfold WR.further; rw [h]; simp only [hn', hv]; unfold WR.field; rw [if_pos (by rw [ByteArray.toList_eq]), if_pos h0]
  unfold Spec.authL at hn'
  have hsp := fun W => split_some h W (Nat.le_trans hs (by omega))
  have HF := Aside0.mk hf
  clear hf
  have HB := Aside0.mk hb
  clear hb
  rw [hn', hv] at hsp
  have HSP := Aside0.mk hsp
  clear hsp
  clear h hn' hv
  go_enter Try.func79, Try.ntmps79
  go_wp2_with (go_at_call 96; refine (HSP.out _).mono ?_; rintro e w1 ⟨rfl, hb1⟩; have HB1 := Aside0.mk hb1; clear hb1)
  have HW := Aside0.mk (fun o => (HB.out.below HB1.out).below (below_alloc (Below.refl _ _) o))
  go_loop [8, 23] (fun wh i => ∃ k : Nat, k ≤ 3 ∧ i = .int .i64 k ∧ wh = .int .i64 (if k = 0 then -1 else if k = 1 then 0 else if k = 2 then 0 else 0)) (fun _ i => 3 - (intOf i).toNat)
  case atStart => exact ⟨0, by omega, rfl, rfl⟩
  case round =>
    obtain ⟨k, hk, rfl, rfl⟩ := hrel
    rcases (show k = 0 ∨ k = 1 ∨ k = 2 ∨ k = 3 by omega) with rfl | rfl | rfl | rfl
    · go_wp2
      go_round
      case rel => exact ⟨1, by omega, rfl, rfl⟩
      case measure => simp [intOf]
    · go_wp2
      go_round
      case rel => exact ⟨2, by omega, rfl, rfl⟩
      case measure => simp [intOf]
    · go_wp2
      go_round
      case rel => exact ⟨3, by omega, rfl, rfl⟩
      case measure => simp [intOf]
    · have k8 : ∀ o, (w1.alloc o).cell? ⟨g, 8, none⟩ = some (.string _) := fun o => blk_cell (HW.out o) 8
      have k10 : ∀ o, (w1.alloc o).cell? ⟨g, 10, none⟩ = some (.bool _) := fun o => blk_cell (HW.out o) 10
      have k11 : ∀ o, (w1.alloc o).cell? ⟨g, 11, none⟩ = some (.bool _) := fun o => blk_cell (HW.out o) 11
      have k12 : ∀ o, (w1.alloc o).cell? ⟨g, 12, none⟩ = some (.bool _) := fun o => blk_cell (HW.out o) 12
      have k13 : ∀ o, (w1.alloc o).cell? ⟨g, 13, none⟩ = some (.int .i64 _) := fun o => blk_cell (HW.out o) 13
      have fz : ∀ o i, (w1.alloc o).frozen? ⟨g, i, none⟩ = false := fun o i => blk_frozen (HW.out o) i
      rw [h0] at k10
      clear h0
      go_wp2
      go_ret
      refine ⟨by rw [HF.out]; rfl, ?_, by repeat (first | exact (Step.of_below HB1.out _).alloc _ | refine Step.setG ?_ _ _ | refine Step.drewN ?_ _ | refine Step.drew ?_)⟩
      rw [HF.out]
      exact HW.out _
set_option maxRecDepth 100000 in
set_option maxHeartbeats 4000000 in
theorem further_auth_short (r : WR) (g : Nat) (vl vb vc : Value) (s : ByteArray) (w : World) (hb : WBlk w g r vl vb vc) (hs : s.size ≤ 140737488351232) {i : Nat} (h : Spec.colon s = some i) {value : ByteArray} (hv : s.extract (i + 2) s.size = value) (hn' : Spec.small (s.extract 0 i) = ⟨Spec.authL.toArray⟩) (h0 : r.s0 = false) (hz : value.size < 7) :
    Calls Try.prog 79 #[.pointer (some ⟨g, 0, none⟩), .string s] w fun e w' => e = .returned (.int .i64 (r.further s).1) ∧ WBlk w' g (r.further s).2 vl vb vc ∧ Step (fun k => k = g) w w' := by
  have hf : r.further s = (4, { r with s0 := true }) := by unfold WR.further; rw [h]; simp only [hn', hv]; unfold WR.field; rw [if_pos (by rw [ByteArray.toList_eq]), if_neg (by rw [h0]; simp), if_pos (.inl hz)]
  unfold Spec.authL at hn'
  have hsp := fun W => split_some h W (Nat.le_trans hs (by omega))
  have HF := Aside0.mk hf
  clear hf
  have HB := Aside0.mk hb
  clear hb
  rw [hn', hv] at hsp
  have HSP := Aside0.mk hsp
  clear hsp
  clear h hn' hv
  go_enter Try.func79, Try.ntmps79
  go_wp2_with (go_at_call 96; refine (HSP.out _).mono ?_; rintro e w1 ⟨rfl, hb1⟩; have HB1 := Aside0.mk hb1; clear hb1)
  have HW := Aside0.mk (fun o => (HB.out.below HB1.out).below (below_alloc (Below.refl _ _) o))
  go_loop [8, 23] (fun wh i => ∃ k : Nat, k ≤ 3 ∧ i = .int .i64 k ∧ wh = .int .i64 (if k = 0 then -1 else if k = 1 then 0 else if k = 2 then 0 else 0)) (fun _ i => 3 - (intOf i).toNat)
  case atStart => exact ⟨0, by omega, rfl, rfl⟩
  case round =>
    obtain ⟨k, hk, rfl, rfl⟩ := hrel
    rcases (show k = 0 ∨ k = 1 ∨ k = 2 ∨ k = 3 by omega) with rfl | rfl | rfl | rfl
    · go_wp2
      go_round
      case rel => exact ⟨1, by omega, rfl, rfl⟩
      case measure => simp [intOf]
    · go_wp2
      go_round
      case rel => exact ⟨2, by omega, rfl, rfl⟩
      case measure => simp [intOf]
    · go_wp2
      go_round
      case rel => exact ⟨3, by omega, rfl, rfl⟩
      case measure => simp [intOf]
    · have k8 : ∀ o, (w1.alloc o).cell? ⟨g, 8, none⟩ = some (.string _) := fun o => blk_cell (HW.out o) 8
      have k10 : ∀ o, (w1.alloc o).cell? ⟨g, 10, none⟩ = some (.bool _) := fun o => blk_cell (HW.out o) 10
      have k11 : ∀ o, (w1.alloc o).cell? ⟨g, 11, none⟩ = some (.bool _) := fun o => blk_cell (HW.out o) 11
      have k12 : ∀ o, (w1.alloc o).cell? ⟨g, 12, none⟩ = some (.bool _) := fun o => blk_cell (HW.out o) 12
      have k13 : ∀ o, (w1.alloc o).cell? ⟨g, 13, none⟩ = some (.int .i64 _) := fun o => blk_cell (HW.out o) 13
      have fz : ∀ o i, (w1.alloc o).frozen? ⟨g, i, none⟩ = false := fun o i => blk_frozen (HW.out o) i
      rw [h0] at k10
      clear h0
      go_wp2
      go_ret
      refine ⟨by rw [HF.out]; rfl, ?_, by repeat (first | exact (Step.of_below HB1.out _).alloc _ | refine Step.setG ?_ _ _ | refine Step.drewN ?_ _ | refine Step.drew ?_)⟩
      rw [HF.out]
      exact (HW.out _).set10 _
set_option maxRecDepth 100000 in
set_option maxHeartbeats 4000000 in
theorem further_auth_not (r : WR) (g : Nat) (vl vb vc : Value) (s : ByteArray) (w : World) (hb : WBlk w g r vl vb vc) (hs : s.size ≤ 140737488351232) {i : Nat} (h : Spec.colon s = some i) {value : ByteArray} (hv : s.extract (i + 2) s.size = value) (hn' : Spec.small (s.extract 0 i) = ⟨Spec.authL.toArray⟩) (h0 : r.s0 = false) (hz : ¬ value.size < 7) (hl : (value.extract 0 7).toList ≠ Spec.bearerL) :
    Calls Try.prog 79 #[.pointer (some ⟨g, 0, none⟩), .string s] w fun e w' => e = .returned (.int .i64 (r.further s).1) ∧ WBlk w' g (r.further s).2 vl vb vc ∧ Step (fun k => k = g) w w' := by
  have hf : r.further s = (4, { r with s0 := true }) := by unfold WR.further; rw [h]; simp only [hn', hv]; unfold WR.field; rw [if_pos (by rw [ByteArray.toList_eq]), if_neg (by rw [h0]; simp), if_pos (.inr hl)]
  unfold Spec.authL at hn'
  have hl2 : ((value.extract 0 7).toList == Spec.bearerL) = false := by simpa using hl
  have hl3 : ((value.extract 0 7).toList != Spec.bearerL) = true := by simpa using hl
  unfold Spec.bearerL at hl2 hl3
  clear hl
  have hsp := fun W => split_some h W (Nat.le_trans hs (by omega))
  have HF := Aside0.mk hf
  clear hf
  have HB := Aside0.mk hb
  clear hb
  rw [hn', hv] at hsp
  have HSP := Aside0.mk hsp
  clear hsp
  clear h hn' hv
  go_enter Try.func79, Try.ntmps79
  go_wp2_with (go_at_call 96; refine (HSP.out _).mono ?_; rintro e w1 ⟨rfl, hb1⟩; have HB1 := Aside0.mk hb1; clear hb1)
  have HW := Aside0.mk (fun o => (HB.out.below HB1.out).below (below_alloc (Below.refl _ _) o))
  go_loop [8, 23] (fun wh i => ∃ k : Nat, k ≤ 3 ∧ i = .int .i64 k ∧ wh = .int .i64 (if k = 0 then -1 else if k = 1 then 0 else if k = 2 then 0 else 0)) (fun _ i => 3 - (intOf i).toNat)
  case atStart => exact ⟨0, by omega, rfl, rfl⟩
  case round =>
    obtain ⟨k, hk, rfl, rfl⟩ := hrel
    rcases (show k = 0 ∨ k = 1 ∨ k = 2 ∨ k = 3 by omega) with rfl | rfl | rfl | rfl
    · go_wp2
      go_round
      case rel => exact ⟨1, by omega, rfl, rfl⟩
      case measure => simp [intOf]
    · go_wp2
      go_round
      case rel => exact ⟨2, by omega, rfl, rfl⟩
      case measure => simp [intOf]
    · go_wp2
      go_round
      case rel => exact ⟨3, by omega, rfl, rfl⟩
      case measure => simp [intOf]
    · have k8 : ∀ o, (w1.alloc o).cell? ⟨g, 8, none⟩ = some (.string _) := fun o => blk_cell (HW.out o) 8
      have k10 : ∀ o, (w1.alloc o).cell? ⟨g, 10, none⟩ = some (.bool _) := fun o => blk_cell (HW.out o) 10
      have k11 : ∀ o, (w1.alloc o).cell? ⟨g, 11, none⟩ = some (.bool _) := fun o => blk_cell (HW.out o) 11
      have k12 : ∀ o, (w1.alloc o).cell? ⟨g, 12, none⟩ = some (.bool _) := fun o => blk_cell (HW.out o) 12
      have k13 : ∀ o, (w1.alloc o).cell? ⟨g, 13, none⟩ = some (.int .i64 _) := fun o => blk_cell (HW.out o) 13
      have fz : ∀ o i, (w1.alloc o).frozen? ⟨g, i, none⟩ = false := fun o i => blk_frozen (HW.out o) i
      rw [h0] at k10
      clear h0
      go_wp2
      go_ret
      refine ⟨by rw [HF.out]; rfl, ?_, by repeat (first | exact (Step.of_below HB1.out _).alloc _ | refine Step.setG ?_ _ _ | refine Step.drewN ?_ _ | refine Step.drew ?_)⟩
      rw [HF.out]
      exact (HW.out _).set10 _
set_option maxRecDepth 100000 in
set_option maxHeartbeats 4000000 in
theorem further_auth (r : WR) (g : Nat) (vl vb vc : Value) (s : ByteArray) (w : World) (hb : WBlk w g r vl vb vc) (hs : s.size ≤ 140737488351232) {i : Nat} (h : Spec.colon s = some i) {value : ByteArray} (hv : s.extract (i + 2) s.size = value) (hn' : Spec.small (s.extract 0 i) = ⟨Spec.authL.toArray⟩) (h0 : r.s0 = false) (hz : ¬ value.size < 7) (hl : (value.extract 0 7).toList = Spec.bearerL) :
    Calls Try.prog 79 #[.pointer (some ⟨g, 0, none⟩), .string s] w fun e w' => e = .returned (.int .i64 (r.further s).1) ∧ WBlk w' g (r.further s).2 vl vb vc ∧ Step (fun k => k = g) w w' := by
  have hf : r.further s = (0, { r with s0 := true, token := value.extract 7 value.size }) := by unfold WR.further; rw [h]; simp only [hn', hv]; unfold WR.field; rw [if_pos (by rw [ByteArray.toList_eq]), if_neg (by rw [h0]; simp), if_neg (by simp [hz, hl])]
  unfold Spec.authL at hn'
  have hl2 : ((value.extract 0 7).toList == Spec.bearerL) = true := by simpa using hl
  have hl3 : ((value.extract 0 7).toList != Spec.bearerL) = false := by simpa using hl
  unfold Spec.bearerL at hl2 hl3
  clear hl
  have hsp := fun W => split_some h W (Nat.le_trans hs (by omega))
  have HF := Aside0.mk hf
  clear hf
  have HB := Aside0.mk hb
  clear hb
  rw [hn', hv] at hsp
  have HSP := Aside0.mk hsp
  clear hsp
  clear h hn' hv
  go_enter Try.func79, Try.ntmps79
  go_wp2_with (go_at_call 96; refine (HSP.out _).mono ?_; rintro e w1 ⟨rfl, hb1⟩; have HB1 := Aside0.mk hb1; clear hb1)
  have HW := Aside0.mk (fun o => (HB.out.below HB1.out).below (below_alloc (Below.refl _ _) o))
  go_loop [8, 23] (fun wh i => ∃ k : Nat, k ≤ 3 ∧ i = .int .i64 k ∧ wh = .int .i64 (if k = 0 then -1 else if k = 1 then 0 else if k = 2 then 0 else 0)) (fun _ i => 3 - (intOf i).toNat)
  case atStart => exact ⟨0, by omega, rfl, rfl⟩
  case round =>
    obtain ⟨k, hk, rfl, rfl⟩ := hrel
    rcases (show k = 0 ∨ k = 1 ∨ k = 2 ∨ k = 3 by omega) with rfl | rfl | rfl | rfl
    · go_wp2
      go_round
      case rel => exact ⟨1, by omega, rfl, rfl⟩
      case measure => simp [intOf]
    · go_wp2
      go_round
      case rel => exact ⟨2, by omega, rfl, rfl⟩
      case measure => simp [intOf]
    · go_wp2
      go_round
      case rel => exact ⟨3, by omega, rfl, rfl⟩
      case measure => simp [intOf]
    · have k8 : ∀ o, (w1.alloc o).cell? ⟨g, 8, none⟩ = some (.string _) := fun o => blk_cell (HW.out o) 8
      have k10 : ∀ o, (w1.alloc o).cell? ⟨g, 10, none⟩ = some (.bool _) := fun o => blk_cell (HW.out o) 10
      have k11 : ∀ o, (w1.alloc o).cell? ⟨g, 11, none⟩ = some (.bool _) := fun o => blk_cell (HW.out o) 11
      have k12 : ∀ o, (w1.alloc o).cell? ⟨g, 12, none⟩ = some (.bool _) := fun o => blk_cell (HW.out o) 12
      have k13 : ∀ o, (w1.alloc o).cell? ⟨g, 13, none⟩ = some (.int .i64 _) := fun o => blk_cell (HW.out o) 13
      have fz : ∀ o i, (w1.alloc o).frozen? ⟨g, i, none⟩ = false := fun o i => blk_frozen (HW.out o) i
      rw [h0] at k10
      clear h0
      go_wp2
      go_ret
      refine ⟨by rw [HF.out]; rfl, ?_, by repeat (first | exact (Step.of_below HB1.out _).alloc _ | refine Step.setG ?_ _ _ | refine Step.drewN ?_ _ | refine Step.drew ?_)⟩
      rw [HF.out]
      exact ((HW.out _).set10 _).set8 _
end Go.Proofs.Ytncpicfnlnkndaa.Wire
