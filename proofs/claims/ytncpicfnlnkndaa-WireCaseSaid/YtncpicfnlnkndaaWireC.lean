/- The walks of wire's (*Reader).first and (*Reader).ends. -/
import Derived.Test.YtncpicfnlnkndaaWireB
import Derived.Test.YtncpicfnlnkndaaPlainA
import Derived.BigRegion
import Derived.RegionTactic
import Derived.WalkKit
import Derived.Deep.QuietTactic
import Derived.BigQuiet
import Derived.WalkLawsBesides
import Derived.WalkSpells
import Derived.Lib.Hide
import Derived.Outline
set_option linter.unusedVariables false
set_option linter.unusedSimpArgs false
namespace Go.Proofs.Ytncpicfnlnkndaa.Wire
open Go.RowKit Go.Proofs.YtncpicfnlnkndaaW.PrintWords Go.Proofs.Ytncpicfnlnkndaa.Mem Go.Proofs.Ytncpicfnlnkndaa.PA

/-- A reader's fields, but for its rows and its chunks. -/
structure WR where
  made : Bool
  bad : Bool
  whole : Bool
  head : Int
  lines : Int
  method : ByteArray
  target : ByteArray
  token : ByteArray
  s0 : Bool
  s1 : Bool
  s2 : Bool
  left : Int
  inBody : Bool
def WR.cells (r : WR) (vl vb vc : Value) : Array Value :=
  #[.bool r.made, .bool r.bad, .bool r.whole, .int .i64 r.head, .int .i64 r.lines, vl, .string r.method, .string r.target, .string r.token, vb, .bool r.s0, .bool r.s1, .bool r.s2, .int .i64 r.left, vc, .bool r.inBody]
/-- The block g is a reader with these fields and these values for its rows and its chunks. -/
def WBlk (W : World) (g : Nat) (r : WR) (vl vb vc : Value) : Prop := W.heap[g]? = some (.cells (r.cells vl vb vc) 55 (0, 0))


theorem lit_of {s : ByteArray} {l : List UInt8} (h : s.toList = l) : s = ⟨l.toArray⟩ := by
  rw [ByteArray.toList_eq] at h
  cases s
  simp at h
  subst h
  simp
theorem piecesFrom_size (s : ByteArray) (d : Int) : ∀ (n b i : Nat), ∀ p ∈ Spec.piecesFrom s d n b i, p.size ≤ s.size := by
  intro n
  induction n with
  | zero =>
    intro b i p hp
    simp [Spec.piecesFrom] at hp
    subst hp
    rw [ByteArray.size_extract]
    omega
  | succ n ih =>
    intro b i p hp
    unfold Spec.piecesFrom at hp
    split at hp
    · rcases List.mem_cons.1 hp with rfl | hp
      · rw [ByteArray.size_extract]
        omega
      · exact ih _ _ p hp
    · exact ih _ _ p hp
theorem piecesFrom_pos (s : ByteArray) (d : Int) : ∀ (n b i : Nat), 0 < (Spec.piecesFrom s d n b i).length := by
  intro n
  induction n with
  | zero => intro b i; simp [Spec.piecesFrom]
  | succ n ih =>
    intro b i
    unfold Spec.piecesFrom
    split
    · simp
    · exact ih _ _
theorem step_of_below {B : Nat} {w w1 : World} (h : Below B w w1) (hB : B = w.heap.size) (S : Nat → Prop) : Step S w w1 := by
  subst hB
  exact Step.of_below h S
theorem WBlk.below {w w1 : World} {g : Nat} {r : WR} {vl vb vc : Value} (h : WBlk w g r vl vb vc) (hb : Below w.heap.size w w1) : WBlk w1 g r vl vb vc := (hb.block g (blk_lt h)).trans h
theorem WBlk.step {S : Nat → Prop} {w w1 : World} {g : Nat} {r : WR} {vl vb vc : Value} (h : WBlk w g r vl vb vc) (hb : Step S w w1) (hg : ¬ S g) : WBlk w1 g r vl vb vc := hb.blk h hg
theorem WBlk.drew {w : World} {g : Nat} {r : WR} {vl vb vc : Value} (h : WBlk w g r vl vb vc) : WBlk w.drew g r vl vb vc := h
theorem WBlk.drewN {w : World} {g : Nat} {r : WR} {vl vb vc : Value} (h : WBlk w g r vl vb vc) (n : Nat) : WBlk (w.drewN n) g r vl vb vc := h
section
variable {w : World} {g : Nat} {r : WR} {vl vb vc : Value}
theorem WBlk.set0 (h : WBlk w g r vl vb vc) (x : Bool) : WBlk (w.setCell ⟨g, 0, none⟩ (.bool x)) g { r with made := x } vl vb vc := by unfold WBlk; simpa [WR.cells] using blk_set h 0 (.bool x)
theorem WBlk.set1 (h : WBlk w g r vl vb vc) (x : Bool) : WBlk (w.setCell ⟨g, 1, none⟩ (.bool x)) g { r with bad := x } vl vb vc := by unfold WBlk; simpa [WR.cells] using blk_set h 1 (.bool x)
theorem WBlk.set2 (h : WBlk w g r vl vb vc) (x : Bool) : WBlk (w.setCell ⟨g, 2, none⟩ (.bool x)) g { r with whole := x } vl vb vc := by unfold WBlk; simpa [WR.cells] using blk_set h 2 (.bool x)
theorem WBlk.set3 (h : WBlk w g r vl vb vc) (x : Int) : WBlk (w.setCell ⟨g, 3, none⟩ (.int .i64 x)) g { r with head := x } vl vb vc := by unfold WBlk; simpa [WR.cells] using blk_set h 3 (.int .i64 x)
theorem WBlk.set4 (h : WBlk w g r vl vb vc) (x : Int) : WBlk (w.setCell ⟨g, 4, none⟩ (.int .i64 x)) g { r with lines := x } vl vb vc := by unfold WBlk; simpa [WR.cells] using blk_set h 4 (.int .i64 x)
theorem WBlk.set5 (h : WBlk w g r vl vb vc) (x : Value) : WBlk (w.setCell ⟨g, 5, none⟩ x) g r x vb vc := by unfold WBlk; simpa [WR.cells] using blk_set h 5 x
theorem WBlk.set6 (h : WBlk w g r vl vb vc) (x : ByteArray) : WBlk (w.setCell ⟨g, 6, none⟩ (.string x)) g { r with method := x } vl vb vc := by unfold WBlk; simpa [WR.cells] using blk_set h 6 (.string x)
theorem WBlk.set7 (h : WBlk w g r vl vb vc) (x : ByteArray) : WBlk (w.setCell ⟨g, 7, none⟩ (.string x)) g { r with target := x } vl vb vc := by unfold WBlk; simpa [WR.cells] using blk_set h 7 (.string x)
theorem WBlk.set8 (h : WBlk w g r vl vb vc) (x : ByteArray) : WBlk (w.setCell ⟨g, 8, none⟩ (.string x)) g { r with token := x } vl vb vc := by unfold WBlk; simpa [WR.cells] using blk_set h 8 (.string x)
theorem WBlk.set9 (h : WBlk w g r vl vb vc) (x : Value) : WBlk (w.setCell ⟨g, 9, none⟩ x) g r vl x vc := by unfold WBlk; simpa [WR.cells] using blk_set h 9 x
theorem WBlk.set10 (h : WBlk w g r vl vb vc) (x : Bool) : WBlk (w.setCell ⟨g, 10, none⟩ (.bool x)) g { r with s0 := x } vl vb vc := by unfold WBlk; simpa [WR.cells] using blk_set h 10 (.bool x)
theorem WBlk.set11 (h : WBlk w g r vl vb vc) (x : Bool) : WBlk (w.setCell ⟨g, 11, none⟩ (.bool x)) g { r with s1 := x } vl vb vc := by unfold WBlk; simpa [WR.cells] using blk_set h 11 (.bool x)
theorem WBlk.set12 (h : WBlk w g r vl vb vc) (x : Bool) : WBlk (w.setCell ⟨g, 12, none⟩ (.bool x)) g { r with s2 := x } vl vb vc := by unfold WBlk; simpa [WR.cells] using blk_set h 12 (.bool x)
theorem WBlk.set13 (h : WBlk w g r vl vb vc) (x : Int) : WBlk (w.setCell ⟨g, 13, none⟩ (.int .i64 x)) g { r with left := x } vl vb vc := by unfold WBlk; simpa [WR.cells] using blk_set h 13 (.int .i64 x)
theorem WBlk.set14 (h : WBlk w g r vl vb vc) (x : Value) : WBlk (w.setCell ⟨g, 14, none⟩ x) g r vl vb x := by unfold WBlk; simpa [WR.cells] using blk_set h 14 x
theorem WBlk.set15 (h : WBlk w g r vl vb vc) (x : Bool) : WBlk (w.setCell ⟨g, 15, none⟩ (.bool x)) g { r with inBody := x } vl vb vc := by unfold WBlk; simpa [WR.cells] using blk_set h 15 (.bool x)
end

set_option maxHeartbeats 8000000 in
theorem wire_first_yes (r : WR) (g : Nat) (vl vb vc : Value) (s m t : ByteArray) (w : World) (hb : WBlk w g r vl vb vc) (hs : s.size ≤ 140737488351232) (h : Spec.first s = some (m, t)) :
    Calls Try.prog 77 #[.pointer (some ⟨g, 0, none⟩), .string s] w fun e w' =>
      e = .returned (.int .i64 0) ∧ WBlk w' g { r with method := m, target := t } vl vb vc ∧ Step (fun k => k = g) w w' := by
  have hf := Plain.text_Fields_f s 32 3 (by omega) hs
  unfold Spec.first at h
  split at h
  · rename_i m' t' v hp
    split at h
    · rename_i hc
      injection h with h
      injection h with h1 h2
      subst h1 h2
      obtain ⟨hv, hm, ht⟩ := hc
      have hz : t'.size ≤ 140737488351232 := Nat.le_trans (piecesFrom_size s 32 _ _ _ t' (by unfold Spec.pieces at hp; rw [hp]; simp)) hs
      have htg := Plain.wire_target_f t' hz
      rw [hp] at hf
      rw [if_neg (by simp)] at hf
      rw [ht] at htg
      have hv' := lit_of hv
      subst hv'
      have HF := Aside0.mk hf
      clear hf
      have HTG := Aside0.mk htg
      clear htg
      have HP := Aside0.mk hp
      clear hp
      have HB := Aside0.mk hb
      clear hb
      clear ht hv hz
      rcases hm with hm | hm | hm
      all_goals
        have hm' := lit_of hm
        subst hm'
        clear hm
        go_enter Try.func77, Try.ntmps77
        go_wp2_with (first
          | (go_at_call 70; refine (text_Fields.calls _ s 32 3 _ _ _ HF.out).mono ?_; rintro e w1 ⟨v0, rfl, hr, hb1⟩; obtain ⟨g2, c2, e2, hg2, hg3, hcs⟩ := strs_form hr (by simp); subst e2; have HB1 := Aside0.mk hb1; have HW1 := Aside0.mk (HB.out.below hb1); have d0 : w1.cell? ⟨g2, 0, none⟩ = some (.string _) := hcs 0 (by simp); have d1 : w1.cell? ⟨g2, 1, none⟩ = some (.string _) := hcs 1 (by simp); have d2 : w1.cell? ⟨g2, 2, none⟩ = some (.string _) := hcs 2 (by simp); have hne1 : g2 ≠ g := (by have := blk_lt HB.out; omega); have hne2 : g ≠ g2 := (by have := blk_lt HB.out; omega); have k6 : w1.cell? ⟨g, 6, none⟩ = some (.string _) := blk_cell HW1.out 6; have k7 : w1.cell? ⟨g, 7, none⟩ = some (.string _) := blk_cell HW1.out 7; have f6 : w1.frozen? ⟨g, 6, none⟩ = false := blk_frozen HW1.out 6; have f7 : w1.frozen? ⟨g, 7, none⟩ = false := blk_frozen HW1.out 7; clear hcs hr hb1)
          | (go_at_call 94; refine (wire_target.calls _ _ _ _ HTG.out).mono ?_; rintro e w2 ⟨rfl, hd⟩; obtain ⟨nq, rfl⟩ := hd))
        go_region
        all_goals
          go_wp2
          go_ret
          refine ⟨rfl, (((HW1.out.drewN _).drew.set6 _).set7 _), ?_⟩
          exact ((((Step.of_below HB1.out (fun k => k = g)).drewN _).drew.setCell (.inl rfl) _).setCell (.inl rfl) _)
    · cases h
  · cases h

set_option maxHeartbeats 8000000 in
theorem wire_first_no (r : WR) (g : Nat) (vl vb vc : Value) (s : ByteArray) (w : World) (hb : WBlk w g r vl vb vc) (hs : s.size ≤ 140737488351232) (h : Spec.first s = none) :
    Calls Try.prog 77 #[.pointer (some ⟨g, 0, none⟩), .string s] w fun e w' =>
      e = .returned (.int .i64 4) ∧ Below w.heap.size w w' := by
  have hf := Plain.text_Fields_f s 32 3 (by omega) hs
  have HB := Aside0.mk hb
  clear hb
  by_cases h3 : (Spec.pieces s 32).length > 3
  · rw [if_pos h3] at hf
    have HF := Aside0.mk hf
    clear hf
    clear h h3
    go_enter Try.func77, Try.ntmps77
    go_wp2_with (go_at_call 70; refine (text_Fields.calls _ s 32 3 _ _ _ HF.out).mono ?_; rintro e w1 ⟨v0, rfl, hr, hb1⟩; obtain ⟨A2, c2, e2⟩ := Kd.R_slice hr; subst e2; have HB1 := Aside0.mk hb1; clear hr hb1)
    go_ret
    exact ⟨rfl, HB1.out⟩
  · rw [if_neg h3] at hf
    by_cases h4 : (Spec.pieces s 32).length = 3
    · obtain ⟨m', t', v, hp⟩ : ∃ m' t' v, Spec.pieces s 32 = [m', t', v] := by
        match hq : Spec.pieces s 32, h4 with
        | [a, b, c], _ => exact ⟨a, b, c, rfl⟩
      have hz : t'.size ≤ 140737488351232 := Nat.le_trans (piecesFrom_size s 32 _ _ _ t' (by unfold Spec.pieces at hp; rw [hp]; simp)) hs
      have htg := Plain.wire_target_f t' hz
      unfold Spec.first at h
      rw [hp] at h hf
      clear h3 h4
      have HF := Aside0.mk hf
      clear hf
      have HP := Aside0.mk hp
      clear hp
      by_cases hv : v.toList = Spec.httpL
      · have hv' := lit_of hv
        subst hv'
        by_cases hm : m'.toList = Spec.getL ∨ m'.toList = Spec.putL ∨ m'.toList = Spec.postL
        · have ht : Spec.isTarget t' = false := by
            rcases hq : Spec.isTarget t' with _ | _
            · rfl
            · exfalso
              simp only [] at h
              rw [if_pos ⟨hv, hm, hq⟩] at h
              cases h
          rw [ht] at htg
          have HTG := Aside0.mk htg
          clear htg
          clear hv h ht
          rcases hm with hm | hm | hm
          all_goals
            have hm' := lit_of hm
            subst hm'
            clear hm
            go_enter Try.func77, Try.ntmps77
            go_wp2_with (first
              | (go_at_call 70; refine (text_Fields.calls _ s 32 3 _ _ _ HF.out).mono ?_; rintro e w1 ⟨v0, rfl, hr, hb1⟩; obtain ⟨g2, c2, e2, hg2, hg3, hcs⟩ := strs_form hr (by simp); subst e2; have HB1 := Aside0.mk hb1; have HW1 := Aside0.mk (HB.out.below hb1); have d0 : w1.cell? ⟨g2, 0, none⟩ = some (.string _) := hcs 0 (by simp); have d1 : w1.cell? ⟨g2, 1, none⟩ = some (.string _) := hcs 1 (by simp); have d2 : w1.cell? ⟨g2, 2, none⟩ = some (.string _) := hcs 2 (by simp); have hne1 : g2 ≠ g := (by have := blk_lt HB.out; omega); have hne2 : g ≠ g2 := (by have := blk_lt HB.out; omega); have k6 : w1.cell? ⟨g, 6, none⟩ = some (.string _) := blk_cell HW1.out 6; have k7 : w1.cell? ⟨g, 7, none⟩ = some (.string _) := blk_cell HW1.out 7; have f6 : w1.frozen? ⟨g, 6, none⟩ = false := blk_frozen HW1.out 6; have f7 : w1.frozen? ⟨g, 7, none⟩ = false := blk_frozen HW1.out 7; clear hcs hr hb1)
              | (go_at_call 94; refine (wire_target.calls _ _ _ _ HTG.out).mono ?_; rintro e w2 ⟨rfl, hd⟩; obtain ⟨nq, rfl⟩ := hd))
            go_ret
            exact ⟨rfl, pw_below_drewN HB1.out _⟩
        · clear h htg hv
          have e1 : (m'.toList == Spec.getL) = false := by simp only [beq_eq_false_iff_ne]; exact fun q => hm (.inl q)
          have e2 : (m'.toList == Spec.putL) = false := by simp only [beq_eq_false_iff_ne]; exact fun q => hm (.inr (.inl q))
          have e3 : (m'.toList == Spec.postL) = false := by simp only [beq_eq_false_iff_ne]; exact fun q => hm (.inr (.inr q))
          unfold Spec.getL at e1
          unfold Spec.putL at e2
          unfold Spec.postL at e3
          clear hm
          go_enter Try.func77, Try.ntmps77
          go_wp2_with ((go_at_call 70; refine (text_Fields.calls _ s 32 3 _ _ _ HF.out).mono ?_; rintro e w1 ⟨v0, rfl, hr, hb1⟩; obtain ⟨g2, c2, e2, hg2, hg3, hcs⟩ := strs_form hr (by simp); subst e2; have HB1 := Aside0.mk hb1; have HW1 := Aside0.mk (HB.out.below hb1); have d0 : w1.cell? ⟨g2, 0, none⟩ = some (.string _) := hcs 0 (by simp); have d1 : w1.cell? ⟨g2, 1, none⟩ = some (.string _) := hcs 1 (by simp); have d2 : w1.cell? ⟨g2, 2, none⟩ = some (.string _) := hcs 2 (by simp); have hne1 : g2 ≠ g := (by have := blk_lt HB.out; omega); have hne2 : g ≠ g2 := (by have := blk_lt HB.out; omega); have k6 : w1.cell? ⟨g, 6, none⟩ = some (.string _) := blk_cell HW1.out 6; have k7 : w1.cell? ⟨g, 7, none⟩ = some (.string _) := blk_cell HW1.out 7; have f6 : w1.frozen? ⟨g, 6, none⟩ = false := blk_frozen HW1.out 6; have f7 : w1.frozen? ⟨g, 7, none⟩ = false := blk_frozen HW1.out 7; clear hcs hr hb1))
          go_ret
          exact ⟨rfl, HB1.out⟩
      · clear h htg
        have e1 : (v.toList == Spec.httpL) = false := by simpa using hv
        unfold Spec.httpL at e1
        clear hv
        go_enter Try.func77, Try.ntmps77
        go_wp2_with ((go_at_call 70; refine (text_Fields.calls _ s 32 3 _ _ _ HF.out).mono ?_; rintro e w1 ⟨v0, rfl, hr, hb1⟩; obtain ⟨g2, c2, e2, hg2, hg3, hcs⟩ := strs_form hr (by simp); subst e2; have HB1 := Aside0.mk hb1; have HW1 := Aside0.mk (HB.out.below hb1); have d0 : w1.cell? ⟨g2, 0, none⟩ = some (.string _) := hcs 0 (by simp); have d1 : w1.cell? ⟨g2, 1, none⟩ = some (.string _) := hcs 1 (by simp); have d2 : w1.cell? ⟨g2, 2, none⟩ = some (.string _) := hcs 2 (by simp); have hne1 : g2 ≠ g := (by have := blk_lt HB.out; omega); have hne2 : g ≠ g2 := (by have := blk_lt HB.out; omega); have k6 : w1.cell? ⟨g, 6, none⟩ = some (.string _) := blk_cell HW1.out 6; have k7 : w1.cell? ⟨g, 7, none⟩ = some (.string _) := blk_cell HW1.out 7; have f6 : w1.frozen? ⟨g, 6, none⟩ = false := blk_frozen HW1.out 6; have f7 : w1.frozen? ⟨g, 7, none⟩ = false := blk_frozen HW1.out 7; clear hcs hr hb1))
        go_ret
        exact ⟨rfl, HB1.out⟩
    · clear h
      have hne : (((Spec.pieces s 32).length : Int) == 3) = false := by simp; omega
      have hne2 : (((Spec.pieces s 32).length : Int) != 3) = true := by simp; omega
      clear h3 h4
      have HF := Aside0.mk hf
      clear hf
      generalize Spec.pieces s 32 = pl at *
      go_enter Try.func77, Try.ntmps77
      go_wp2_with (go_at_call 70; refine (text_Fields.calls _ s 32 3 _ _ _ HF.out).mono ?_; rintro e w1 ⟨v0, rfl, hr, hb1⟩; obtain ⟨A2, c2, e2⟩ := Kd.R_slice hr; subst e2; have HB1 := Aside0.mk hb1; clear hr hb1)
      go_ret
      exact ⟨rfl, HB1.out⟩
end Go.Proofs.Ytncpicfnlnkndaa.Wire
