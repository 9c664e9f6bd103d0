/- The walk of wire's (*Reader).heads. -/
import Derived.Test.YtncpicfnlnkndaaWireG
import Derived.WalkKit
import Derived.Deep.QuietTactic
import Derived.BigQuiet
import Derived.WalkLawsBesides
import Derived.WalkSpells
import Derived.Lib.Hide
import Derived.Outline
set_option linter.unusedVariables false
set_option linter.unusedSimpArgs false
namespace Go.Proofs.Ytncpicfnlnkndaa.Wire
open Go.RowKit Go.Proofs.YtncpicfnlnkndaaW.PrintWords Go.Proofs.Ytncpicfnlnkndaa.Mem Go.Proofs.Ytncpicfnlnkndaa.PA

def WS.ends (x : WS) : WS :=
  if x.f.s2 = true then { x with f := { x.f with inBody := true }, ch := some ⟨2048, 0, 0, [], true⟩ }
  else { x with f := { x.f with inBody := true, whole := x.f.left == 0 } }
def WS.ended (x : WS) (s : ByteArray) : Int × WS :=
  if x.f.lines = 1 then
    match Spec.first s with
    | some (m, t) => (0, { x with f := { x.f with method := m, target := t } })
    | none => (4, x)
  else if s.size = 0 then (0, x.ends)
  else if x.f.lines > 17 then (5, x)
  else ((x.f.further s).1, { x with f := (x.f.further s).2 })
def behind (l : List Int) : Bool := l.getLast? == some 13
def WS.heads (x : WS) (b : Int) : Int × WS :=
  if x.f.head ≥ 1024 then (5, x)
  else if behind x.line ≠ decide (b = 10) ∨ (b ≠ 13 ∧ b ≠ 10 ∧ (b < 32 ∨ b > 126)) then (4, { x with f := { x.f with head := x.f.head + 1 } })
  else if b ≠ 10 then (0, { x with f := { x.f with head := x.f.head + 1 }, line := x.line ++ [b] })
  else WS.ended { x with f := { x.f with head := x.f.head + 1, lines := x.f.lines + 1 }, line := [] } (strOfNums x.line.dropLast)

theorem heads_big (x : WS) (S : Nat → Prop) (g : Nat) (b : Int) (w : World) (hr : WRep w S g x) (h0 : 0 ≤ b) (h1 : b ≤ 255) (hh : 0 ≤ x.f.head) (hl0 : 0 ≤ x.f.lines) (hl1 : x.f.lines ≤ 2048) (hln : x.line.length ≤ 2048) (hc : x.f.head ≥ 1024) : Calls Try.prog 49 #[.pointer (some ⟨g, 0, none⟩), .int .u8 b] w fun e w' => e = .returned (.int .i64 (x.heads b).1) ∧ WRep w' (more S w) g (x.heads b).2 ∧ Step S w w' := by
  have hh' : x.heads b = (5, x) := by unfold WS.heads; rw [if_pos hc]
  obtain ⟨f, line, body, ch⟩ := x
  dsimp only at *
  have HR := Aside0.mk hr
  obtain ⟨vl, vb, vc, hb, hS, hol, hob, hne, hch⟩ := hr
  obtain ⟨A, cp, evl⟩ := hol.form
  have k3 : w.cell? ⟨g, 3, none⟩ = some (.int .i64 f.head) := blk_cell hb 3
  have k4 : w.cell? ⟨g, 4, none⟩ = some (.int .i64 f.lines) := blk_cell hb 4
  have k5 : w.cell? ⟨g, 5, none⟩ = some vl := blk_cell hb 5
  have fz : ∀ i, w.frozen? ⟨g, i, none⟩ = false := blk_frozen hb
  have HB := Aside0.mk hb
  clear hb
  have HOL := Aside0.mk hol
  clear hol
  have HOB := Aside0.mk hob
  clear hob
  have HNE := Aside0.mk hne
  clear hne
  have HCH := Aside0.mk hch
  clear hch
  have HH := Aside0.mk hh'
  clear hh'
  clear evl
  go_enter Try.func49, Try.ntmps49
  go_wp2
  go_ret
  refine ⟨by rw [HH.out]; rfl, ?_, Step.refl _ _⟩
  rw [HH.out]
  exact HR.out.mono (fun k h => .inl h)

set_option maxHeartbeats 4000000 in
theorem heads_err0 (x : WS) (S : Nat → Prop) (g : Nat) (b : Int) (w : World) (hr : WRep w S g x) (h0 : 0 ≤ b) (h1 : b ≤ 255) (hh : 0 ≤ x.f.head) (hl0 : 0 ≤ x.f.lines) (hl1 : x.f.lines ≤ 2048) (hln : x.line.length ≤ 2048) (hc : ¬ x.f.head ≥ 1024) (hline : x.line = []) (hb1 : b = 10 ∨ (b ≠ 13 ∧ b ≠ 10 ∧ (b < 32 ∨ b > 126))) : Calls Try.prog 49 #[.pointer (some ⟨g, 0, none⟩), .int .u8 b] w fun e w' => e = .returned (.int .i64 (x.heads b).1) ∧ WRep w' (more S w) g (x.heads b).2 ∧ Step S w w' := by
  have hh' : x.heads b = (4, { x with f := { x.f with head := x.f.head + 1 } }) := by
    unfold WS.heads
    rw [if_neg hc, if_pos]
    rcases hb1 with h | h
    · left; rw [hline, h]; decide
    · exact .inr h
  obtain ⟨f, line, body, ch⟩ := x
  dsimp only at *
  have HR := Aside0.mk hr
  obtain ⟨vl, vb, vc, hb, hS, hol, hob, hne, hch⟩ := hr
  obtain ⟨A, cp, evl⟩ := hol.form
  have k3 : w.cell? ⟨g, 3, none⟩ = some (.int .i64 f.head) := blk_cell hb 3
  have k4 : w.cell? ⟨g, 4, none⟩ = some (.int .i64 f.lines) := blk_cell hb 4
  have k5 : w.cell? ⟨g, 5, none⟩ = some vl := blk_cell hb 5
  have fz : ∀ i, w.frozen? ⟨g, i, none⟩ = false := blk_frozen hb
  have HB := Aside0.mk hb
  clear hb
  have HOL := Aside0.mk hol
  clear hol
  have HOB := Aside0.mk hob
  clear hob
  have HNE := Aside0.mk hne
  clear hne
  have HCH := Aside0.mk hch
  clear hch
  have HH := Aside0.mk hh'
  clear hh'
  rw [hline] at evl
  have evl' : vl = .slice A 0 cp := evl
  clear evl
  subst evl'
  rcases hb1 with rfl | ⟨b1, b2, b3⟩
  · go_enter Try.func49, Try.ntmps49
    go_wp2
    go_quiet (fail)
    go_wp2
    go_ret
    refine ⟨by rw [HH.out]; rfl, ?_, ?_⟩
    · rw [HH.out]
      exact WRep.anew HB.out hS HOL.out HOB.out HNE.out HCH.out (ls_step (((Step.refl _ _).setG _ _).drewN _) _) ((HB.out.set3 _).drewN _) (by exact (HOL.out.setBlk HB.out (by decide) _).2) (fun k hk => .inl hk)
    · exact Step.mono (((Step.refl _ _).setG _ _).drewN _) (fun k hk => by subst hk; exact hS)
  · have d1 : ((b : Int) == 13) = false := by simpa using b1
    have d2 : ((b : Int) == 10) = false := by simpa using b2
    have d3 : ((b : Int) != 13) = true := by simpa using b1
    have d4 : ((b : Int) != 10) = true := by simpa using b2
    clear b1 b2
    rcases b3 with b3 | b3
    · go_enter Try.func49, Try.ntmps49
      go_wp2
      go_quiet (fail)
      go_wp2
      go_ret
      refine ⟨by rw [HH.out]; rfl, ?_, ?_⟩
      · rw [HH.out]
        exact WRep.anew HB.out hS HOL.out HOB.out HNE.out HCH.out (ls_step (((Step.refl _ _).setG _ _).drewN _) _) ((HB.out.set3 _).drewN _) (by exact (HOL.out.setBlk HB.out (by decide) _).2) (fun k hk => .inl hk)
      · exact Step.mono (((Step.refl _ _).setG _ _).drewN _) (fun k hk => by subst hk; exact hS)
    · have b4 : ¬ b < 32 := by omega
      go_enter Try.func49, Try.ntmps49
      go_wp2
      go_quiet (fail)
      go_wp2
      go_ret
      refine ⟨by rw [HH.out]; rfl, ?_, ?_⟩
      · rw [HH.out]
        exact WRep.anew HB.out hS HOL.out HOB.out HNE.out HCH.out (ls_step (((Step.refl _ _).setG _ _).drewN _) _) ((HB.out.set3 _).drewN _) (by exact (HOL.out.setBlk HB.out (by decide) _).2) (fun k hk => .inl hk)
      · exact Step.mono (((Step.refl _ _).setG _ _).drewN _) (fun k hk => by subst hk; exact hS)

set_option maxHeartbeats 4000000 in
theorem heads_err1 (x : WS) (S : Nat → Prop) (g : Nat) (b : Int) (w : World) (hr : WRep w S g x) (h0 : 0 ≤ b) (h1 : b ≤ 255) (hh : 0 ≤ x.f.head) (hl0 : 0 ≤ x.f.lines) (hl1 : x.f.lines ≤ 2048) (hln : x.line.length ≤ 2048) (hc : ¬ x.f.head ≥ 1024) (l : List Int) (z : Int) (hline : x.line = l ++ [z]) (hz : z ≠ 13) (hb1 : b = 10 ∨ (b ≠ 13 ∧ b ≠ 10 ∧ (b < 32 ∨ b > 126))) : Calls Try.prog 49 #[.pointer (some ⟨g, 0, none⟩), .int .u8 b] w fun e w' => e = .returned (.int .i64 (x.heads b).1) ∧ WRep w' (more S w) g (x.heads b).2 ∧ Step S w w' := by
  have hh' : x.heads b = (4, { x with f := { x.f with head := x.f.head + 1 } }) := by
    unfold WS.heads
    rw [if_neg hc, if_pos]
    rcases hb1 with h | h
    · left; rw [hline, h]; simp [behind, hz]
    · exact .inr h
  obtain ⟨f, line, body, ch⟩ := x
  dsimp only at *
  have HR := Aside0.mk hr
  obtain ⟨vl, vb, vc, hb, hS, hol, hob, hne, hch⟩ := hr
  obtain ⟨A, cp, evl⟩ := hol.form
  have k3 : w.cell? ⟨g, 3, none⟩ = some (.int .i64 f.head) := blk_cell hb 3
  have k4 : w.cell? ⟨g, 4, none⟩ = some (.int .i64 f.lines) := blk_cell hb 4
  have k5 : w.cell? ⟨g, 5, none⟩ = some vl := blk_cell hb 5
  have fz : ∀ i, w.frozen? ⟨g, i, none⟩ = false := blk_frozen hb
  have HB := Aside0.mk hb
  clear hb
  have HOL := Aside0.mk hol
  clear hol
  have HOB := Aside0.mk hob
  clear hob
  have HNE := Aside0.mk hne
  clear hne
  have HCH := Aside0.mk hch
  clear hch
  have HH := Aside0.mk hh'
  clear hh'
  have hlz : line.length = l.length + 1 := by rw [hline]; simp
  rw [hlz] at evl
  obtain ⟨gl, hgl, hgne, hgc⟩ : ∃ gl, A = some ⟨gl, 0, none⟩ ∧ gl ≠ g ∧ w.cell? ⟨gl, l.length, none⟩ = some (.int .u8 z) := by
    have ho := HOL.out.2
    have hlz2 : line.length = l.length + 1 := by rw [hline]; simp
    obtain ⟨gl, c2, e2, _, _⟩ := ho.form (show 0 < line.length by omega)
    rw [evl] at e2
    injection e2 with e2 e3 e4
    subst e2
    refine ⟨gl, rfl, fun h => ?_, ?_⟩
    · rw [evl, h] at ho
      exact own_ne ho HB.out (by decide) rfl
    · rw [evl] at ho
      have hc := ho.cells (g := gl) rfl l.length (.int .u8 z) (by rw [hline]; simp [nums])
      rwa [add_plain] at hc
  subst hgl
  have hgne2 : g ≠ gl := fun h => hgne h.symm
  subst evl
  have hz1 : ((z : Int) == 13) = false := by simpa using hz
  have q1 : wrap64 (l.length : Int) = (l.length : Int) := IntWalk.wrap64_in _ (by omega)
  have q2 : (l.length : Int) < (l.length : Int) + 1 := by omega
  have q3 : (0 : Int) < (l.length : Int) + 1 := by omega
  have HLN := Aside0.mk hline
  clear hline
  clear hz hlz
  rcases hb1 with rfl | ⟨b1, b2, b3⟩
  · go_enter Try.func49, Try.ntmps49
    go_wp2
    go_quiet (fail)
    go_wp2
    go_ret
    refine ⟨by rw [HH.out]; rfl, ?_, ?_⟩
    · rw [HH.out]
      exact WRep.anew HB.out hS HOL.out HOB.out HNE.out HCH.out (ls_step (((Step.refl _ _).setG _ _).drewN _) _) ((HB.out.set3 _).drewN _) (by exact (HOL.out.setBlk HB.out (by decide) _).2) (fun k hk => .inl hk)
    · exact Step.mono (((Step.refl _ _).setG _ _).drewN _) (fun k hk => by subst hk; exact hS)
  · have d1 : ((b : Int) == 13) = false := by simpa using b1
    have d2 : ((b : Int) == 10) = false := by simpa using b2
    have d3 : ((b : Int) != 13) = true := by simpa using b1
    have d4 : ((b : Int) != 10) = true := by simpa using b2
    clear b1 b2
    rcases b3 with b3 | b3
    · go_enter Try.func49, Try.ntmps49
      go_wp2
      go_quiet (fail)
      go_wp2
      go_ret
      refine ⟨by rw [HH.out]; rfl, ?_, ?_⟩
      · rw [HH.out]
        exact WRep.anew HB.out hS HOL.out HOB.out HNE.out HCH.out (ls_step (((Step.refl _ _).setG _ _).drewN _) _) ((HB.out.set3 _).drewN _) (by exact (HOL.out.setBlk HB.out (by decide) _).2) (fun k hk => .inl hk)
      · exact Step.mono (((Step.refl _ _).setG _ _).drewN _) (fun k hk => by subst hk; exact hS)
    · have b4 : ¬ b < 32 := by omega
      go_enter Try.func49, Try.ntmps49
      go_wp2
      go_quiet (fail)
      go_wp2
      go_ret
      refine ⟨by rw [HH.out]; rfl, ?_, ?_⟩
      · rw [HH.out]
        exact WRep.anew HB.out hS HOL.out HOB.out HNE.out HCH.out (ls_step (((Step.refl _ _).setG _ _).drewN _) _) ((HB.out.set3 _).drewN _) (by exact (HOL.out.setBlk HB.out (by decide) _).2) (fun k hk => .inl hk)
      · exact Step.mono (((Step.refl _ _).setG _ _).drewN _) (fun k hk => by subst hk; exact hS)

set_option maxHeartbeats 4000000 in
theorem heads_push0 (x : WS) (S : Nat → Prop) (g : Nat) (b : Int) (w : World) (hr : WRep w S g x) (h0 : 0 ≤ b) (h1 : b ≤ 255) (hh : 0 ≤ x.f.head) (hl0 : 0 ≤ x.f.lines) (hl1 : x.f.lines ≤ 2048) (hln : x.line.length ≤ 2048) (hc : ¬ x.f.head ≥ 1024) (hline : x.line = []) (hb1 : b = 13 ∨ (32 ≤ b ∧ b ≤ 126)) : Calls Try.prog 49 #[.pointer (some ⟨g, 0, none⟩), .int .u8 b] w fun e w' => e = .returned (.int .i64 (x.heads b).1) ∧ WRep w' (more S w) g (x.heads b).2 ∧ Step S w w' := by
  have hh' : x.heads b = (0, { x with f := { x.f with head := x.f.head + 1 }, line := x.line ++ [b] }) := by
    unfold WS.heads
    have h10 : b ≠ 10 := by omega
    rw [if_neg hc, if_neg (by rw [hline]; simp [behind, h10]; omega), if_pos h10]
  obtain ⟨f, line, body, ch⟩ := x
  dsimp only at *
  have HR := Aside0.mk hr
  obtain ⟨vl, vb, vc, hb, hS, hol, hob, hne, hch⟩ := hr
  obtain ⟨A, cp, evl⟩ := hol.form
  have k3 : w.cell? ⟨g, 3, none⟩ = some (.int .i64 f.head) := blk_cell hb 3
  have k4 : w.cell? ⟨g, 4, none⟩ = some (.int .i64 f.lines) := blk_cell hb 4
  have k5 : w.cell? ⟨g, 5, none⟩ = some vl := blk_cell hb 5
  have fz : ∀ i, w.frozen? ⟨g, i, none⟩ = false := blk_frozen hb
  have HB := Aside0.mk hb
  clear hb
  have HOL := Aside0.mk hol
  clear hol
  have HOB := Aside0.mk hob
  clear hob
  have HNE := Aside0.mk hne
  clear hne
  have HCH := Aside0.mk hch
  clear hch
  have HH := Aside0.mk hh'
  clear hh'
  have hln0 : decide (0 < line.length) = false := by rw [hline]; rfl
  have hln1 : decide ((0 : Int) < (line.length : Int)) = false := by rw [hline]; rfl
  have hln2 : line.length < 1 := by rw [hline]; simp
  have HLN := Aside0.mk hline
  clear hline
  subst evl
  rcases hb1 with rfl | ⟨b3, b4⟩
  · go_enter Try.func49, Try.ntmps49
    go_wp2
    go_quiet (fail)
    go_wp2_with (at_builtin; (refine mem_append' (size_set_drewN _ _ _ _).symm rfl (.tmp 66) (.tmp 68) 22 5 .u8 1 rfl Try.underlying22 info_u8 (by omega) _ line _ rfl rfl (((HOL.out.setBlk HB.out (by decide) _).drewN _).2) (by omega) ?_); intro A1 cp1 w1 ho1 hg1 hat1; have HO1 := Aside0.mk ho1; have HG1 := Aside0.mk hg1; have HA1 := Aside0.mk hat1; have HB1 := Aside0.mk (pushed_blk HB.out HOL.out hg1); have k51 : w1.cell? ⟨g, 5, none⟩ = some _ := blk_cell HB1.out 5; have fz1 : ∀ i, w1.frozen? ⟨g, i, none⟩ = false := blk_frozen HB1.out; clear ho1 hg1 hat1)
    go_ret
    refine ⟨by rw [HH.out]; rfl, ?_, ?_⟩
    · rw [HH.out]
      exact pushed_rep HB.out hS HOL.out HOB.out HNE.out HCH.out HO1.out HG1.out HA1.out
    · exact pushed_step hS HOL.out HG1.out
  · have d1 : ((b : Int) == 13) = false := by simp; omega
    have d2 : ((b : Int) == 10) = false := by simp; omega
    have d3 : ((b : Int) != 13) = true := by simp; omega
    have d4 : ((b : Int) != 10) = true := by simp; omega
    have b5 : ¬ b < 32 := by omega
    have b6 : ¬ 126 < b := by omega
    go_enter Try.func49, Try.ntmps49
    go_wp2
    go_quiet (fail)
    go_wp2_with (at_builtin; (refine mem_append' (size_set_drewN _ _ _ _).symm rfl (.tmp 66) (.tmp 68) 22 5 .u8 1 rfl Try.underlying22 info_u8 (by omega) _ line _ rfl rfl (((HOL.out.setBlk HB.out (by decide) _).drewN _).2) (by omega) ?_); intro A1 cp1 w1 ho1 hg1 hat1; have HO1 := Aside0.mk ho1; have HG1 := Aside0.mk hg1; have HA1 := Aside0.mk hat1; have HB1 := Aside0.mk (pushed_blk HB.out HOL.out hg1); have k51 : w1.cell? ⟨g, 5, none⟩ = some _ := blk_cell HB1.out 5; have fz1 : ∀ i, w1.frozen? ⟨g, i, none⟩ = false := blk_frozen HB1.out; clear ho1 hg1 hat1)
    go_ret
    refine ⟨by rw [HH.out]; rfl, ?_, ?_⟩
    · rw [HH.out]
      exact pushed_rep HB.out hS HOL.out HOB.out HNE.out HCH.out HO1.out HG1.out HA1.out
    · exact pushed_step hS HOL.out HG1.out
set_option maxHeartbeats 4000000 in
theorem heads_push1 (x : WS) (S : Nat → Prop) (g : Nat) (b : Int) (w : World) (hr : WRep w S g x) (h0 : 0 ≤ b) (h1 : b ≤ 255) (hh : 0 ≤ x.f.head) (hl0 : 0 ≤ x.f.lines) (hl1 : x.f.lines ≤ 2048) (hln : x.line.length ≤ 2048) (hc : ¬ x.f.head ≥ 1024) (l : List Int) (z : Int) (hline : x.line = l ++ [z]) (hz : z ≠ 13) (hb1 : b = 13 ∨ (32 ≤ b ∧ b ≤ 126)) : Calls Try.prog 49 #[.pointer (some ⟨g, 0, none⟩), .int .u8 b] w fun e w' => e = .returned (.int .i64 (x.heads b).1) ∧ WRep w' (more S w) g (x.heads b).2 ∧ Step S w w' := by
  have hh' : x.heads b = (0, { x with f := { x.f with head := x.f.head + 1 }, line := x.line ++ [b] }) := by
    unfold WS.heads
    have h10 : b ≠ 10 := by omega
    rw [if_neg hc, if_neg (by rw [hline]; simp [behind, h10, hz]; omega), if_pos h10]
  obtain ⟨f, line, body, ch⟩ := x
  dsimp only at *
  have HR := Aside0.mk hr
  obtain ⟨vl, vb, vc, hb, hS, hol, hob, hne, hch⟩ := hr
  obtain ⟨A, cp, evl⟩ := hol.form
  have k3 : w.cell? ⟨g, 3, none⟩ = some (.int .i64 f.head) := blk_cell hb 3
  have k4 : w.cell? ⟨g, 4, none⟩ = some (.int .i64 f.lines) := blk_cell hb 4
  have k5 : w.cell? ⟨g, 5, none⟩ = some vl := blk_cell hb 5
  have fz : ∀ i, w.frozen? ⟨g, i, none⟩ = false := blk_frozen hb
  have HB := Aside0.mk hb
  clear hb
  have HOL := Aside0.mk hol
  clear hol
  have HOB := Aside0.mk hob
  clear hob
  have HNE := Aside0.mk hne
  clear hne
  have HCH := Aside0.mk hch
  clear hch
  have HH := Aside0.mk hh'
  clear hh'
  have hlz : line.length = l.length + 1 := by rw [hline]; simp
  rw [hlz] at evl
  obtain ⟨gl, hgl, hgne, hgc⟩ : ∃ gl, A = some ⟨gl, 0, none⟩ ∧ gl ≠ g ∧ w.cell? ⟨gl, l.length, none⟩ = some (.int .u8 z) := by
    have ho := HOL.out.2
    have hlz2 : line.length = l.length + 1 := by rw [hline]; simp
    obtain ⟨gl, c2, e2, _, _⟩ := ho.form (show 0 < line.length by omega)
    rw [evl] at e2
    injection e2 with e2 e3 e4
    subst e2
    refine ⟨gl, rfl, fun h => ?_, ?_⟩
    · rw [evl, h] at ho
      exact own_ne ho HB.out (by decide) rfl
    · rw [evl] at ho
      have hc := ho.cells (g := gl) rfl l.length (.int .u8 z) (by rw [hline]; simp [nums])
      rwa [add_plain] at hc
  subst hgl
  have hgne2 : g ≠ gl := fun h => hgne h.symm
  subst evl
  have hz1 : ((z : Int) == 13) = false := by simpa using hz
  have q1 : wrap64 (l.length : Int) = (l.length : Int) := IntWalk.wrap64_in _ (by omega)
  have q2 : (l.length : Int) < (l.length : Int) + 1 := by omega
  have q3 : (0 : Int) < (l.length : Int) + 1 := by omega
  have HLN := Aside0.mk hline
  clear hline
  clear hz
  have HLZ := Aside0.mk hlz
  clear hlz
  rcases hb1 with rfl | ⟨b3, b4⟩
  · go_enter Try.func49, Try.ntmps49
    go_wp2
    go_quiet (fail)
    go_wp2_with (at_builtin; (refine mem_append' (size_set_drewN _ _ _ _).symm rfl (.tmp 66) (.tmp 68) 22 5 .u8 1 rfl Try.underlying22 info_u8 (by omega) _ line _ rfl rfl (((HOL.out.setBlk HB.out (by decide) _).drewN _).2) (by omega) ?_); intro A1 cp1 w1 ho1 hg1 hat1; have HO1 := Aside0.mk ho1; have HG1 := Aside0.mk hg1; have HA1 := Aside0.mk hat1; have HB1 := Aside0.mk (pushed_blk HB.out HOL.out hg1); have k51 : w1.cell? ⟨g, 5, none⟩ = some _ := blk_cell HB1.out 5; have fz1 : ∀ i, w1.frozen? ⟨g, i, none⟩ = false := blk_frozen HB1.out; clear ho1 hg1 hat1)
    go_ret
    refine ⟨by rw [HH.out]; rfl, ?_, ?_⟩
    · rw [HH.out]
      exact pushed_rep HB.out hS HOL.out HOB.out HNE.out HCH.out HO1.out HG1.out HA1.out
    · exact pushed_step hS HOL.out HG1.out
  · have d1 : ((b : Int) == 13) = false := by simp; omega
    have d2 : ((b : Int) == 10) = false := by simp; omega
    have d3 : ((b : Int) != 13) = true := by simp; omega
    have d4 : ((b : Int) != 10) = true := by simp; omega
    have b5 : ¬ b < 32 := by omega
    have b6 : ¬ 126 < b := by omega
    go_enter Try.func49, Try.ntmps49
    go_wp2
    go_quiet (fail)
    go_wp2_with (at_builtin; (refine mem_append' (size_set_drewN _ _ _ _).symm rfl (.tmp 66) (.tmp 68) 22 5 .u8 1 rfl Try.underlying22 info_u8 (by omega) _ line _ rfl rfl (((HOL.out.setBlk HB.out (by decide) _).drewN _).2) (by omega) ?_); intro A1 cp1 w1 ho1 hg1 hat1; have HO1 := Aside0.mk ho1; have HG1 := Aside0.mk hg1; have HA1 := Aside0.mk hat1; have HB1 := Aside0.mk (pushed_blk HB.out HOL.out hg1); have k51 : w1.cell? ⟨g, 5, none⟩ = some _ := blk_cell HB1.out 5; have fz1 : ∀ i, w1.frozen? ⟨g, i, none⟩ = false := blk_frozen HB1.out; clear ho1 hg1 hat1)
    go_ret
    refine ⟨by rw [HH.out]; rfl, ?_, ?_⟩
    · rw [HH.out]
      exact pushed_rep HB.out hS HOL.out HOB.out HNE.out HCH.out HO1.out HG1.out HA1.out
    · exact pushed_step hS HOL.out HG1.out
end Go.Proofs.Ytncpicfnlnkndaa.Wire
