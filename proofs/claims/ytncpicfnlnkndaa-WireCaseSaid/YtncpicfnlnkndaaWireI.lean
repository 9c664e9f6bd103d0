/- The walk of wire's (*Reader).heads where a line ends, or should. -/
import Derived.Test.YtncpicfnlnkndaaWireH
import Derived.WalkKit
import Derived.Deep.QuietTactic
import Derived.BigQuiet
import Derived.WalkLawsBesides
import Derived.WalkSpells
import Derived.Lib.Hide
import Derived.Outline
set_option linter.unusedVariables false
set_option linter.unusedSimpArgs false
namespace Go.Proofs.Ytncpicfnlnkndaa.Wire
open Go.RowKit Go.Proofs.YtncpicfnlnkndaaW.PrintWords Go.Proofs.Ytncpicfnlnkndaa.Mem Go.Proofs.Ytncpicfnlnkndaa.PA

set_option maxHeartbeats 4000000 in
theorem heads_lone (x : WS) (S : Nat → Prop) (g : Nat) (b : Int) (w : World) (hr : WRep w S g x) (h0 : 0 ≤ b) (h1 : b ≤ 255) (hh : 0 ≤ x.f.head) (hl0 : 0 ≤ x.f.lines) (hl1 : x.f.lines ≤ 2048) (hln : x.line.length ≤ 2048) (hc : ¬ x.f.head ≥ 1024) (l : List Int) (hline : x.line = l ++ [13]) (hb1 : b ≠ 10) : Calls Try.prog 49 #[.pointer (some ⟨g, 0, none⟩), .int .u8 b] w fun e w' => e = .returned (.int .i64 (x.heads b).1) ∧ WRep w' (more S w) g (x.heads b).2 ∧ Step S w w' := by
  have hh' : x.heads b = (4, { x with f := { x.f with head := x.f.head + 1 } }) := by
    unfold WS.heads
    rw [if_neg hc, if_pos]
    left; rw [hline]; simp [behind, hb1]
  obtain ⟨f, line, body, ch⟩ := x
  dsimp only at *
  have HR := Aside0.mk hr
  obtain ⟨vl, vb, vc, hb, hS, hol, hob, hne, hch⟩ := hr
  obtain ⟨A, cp, evl⟩ := hol.form
  have k3 : w.cell? ⟨g, 3, none⟩ = some (.int .i64 f.head) := blk_cell hb 3
  have k4 : w.cell? ⟨g, 4, none⟩ = some (.int .i64 f.lines) := blk_cell hb 4
  have k5 : w.cell? ⟨g, 5, none⟩ = some vl := blk_cell hb 5
  have fz : ∀ i, w.frozen? ⟨g, i, none⟩ = false := blk_frozen hb
  have HB := Aside0.mk hb
  clear hb
  have HOL := Aside0.mk hol
  clear hol
  have HOB := Aside0.mk hob
  clear hob
  have HNE := Aside0.mk hne
  clear hne
  have HCH := Aside0.mk hch
  clear hch
  have HH := Aside0.mk hh'
  clear hh'
  generalize hz13 : (13 : Int) = z at *
  have hlz : line.length = l.length + 1 := by rw [hline]; simp
  rw [hlz] at evl
  obtain ⟨gl, hgl, hgne, hgc⟩ : ∃ gl, A = some ⟨gl, 0, none⟩ ∧ gl ≠ g ∧ w.cell? ⟨gl, l.length, none⟩ = some (.int .u8 z) := by
    have ho := HOL.out.2
    have hlz2 : line.length = l.length + 1 := by rw [hline]; simp
    obtain ⟨gl, c2, e2, _, _⟩ := ho.form (show 0 < line.length by omega)
    rw [evl] at e2
    injection e2 with e2 e3 e4
    subst e2
    refine ⟨gl, rfl, fun h => ?_, ?_⟩
    · rw [evl, h] at ho
      exact own_ne ho HB.out (by decide) rfl
    · rw [evl] at ho
      have hc := ho.cells (g := gl) rfl l.length (.int .u8 z) (by rw [hline]; simp [nums])
      rwa [add_plain] at hc
  subst hgl
  have hgne2 : g ≠ gl := fun h => hgne h.symm
  subst evl
  have hcp : l.length + 1 ≤ cp := by
    have ho := HOL.out.2
    rcases ho.2 with ⟨h, _⟩ | ⟨g', cap', cur, h, _, _, h4, _⟩
    · cases h
    · injection h with h1 h2 h3
      rw [h3]
      omega
  have q1 : wrap64 (l.length : Int) = (l.length : Int) := IntWalk.wrap64_in _ (by omega)
  have q2 : (l.length : Int) < (l.length : Int) + 1 := by omega
  have q3 : (0 : Int) < (l.length : Int) + 1 := by omega
  have q4 : l.length ≤ cp := by omega
  have q5 : (l.length : Int) ≤ (cp : Int) := by omega
  have hln2 : l.length ≤ 2048 := by omega
  have HLN := Aside0.mk hline
  clear hline
  have HLZ := Aside0.mk hlz
  clear hlz
  subst hz13
  have d2 : ((b : Int) == 10) = false := by simpa using hb1
  have d4 : ((b : Int) != 10) = true := by simpa using hb1
  clear hb1
  go_enter Try.func49, Try.ntmps49
  go_wp2
  go_quiet (fail)
  go_wp2
  go_ret
  refine ⟨by rw [HH.out]; rfl, ?_, ?_⟩
  · rw [HH.out]
    exact WRep.anew HB.out hS HOL.out HOB.out HNE.out HCH.out (ls_step (((Step.refl _ _).setG _ _).drewN _) _) ((HB.out.set3 _).drewN _) (by exact (HOL.out.setBlk HB.out (by decide) _).2) (fun k hk => .inl hk)
  · exact Step.mono (((Step.refl _ _).setG _ _).drewN _) (fun k hk => by subst hk; exact hS)

theorem ended_blk {w : World} {g : Nat} {f : WR} {vl vb vc : Value} (hb : WBlk w g f vl vb vc) (n : Nat) : WBlk ((((w.setCell ⟨g, 3, none⟩ (.int .i64 (f.head + 1))).drewN n).setCell ⟨g, 5, none⟩ (.slice none 0 0)).setCell ⟨g, 4, none⟩ (.int .i64 (f.lines + 1))) g { f with head := f.head + 1, lines := f.lines + 1 } (.slice none 0 0) vb vc :=
  ((((hb.set3 _).drewN n).set5 _).set4 _)
theorem ended_step (w : World) (g : Nat) (f : WR) (n : Nat) : Step (fun k => k = g) w ((((w.setCell ⟨g, 3, none⟩ (.int .i64 (f.head + 1))).drewN n).setCell ⟨g, 5, none⟩ (.slice none 0 0)).setCell ⟨g, 4, none⟩ (.int .i64 (f.lines + 1))) := ((((Step.refl _ _).setG _ _).drewN n).setG _ _).setG _ _
/-- The reader behind a line that ended. -/
theorem ended_rep {w w' : World} {S : Nat → Prop} {g : Nat} {f f' : WR} {line body : List Int} {ch : Option CR} {vl vb vc : Value} (hb : WBlk w g f vl vb vc) (hS : S g) (hl : Own w S vl line) (hbd : Own w S vb body)
    (hne : ∀ k, vl.ownBlock = some k → vb.ownBlock ≠ some k) (hch : ChRep w S g vl vb vc ch) (hst : Step (fun k => k = g) w w') (hb' : WBlk w' g f' (.slice none 0 0) vb vc) : WRep w' (more S w) g ⟨f', [], body, ch⟩ :=
  WRep.anew hb hS hl hbd hne hch (ls_step hst vl) hb' (own_nil _ _ _ _) (fun k hk => by simp [Value.ownBlock] at hk)
/-- .. and whose reader has chunks from now on. -/
theorem ended_chunks {w w' : World} {S : Nat → Prop} {g gc : Nat} {f f' : WR} {line body : List Int} {vl vb vc : Value} {c : CR} (hb : WBlk w g f vl vb vc) (hS : S g) (hl : Own w S vl line) (hbd : Own w S vb body)
    (hne : ∀ k, vl.ownBlock = some k → vb.ownBlock ≠ some k) (hst : Step (fun k => k = g) w w') (hb' : WBlk w' g f' (.slice none 0 0) vb (.pointer (some ⟨gc, 0, none⟩))) (hc : CRep w' (fun k => w.heap.size ≤ k) gc c) :
    WRep w' (more S w) g ⟨f', [], body, some c⟩ := by
  have hvb : ∀ k, vb.ownBlock = some k → ¬ k = g := by
    intro k hk h
    subst h
    exact own_ne hbd.2 hb (by decide) hk.symm
  refine ⟨_, vb, _, hb', .inl hS, Own.nil _ _, ⟨fun k hk => .inl (hbd.1 k hk), hst.own hbd.2 hvb⟩, fun k hk => by simp [Value.ownBlock] at hk, ⟨gc, _, rfl, hc, fun k hk => ⟨.inr hk, fun h => ?_, by simp [Value.ownBlock], fun h => ?_⟩⟩⟩
  · have := blk_lt hb
    omega
  · have := own_lt hbd.2 k h
    omega
theorem g_step {S : Nat → Prop} {g : Nat} {w w' : World} (h : Step (fun k => k = g) w w') (hS : S g) : Step S w w' := h.mono (fun k hk => by rw [hk]; exact hS)
theorem cut_string {P : Program} {w : World} {l : List Int} {z : Int} {g gl cp : Nat} (he : P.underlying 22 = some (.slice 5)) (hu : P.underlying 5 = some (.int .u8)) (hs : P.underlying 9 = some .string)
    (ho : w.ownsRow 0 5 1 (.slice (some ⟨gl, 0, none⟩) (l.length + 1) cp) (l.length + 1) (nums .u8 (l ++ [z]))) (u : Value) (hg : gl ≠ g) (n : Nat) :
    (convert 22 9 (.slice (some ⟨gl, 0, none⟩) l.length cp)).run P ((w.setCell ⟨g, 3, none⟩ u).drewN n) = .ok (.string (strOfNums l)) ((w.setCell ⟨g, 3, none⟩ u).drewN n) := by
  refine run_convert_bytes_arg _ 22 5 he hu gl 0 l.length cp l rfl (fun i hi => ?_) 9 hs
  have hc := ho.cells (g := gl) rfl i (.int .u8 (l.getD i 0)) (by simp [nums, List.getElem?_append, hi, List.getD_eq_getElem?_getD])
  rw [add_plain] at hc
  rw [Nat.zero_add]
  show (w.setCell _ _).cell? _ = _
  rw [World.cell?_setCell_other _ _ _ _ (by intro h; have h2 := congrArg Addr.block h; simp at h2; exact hg h2.symm)]
  exact hc

theorem heads_end {x : WS} {l : List Int} (hc : ¬ x.f.head ≥ 1024) (hline : x.line = l ++ [13]) : x.heads 10 = WS.ended { x with f := { x.f with head := x.f.head + 1, lines := x.f.lines + 1 }, line := [] } (strOfNums l) := by
  unfold WS.heads
  rw [if_neg hc, if_neg (by rw [hline]; simp [behind]), if_neg (by simp), hline, List.dropLast_concat]

set_option maxHeartbeats 4000000 in
theorem heads_many (x : WS) (S : Nat → Prop) (g : Nat) (b : Int) (w : World) (hr : WRep w S g x) (h0 : 0 ≤ b) (h1 : b ≤ 255) (hh : 0 ≤ x.f.head) (hl0 : 0 ≤ x.f.lines) (hl1 : x.f.lines ≤ 2048) (hln : x.line.length ≤ 2048) (hc : ¬ x.f.head ≥ 1024) (l : List Int) (hline : x.line = l ++ [13]) (hlines : 17 ≤ x.f.lines) (hlne : (strOfNums l).size ≠ 0) : Calls Try.prog 49 #[.pointer (some ⟨g, 0, none⟩), .int .u8 10] w fun e w' =>
      e = .returned (.int .i64 (x.heads 10).1) ∧ WRep w' (more S w) g (x.heads 10).2 ∧ Step S w w' := by
  have hh' : x.heads 10 = (5, { x with f := { x.f with head := x.f.head + 1, lines := x.f.lines + 1 }, line := [] }) := by
    rw [heads_end hc hline]
    unfold WS.ended
    dsimp only
    rw [if_neg (by omega), if_neg hlne, if_pos (by omega)]
  have b := (10 : Int)
  obtain ⟨f, line, body, ch⟩ := x
  dsimp only at *
  have HR := Aside0.mk hr
  obtain ⟨vl, vb, vc, hb, hS, hol, hob, hne, hch⟩ := hr
  obtain ⟨A, cp, evl⟩ := hol.form
  have k3 : w.cell? ⟨g, 3, none⟩ = some (.int .i64 f.head) := blk_cell hb 3
  have k4 : w.cell? ⟨g, 4, none⟩ = some (.int .i64 f.lines) := blk_cell hb 4
  have k5 : w.cell? ⟨g, 5, none⟩ = some vl := blk_cell hb 5
  have fz : ∀ i, w.frozen? ⟨g, i, none⟩ = false := blk_frozen hb
  have HB := Aside0.mk hb
  clear hb
  have HOL := Aside0.mk hol
  clear hol
  have HOB := Aside0.mk hob
  clear hob
  have HNE := Aside0.mk hne
  clear hne
  have HCH := Aside0.mk hch
  clear hch
  have HH := Aside0.mk hh'
  clear hh'
  generalize hz13 : (13 : Int) = z at *
  have hlz : line.length = l.length + 1 := by rw [hline]; simp
  rw [hlz] at evl
  obtain ⟨gl, hgl, hgne, hgc⟩ : ∃ gl, A = some ⟨gl, 0, none⟩ ∧ gl ≠ g ∧ w.cell? ⟨gl, l.length, none⟩ = some (.int .u8 z) := by
    have ho := HOL.out.2
    have hlz2 : line.length = l.length + 1 := by rw [hline]; simp
    obtain ⟨gl, c2, e2, _, _⟩ := ho.form (show 0 < line.length by omega)
    rw [evl] at e2
    injection e2 with e2 e3 e4
    subst e2
    refine ⟨gl, rfl, fun h => ?_, ?_⟩
    · rw [evl, h] at ho
      exact own_ne ho HB.out (by decide) rfl
    · rw [evl] at ho
      have hc := ho.cells (g := gl) rfl l.length (.int .u8 z) (by rw [hline]; simp [nums])
      rwa [add_plain] at hc
  subst hgl
  have hgne2 : g ≠ gl := fun h => hgne h.symm
  subst evl
  have hcp : l.length + 1 ≤ cp := by
    have ho := HOL.out.2
    rcases ho.2 with ⟨h, _⟩ | ⟨g', cap', cur, h, _, _, h4, _⟩
    · cases h
    · injection h with h1 h2 h3
      rw [h3]
      omega
  have q1 : wrap64 (l.length : Int) = (l.length : Int) := IntWalk.wrap64_in _ (by omega)
  have q2 : (l.length : Int) < (l.length : Int) + 1 := by omega
  have q3 : (0 : Int) < (l.length : Int) + 1 := by omega
  have q4 : l.length ≤ cp := by omega
  have q5 : (l.length : Int) ≤ (cp : Int) := by omega
  have hln2 : l.length ≤ 2048 := by omega
  have HLN := Aside0.mk hline
  clear hline
  have HLZ := Aside0.mk hlz
  clear hlz
  subst hz13
  have hcv := fun n => cut_string (P := Try.prog) (g := g) Try.underlying22 Try.underlying5 Try.underlying9 (by have := HOL.out.2; rw [HLN.out, show (l ++ [(13 : Int)]).length = l.length + 1 from by simp] at this; exact this) (.int .i64 (f.head + 1)) hgne n
  have HBE := Aside0.mk (fun n => ended_blk HB.out n)
  have hsz : (strOfNums l).size ≤ 140737488351232 := by
    have : (strOfNums l).size = l.length := by simp [strOfNums, ByteArray.size]
    omega
  have t1 : ((f.lines + 1 : Int) == 1) = false := by simp; omega
  have t2 : (strOfNums l).toList.isEmpty = false := by rw [← Bool.not_eq_true, List.isEmpty_iff, Plain.toList_nil]; exact hlne
  clear hlne
  generalize strOfNums l = s at *
  go_enter Try.func49, Try.ntmps49
  go_wp2
  go_quiet (fail)
  go_wp2
  go_quiet (fail)
  go_wp2_with (fail)
  go_ret
  refine ⟨by rw [HH.out]; rfl, ?_, g_step (ended_step _ _ _ _) hS⟩
  rw [HH.out]
  exact ended_rep HB.out hS HOL.out HOB.out HNE.out HCH.out (ended_step _ _ _ _) (HBE.out _)
set_option maxHeartbeats 4000000 in
theorem heads_further (x : WS) (S : Nat → Prop) (g : Nat) (b : Int) (w : World) (hr : WRep w S g x) (h0 : 0 ≤ b) (h1 : b ≤ 255) (hh : 0 ≤ x.f.head) (hl0 : 0 ≤ x.f.lines) (hl1 : x.f.lines ≤ 2048) (hln : x.line.length ≤ 2048) (hc : ¬ x.f.head ≥ 1024) (l : List Int) (hline : x.line = l ++ [13]) (hlines : ¬ 17 ≤ x.f.lines) (hlines2 : 0 < x.f.lines) (hlne : (strOfNums l).size ≠ 0) : Calls Try.prog 49 #[.pointer (some ⟨g, 0, none⟩), .int .u8 10] w fun e w' =>
      e = .returned (.int .i64 (x.heads 10).1) ∧ WRep w' (more S w) g (x.heads 10).2 ∧ Step S w w' := by
  have hh' : x.heads 10 = ((({ x.f with head := x.f.head + 1, lines := x.f.lines + 1 } : WR).further (strOfNums l)).1, { x with f := (({ x.f with head := x.f.head + 1, lines := x.f.lines + 1 } : WR).further (strOfNums l)).2, line := [] }) := by
    rw [heads_end hc hline]
    unfold WS.ended
    dsimp only
    rw [if_neg (by omega), if_neg hlne, if_neg (by omega)]
  have b := (10 : Int)
  obtain ⟨f, line, body, ch⟩ := x
  dsimp only at *
  have HR := Aside0.mk hr
  obtain ⟨vl, vb, vc, hb, hS, hol, hob, hne, hch⟩ := hr
  obtain ⟨A, cp, evl⟩ := hol.form
  have k3 : w.cell? ⟨g, 3, none⟩ = some (.int .i64 f.head) := blk_cell hb 3
  have k4 : w.cell? ⟨g, 4, none⟩ = some (.int .i64 f.lines) := blk_cell hb 4
  have k5 : w.cell? ⟨g, 5, none⟩ = some vl := blk_cell hb 5
  have fz : ∀ i, w.frozen? ⟨g, i, none⟩ = false := blk_frozen hb
  have HB := Aside0.mk hb
  clear hb
  have HOL := Aside0.mk hol
  clear hol
  have HOB := Aside0.mk hob
  clear hob
  have HNE := Aside0.mk hne
  clear hne
  have HCH := Aside0.mk hch
  clear hch
  have HH := Aside0.mk hh'
  clear hh'
  generalize hz13 : (13 : Int) = z at *
  have hlz : line.length = l.length + 1 := by rw [hline]; simp
  rw [hlz] at evl
  obtain ⟨gl, hgl, hgne, hgc⟩ : ∃ gl, A = some ⟨gl, 0, none⟩ ∧ gl ≠ g ∧ w.cell? ⟨gl, l.length, none⟩ = some (.int .u8 z) := by
    have ho := HOL.out.2
    have hlz2 : line.length = l.length + 1 := by rw [hline]; simp
    obtain ⟨gl, c2, e2, _, _⟩ := ho.form (show 0 < line.length by omega)
    rw [evl] at e2
    injection e2 with e2 e3 e4
    subst e2
    refine ⟨gl, rfl, fun h => ?_, ?_⟩
    · rw [evl, h] at ho
      exact own_ne ho HB.out (by decide) rfl
    · rw [evl] at ho
      have hc := ho.cells (g := gl) rfl l.length (.int .u8 z) (by rw [hline]; simp [nums])
      rwa [add_plain] at hc
  subst hgl
  have hgne2 : g ≠ gl := fun h => hgne h.symm
  subst evl
  have hcp : l.length + 1 ≤ cp := by
    have ho := HOL.out.2
    rcases ho.2 with ⟨h, _⟩ | ⟨g', cap', cur, h, _, _, h4, _⟩
    · cases h
    · injection h with h1 h2 h3
      rw [h3]
      omega
  have q1 : wrap64 (l.length : Int) = (l.length : Int) := IntWalk.wrap64_in _ (by omega)
  have q2 : (l.length : Int) < (l.length : Int) + 1 := by omega
  have q3 : (0 : Int) < (l.length : Int) + 1 := by omega
  have q4 : l.length ≤ cp := by omega
  have q5 : (l.length : Int) ≤ (cp : Int) := by omega
  have hln2 : l.length ≤ 2048 := by omega
  have HLN := Aside0.mk hline
  clear hline
  have HLZ := Aside0.mk hlz
  clear hlz
  subst hz13
  have hcv := fun n => cut_string (P := Try.prog) (g := g) Try.underlying22 Try.underlying5 Try.underlying9 (by have := HOL.out.2; rw [HLN.out, show (l ++ [(13 : Int)]).length = l.length + 1 from by simp] at this; exact this) (.int .i64 (f.head + 1)) hgne n
  have HBE := Aside0.mk (fun n => ended_blk HB.out n)
  have hsz : (strOfNums l).size ≤ 140737488351232 := by
    have : (strOfNums l).size = l.length := by simp [strOfNums, ByteArray.size]
    omega
  have t1 : ((f.lines + 1 : Int) == 1) = false := by simp; omega
  have t2 : (strOfNums l).toList.isEmpty = false := by rw [← Bool.not_eq_true, List.isEmpty_iff, Plain.toList_nil]; exact hlne
  clear hlne
  generalize strOfNums l = s at *
  go_enter Try.func49, Try.ntmps49
  go_wp2
  go_quiet (fail)
  go_wp2
  go_quiet (fail)
  go_wp2_with (go_at_call 79; refine (wire_further _ g _ _ _ s _ (HBE.out _) hsz).mono ?_; rintro e w2 ⟨rfl, hb2, hs2⟩; have HB2 := Aside0.mk hb2; have HS2 := Aside0.mk hs2; clear hb2 hs2)
  go_ret
  have hst := (ended_step w g f _).trans HS2.out (fun k hk => .inl hk)
  refine ⟨by rw [HH.out]; rfl, ?_, g_step hst hS⟩
  rw [HH.out]
  exact ended_rep HB.out hS HOL.out HOB.out HNE.out HCH.out hst HB2.out

set_option maxHeartbeats 4000000 in
theorem heads_first_yes (x : WS) (S : Nat → Prop) (g : Nat) (b : Int) (w : World) (hr : WRep w S g x) (h0 : 0 ≤ b) (h1 : b ≤ 255) (hh : 0 ≤ x.f.head) (hl0 : 0 ≤ x.f.lines) (hl1 : x.f.lines ≤ 2048) (hln : x.line.length ≤ 2048) (hc : ¬ x.f.head ≥ 1024) (l : List Int) (hline : x.line = l ++ [13]) (hlines : x.f.lines = 0) {m t : ByteArray} (hfs : Spec.first (strOfNums l) = some (m, t)) : Calls Try.prog 49 #[.pointer (some ⟨g, 0, none⟩), .int .u8 10] w fun e w' =>
      e = .returned (.int .i64 (x.heads 10).1) ∧ WRep w' (more S w) g (x.heads 10).2 ∧ Step S w w' := by
  have hh' : x.heads 10 = (0, { x with f := { x.f with head := x.f.head + 1, lines := x.f.lines + 1, method := m, target := t }, line := [] }) := by
    rw [heads_end hc hline]
    unfold WS.ended
    dsimp only
    rw [if_pos (by omega), hfs]
  have b := (10 : Int)
  obtain ⟨f, line, body, ch⟩ := x
  dsimp only at *
  have HR := Aside0.mk hr
  obtain ⟨vl, vb, vc, hb, hS, hol, hob, hne, hch⟩ := hr
  obtain ⟨A, cp, evl⟩ := hol.form
  have k3 : w.cell? ⟨g, 3, none⟩ = some (.int .i64 f.head) := blk_cell hb 3
  have k4 : w.cell? ⟨g, 4, none⟩ = some (.int .i64 f.lines) := blk_cell hb 4
  have k5 : w.cell? ⟨g, 5, none⟩ = some vl := blk_cell hb 5
  have fz : ∀ i, w.frozen? ⟨g, i, none⟩ = false := blk_frozen hb
  have HB := Aside0.mk hb
  clear hb
  have HOL := Aside0.mk hol
  clear hol
  have HOB := Aside0.mk hob
  clear hob
  have HNE := Aside0.mk hne
  clear hne
  have HCH := Aside0.mk hch
  clear hch
  have HH := Aside0.mk hh'
  clear hh'
  generalize hz13 : (13 : Int) = z at *
  have hlz : line.length = l.length + 1 := by rw [hline]; simp
  rw [hlz] at evl
  obtain ⟨gl, hgl, hgne, hgc⟩ : ∃ gl, A = some ⟨gl, 0, none⟩ ∧ gl ≠ g ∧ w.cell? ⟨gl, l.length, none⟩ = some (.int .u8 z) := by
    have ho := HOL.out.2
    have hlz2 : line.length = l.length + 1 := by rw [hline]; simp
    obtain ⟨gl, c2, e2, _, _⟩ := ho.form (show 0 < line.length by omega)
    rw [evl] at e2
    injection e2 with e2 e3 e4
    subst e2
    refine ⟨gl, rfl, fun h => ?_, ?_⟩
    · rw [evl, h] at ho
      exact own_ne ho HB.out (by decide) rfl
    · rw [evl] at ho
      have hc := ho.cells (g := gl) rfl l.length (.int .u8 z) (by rw [hline]; simp [nums])
      rwa [add_plain] at hc
  subst hgl
  have hgne2 : g ≠ gl := fun h => hgne h.symm
  subst evl
  have hcp : l.length + 1 ≤ cp := by
    have ho := HOL.out.2
    rcases ho.2 with ⟨h, _⟩ | ⟨g', cap', cur, h, _, _, h4, _⟩
    · cases h
    · injection h with h1 h2 h3
      rw [h3]
      omega
  have q1 : wrap64 (l.length : Int) = (l.length : Int) := IntWalk.wrap64_in _ (by omega)
  have q2 : (l.length : Int) < (l.length : Int) + 1 := by omega
  have q3 : (0 : Int) < (l.length : Int) + 1 := by omega
  have q4 : l.length ≤ cp := by omega
  have q5 : (l.length : Int) ≤ (cp : Int) := by omega
  have hln2 : l.length ≤ 2048 := by omega
  have HLN := Aside0.mk hline
  clear hline
  have HLZ := Aside0.mk hlz
  clear hlz
  subst hz13
  have hcv := fun n => cut_string (P := Try.prog) (g := g) Try.underlying22 Try.underlying5 Try.underlying9 (by have := HOL.out.2; rw [HLN.out, show (l ++ [(13 : Int)]).length = l.length + 1 from by simp] at this; exact this) (.int .i64 (f.head + 1)) hgne n
  have HBE := Aside0.mk (fun n => ended_blk HB.out n)
  have hsz : (strOfNums l).size ≤ 140737488351232 := by
    have : (strOfNums l).size = l.length := by simp [strOfNums, ByteArray.size]
    omega
  have t1 : ((f.lines + 1 : Int) == 1) = true := by simp; omega
  clear hlines
  have HFS := Aside0.mk hfs
  clear hfs
  generalize strOfNums l = s at *
  go_enter Try.func49, Try.ntmps49
  go_wp2
  go_quiet (fail)
  go_wp2
  go_quiet (fail)
  go_wp2_with (go_at_call 77; refine (wire_first_yes _ g _ _ _ s m t _ (HBE.out _) hsz HFS.out).mono ?_; rintro e w2 ⟨rfl, hb2, hs2⟩; have HB2 := Aside0.mk hb2; have HS2 := Aside0.mk hs2; clear hb2 hs2)
  go_ret
  have hst := (ended_step w g f _).trans HS2.out (fun k hk => .inl hk)
  refine ⟨by rw [HH.out]; rfl, ?_, g_step hst hS⟩
  rw [HH.out]
  exact ended_rep HB.out hS HOL.out HOB.out HNE.out HCH.out hst HB2.out
set_option maxHeartbeats 4000000 in
theorem heads_first_no (x : WS) (S : Nat → Prop) (g : Nat) (b : Int) (w : World) (hr : WRep w S g x) (h0 : 0 ≤ b) (h1 : b ≤ 255) (hh : 0 ≤ x.f.head) (hl0 : 0 ≤ x.f.lines) (hl1 : x.f.lines ≤ 2048) (hln : x.line.length ≤ 2048) (hc : ¬ x.f.head ≥ 1024) (l : List Int) (hline : x.line = l ++ [13]) (hlines : x.f.lines = 0) (hfs : Spec.first (strOfNums l) = none) : Calls Try.prog 49 #[.pointer (some ⟨g, 0, none⟩), .int .u8 10] w fun e w' =>
      e = .returned (.int .i64 (x.heads 10).1) ∧ WRep w' (more S w) g (x.heads 10).2 ∧ Step S w w' := by
  have hh' : x.heads 10 = (4, { x with f := { x.f with head := x.f.head + 1, lines := x.f.lines + 1 }, line := [] }) := by
    rw [heads_end hc hline]
    unfold WS.ended
    dsimp only
    rw [if_pos (by omega), hfs]
  have b := (10 : Int)
  obtain ⟨f, line, body, ch⟩ := x
  dsimp only at *
  have HR := Aside0.mk hr
  obtain ⟨vl, vb, vc, hb, hS, hol, hob, hne, hch⟩ := hr
  obtain ⟨A, cp, evl⟩ := hol.form
  have k3 : w.cell? ⟨g, 3, none⟩ = some (.int .i64 f.head) := blk_cell hb 3
  have k4 : w.cell? ⟨g, 4, none⟩ = some (.int .i64 f.lines) := blk_cell hb 4
  have k5 : w.cell? ⟨g, 5, none⟩ = some vl := blk_cell hb 5
  have fz : ∀ i, w.frozen? ⟨g, i, none⟩ = false := blk_frozen hb
  have HB := Aside0.mk hb
  clear hb
  have HOL := Aside0.mk hol
  clear hol
  have HOB := Aside0.mk hob
  clear hob
  have HNE := Aside0.mk hne
  clear hne
  have HCH := Aside0.mk hch
  clear hch
  have HH := Aside0.mk hh'
  clear hh'
  generalize hz13 : (13 : Int) = z at *
  have hlz : line.length = l.length + 1 := by rw [hline]; simp
  rw [hlz] at evl
  obtain ⟨gl, hgl, hgne, hgc⟩ : ∃ gl, A = some ⟨gl, 0, none⟩ ∧ gl ≠ g ∧ w.cell? ⟨gl, l.length, none⟩ = some (.int .u8 z) := by
    have ho := HOL.out.2
    have hlz2 : line.length = l.length + 1 := by rw [hline]; simp
    obtain ⟨gl, c2, e2, _, _⟩ := ho.form (show 0 < line.length by omega)
    rw [evl] at e2
    injection e2 with e2 e3 e4
    subst e2
    refine ⟨gl, rfl, fun h => ?_, ?_⟩
    · rw [evl, h] at ho
      exact own_ne ho HB.out (by decide) rfl
    · rw [evl] at ho
      have hc := ho.cells (g := gl) rfl l.length (.int .u8 z) (by rw [hline]; simp [nums])
      rwa [add_plain] at hc
  subst hgl
  have hgne2 : g ≠ gl := fun h => hgne h.symm
  subst evl
  have hcp : l.length + 1 ≤ cp := by
    have ho := HOL.out.2
    rcases ho.2 with ⟨h, _⟩ | ⟨g', cap', cur, h, _, _, h4, _⟩
    · cases h
    · injection h with h1 h2 h3
      rw [h3]
      omega
  have q1 : wrap64 (l.length : Int) = (l.length : Int) := IntWalk.wrap64_in _ (by omega)
  have q2 : (l.length : Int) < (l.length : Int) + 1 := by omega
  have q3 : (0 : Int) < (l.length : Int) + 1 := by omega
  have q4 : l.length ≤ cp := by omega
  have q5 : (l.length : Int) ≤ (cp : Int) := by omega
  have hln2 : l.length ≤ 2048 := by omega
  have HLN := Aside0.mk hline
  clear hline
  have HLZ := Aside0.mk hlz
  clear hlz
  subst hz13
  have hcv := fun n => cut_string (P := Try.prog) (g := g) Try.underlying22 Try.underlying5 Try.underlying9 (by have := HOL.out.2; rw [HLN.out, show (l ++ [(13 : Int)]).length = l.length + 1 from by simp] at this; exact this) (.int .i64 (f.head + 1)) hgne n
  have HBE := Aside0.mk (fun n => ended_blk HB.out n)
  have hsz : (strOfNums l).size ≤ 140737488351232 := by
    have : (strOfNums l).size = l.length := by simp [strOfNums, ByteArray.size]
    omega
  have t1 : ((f.lines + 1 : Int) == 1) = true := by simp; omega
  clear hlines
  have HFS := Aside0.mk hfs
  clear hfs
  generalize strOfNums l = s at *
  go_enter Try.func49, Try.ntmps49
  go_wp2
  go_quiet (fail)
  go_wp2
  go_quiet (fail)
  go_wp2_with (go_at_call 77; refine (wire_first_no _ g _ _ _ s _ (HBE.out _) hsz HFS.out).mono ?_; rintro e w2 ⟨rfl, hb2⟩; have HB2 := Aside0.mk hb2; clear hb2)
  go_ret
  have hst := (ended_step w g f _).trans (Step.of_below HB2.out (fun k => k = g)) (fun k hk => .inl hk)
  refine ⟨by rw [HH.out]; rfl, ?_, g_step hst hS⟩
  rw [HH.out]
  exact ended_rep HB.out hS HOL.out HOB.out HNE.out HCH.out hst ((HBE.out _).below HB2.out)
set_option maxHeartbeats 4000000 in
theorem heads_ends_len (x : WS) (S : Nat → Prop) (g : Nat) (b : Int) (w : World) (hr : WRep w S g x) (h0 : 0 ≤ b) (h1 : b ≤ 255) (hh : 0 ≤ x.f.head) (hl0 : 0 ≤ x.f.lines) (hl1 : x.f.lines ≤ 2048) (hln : x.line.length ≤ 2048) (hc : ¬ x.f.head ≥ 1024) (l : List Int) (hline : x.line = l ++ [13]) (hlines : 0 < x.f.lines) (hle : l = []) (hs2 : x.f.s2 = false) : Calls Try.prog 49 #[.pointer (some ⟨g, 0, none⟩), .int .u8 10] w fun e w' =>
      e = .returned (.int .i64 (x.heads 10).1) ∧ WRep w' (more S w) g (x.heads 10).2 ∧ Step S w w' := by
  have es : strOfNums l = (⟨#[]⟩ : ByteArray) := by rw [hle]; rfl
  clear hle
  have hh' : x.heads 10 = (0, { x with f := { x.f with head := x.f.head + 1, lines := x.f.lines + 1, inBody := true, whole := x.f.left == 0 }, line := [] }) := by
    rw [heads_end hc hline]
    unfold WS.ended
    dsimp only
    rw [if_neg (by omega), if_pos (by rw [es]; rfl)]
    unfold WS.ends
    dsimp only
    rw [if_neg (by rw [hs2]; simp)]
  have b := (10 : Int)
  obtain ⟨f, line, body, ch⟩ := x
  dsimp only at *
  have HR := Aside0.mk hr
  obtain ⟨vl, vb, vc, hb, hS, hol, hob, hne, hch⟩ := hr
  obtain ⟨A, cp, evl⟩ := hol.form
  have k3 : w.cell? ⟨g, 3, none⟩ = some (.int .i64 f.head) := blk_cell hb 3
  have k4 : w.cell? ⟨g, 4, none⟩ = some (.int .i64 f.lines) := blk_cell hb 4
  have k5 : w.cell? ⟨g, 5, none⟩ = some vl := blk_cell hb 5
  have fz : ∀ i, w.frozen? ⟨g, i, none⟩ = false := blk_frozen hb
  have HB := Aside0.mk hb
  clear hb
  have HOL := Aside0.mk hol
  clear hol
  have HOB := Aside0.mk hob
  clear hob
  have HNE := Aside0.mk hne
  clear hne
  have HCH := Aside0.mk hch
  clear hch
  have HH := Aside0.mk hh'
  clear hh'
  generalize hz13 : (13 : Int) = z at *
  have hlz : line.length = l.length + 1 := by rw [hline]; simp
  rw [hlz] at evl
  obtain ⟨gl, hgl, hgne, hgc⟩ : ∃ gl, A = some ⟨gl, 0, none⟩ ∧ gl ≠ g ∧ w.cell? ⟨gl, l.length, none⟩ = some (.int .u8 z) := by
    have ho := HOL.out.2
    have hlz2 : line.length = l.length + 1 := by rw [hline]; simp
    obtain ⟨gl, c2, e2, _, _⟩ := ho.form (show 0 < line.length by omega)
    rw [evl] at e2
    injection e2 with e2 e3 e4
    subst e2
    refine ⟨gl, rfl, fun h => ?_, ?_⟩
    · rw [evl, h] at ho
      exact own_ne ho HB.out (by decide) rfl
    · rw [evl] at ho
      have hc := ho.cells (g := gl) rfl l.length (.int .u8 z) (by rw [hline]; simp [nums])
      rwa [add_plain] at hc
  subst hgl
  have hgne2 : g ≠ gl := fun h => hgne h.symm
  subst evl
  have hcp : l.length + 1 ≤ cp := by
    have ho := HOL.out.2
    rcases ho.2 with ⟨h, _⟩ | ⟨g', cap', cur, h, _, _, h4, _⟩
    · cases h
    · injection h with h1 h2 h3
      rw [h3]
      omega
  have q1 : wrap64 (l.length : Int) = (l.length : Int) := IntWalk.wrap64_in _ (by omega)
  have q2 : (l.length : Int) < (l.length : Int) + 1 := by omega
  have q3 : (0 : Int) < (l.length : Int) + 1 := by omega
  have q4 : l.length ≤ cp := by omega
  have q5 : (l.length : Int) ≤ (cp : Int) := by omega
  have hln2 : l.length ≤ 2048 := by omega
  have HLN := Aside0.mk hline
  clear hline
  have HLZ := Aside0.mk hlz
  clear hlz
  subst hz13
  have hcv := fun n => cut_string (P := Try.prog) (g := g) Try.underlying22 Try.underlying5 Try.underlying9 (by have := HOL.out.2; rw [HLN.out, show (l ++ [(13 : Int)]).length = l.length + 1 from by simp] at this; exact this) (.int .i64 (f.head + 1)) hgne n
  have HBE := Aside0.mk (fun n => ended_blk HB.out n)
  have hsz : (strOfNums l).size ≤ 140737488351232 := by
    have : (strOfNums l).size = l.length := by simp [strOfNums, ByteArray.size]
    omega
  have t1 : ((f.lines + 1 : Int) == 1) = false := by simp; omega
  rw [es] at hcv
  clear es
  go_enter Try.func49, Try.ntmps49
  go_wp2
  go_quiet (fail)
  go_wp2
  go_quiet (fail)
  go_wp2_with (go_at_call 78; refine (wire_ends_len _ g _ _ _ _ (HBE.out _) hs2).mono ?_; rintro e w2 ⟨rfl, hb2, hst2⟩; have HB2 := Aside0.mk hb2; have HS2 := Aside0.mk hst2; clear hb2 hst2)
  go_ret
  have hst := (ended_step w g f _).trans HS2.out (fun k hk => .inl hk)
  refine ⟨by rw [HH.out]; rfl, ?_, g_step hst hS⟩
  rw [HH.out]
  exact ended_rep HB.out hS HOL.out HOB.out HNE.out HCH.out hst HB2.out
set_option maxHeartbeats 4000000 in
theorem heads_ends_enc (x : WS) (S : Nat → Prop) (g : Nat) (b : Int) (w : World) (hr : WRep w S g x) (h0 : 0 ≤ b) (h1 : b ≤ 255) (hh : 0 ≤ x.f.head) (hl0 : 0 ≤ x.f.lines) (hl1 : x.f.lines ≤ 2048) (hln : x.line.length ≤ 2048) (hc : ¬ x.f.head ≥ 1024) (l : List Int) (hline : x.line = l ++ [13]) (hlines : 0 < x.f.lines) (hle : l = []) (hs2 : x.f.s2 = true) : Calls Try.prog 49 #[.pointer (some ⟨g, 0, none⟩), .int .u8 10] w fun e w' =>
      e = .returned (.int .i64 (x.heads 10).1) ∧ WRep w' (more S w) g (x.heads 10).2 ∧ Step S w w' := by
  have es : strOfNums l = (⟨#[]⟩ : ByteArray) := by rw [hle]; rfl
  clear hle
  have hh' : x.heads 10 = (0, { x with f := { x.f with head := x.f.head + 1, lines := x.f.lines + 1, inBody := true }, line := [], ch := some ⟨2048, 0, 0, [], true⟩ }) := by
    rw [heads_end hc hline]
    unfold WS.ended
    dsimp only
    rw [if_neg (by omega), if_pos (by rw [es]; rfl)]
    unfold WS.ends
    dsimp only
    rw [if_pos hs2]
  have b := (10 : Int)
  obtain ⟨f, line, body, ch⟩ := x
  dsimp only at *
  have HR := Aside0.mk hr
  obtain ⟨vl, vb, vc, hb, hS, hol, hob, hne, hch⟩ := hr
  obtain ⟨A, cp, evl⟩ := hol.form
  have k3 : w.cell? ⟨g, 3, none⟩ = some (.int .i64 f.head) := blk_cell hb 3
  have k4 : w.cell? ⟨g, 4, none⟩ = some (.int .i64 f.lines) := blk_cell hb 4
  have k5 : w.cell? ⟨g, 5, none⟩ = some vl := blk_cell hb 5
  have fz : ∀ i, w.frozen? ⟨g, i, none⟩ = false := blk_frozen hb
  have HB := Aside0.mk hb
  clear hb
  have HOL := Aside0.mk hol
  clear hol
  have HOB := Aside0.mk hob
  clear hob
  have HNE := Aside0.mk hne
  clear hne
  have HCH := Aside0.mk hch
  clear hch
  have HH := Aside0.mk hh'
  clear hh'
  generalize hz13 : (13 : Int) = z at *
  have hlz : line.length = l.length + 1 := by rw [hline]; simp
  rw [hlz] at evl
  obtain ⟨gl, hgl, hgne, hgc⟩ : ∃ gl, A = some ⟨gl, 0, none⟩ ∧ gl ≠ g ∧ w.cell? ⟨gl, l.length, none⟩ = some (.int .u8 z) := by
    have ho := HOL.out.2
    have hlz2 : line.length = l.length + 1 := by rw [hline]; simp
    obtain ⟨gl, c2, e2, _, _⟩ := ho.form (show 0 < line.length by omega)
    rw [evl] at e2
    injection e2 with e2 e3 e4
    subst e2
    refine ⟨gl, rfl, fun h => ?_, ?_⟩
    · rw [evl, h] at ho
      exact own_ne ho HB.out (by decide) rfl
    · rw [evl] at ho
      have hc := ho.cells (g := gl) rfl l.length (.int .u8 z) (by rw [hline]; simp [nums])
      rwa [add_plain] at hc
  subst hgl
  have hgne2 : g ≠ gl := fun h => hgne h.symm
  subst evl
  have hcp : l.length + 1 ≤ cp := by
    have ho := HOL.out.2
    rcases ho.2 with ⟨h, _⟩ | ⟨g', cap', cur, h, _, _, h4, _⟩
    · cases h
    · injection h with h1 h2 h3
      rw [h3]
      omega
  have q1 : wrap64 (l.length : Int) = (l.length : Int) := IntWalk.wrap64_in _ (by omega)
  have q2 : (l.length : Int) < (l.length : Int) + 1 := by omega
  have q3 : (0 : Int) < (l.length : Int) + 1 := by omega
  have q4 : l.length ≤ cp := by omega
  have q5 : (l.length : Int) ≤ (cp : Int) := by omega
  have hln2 : l.length ≤ 2048 := by omega
  have HLN := Aside0.mk hline
  clear hline
  have HLZ := Aside0.mk hlz
  clear hlz
  subst hz13
  have hcv := fun n => cut_string (P := Try.prog) (g := g) Try.underlying22 Try.underlying5 Try.underlying9 (by have := HOL.out.2; rw [HLN.out, show (l ++ [(13 : Int)]).length = l.length + 1 from by simp] at this; exact this) (.int .i64 (f.head + 1)) hgne n
  have HBE := Aside0.mk (fun n => ended_blk HB.out n)
  have hsz : (strOfNums l).size ≤ 140737488351232 := by
    have : (strOfNums l).size = l.length := by simp [strOfNums, ByteArray.size]
    omega
  have t1 : ((f.lines + 1 : Int) == 1) = false := by simp; omega
  rw [es] at hcv
  clear es
  go_enter Try.func49, Try.ntmps49
  go_wp2
  go_quiet (fail)
  go_wp2
  go_quiet (fail)
  go_wp2_with (go_at_call 78; refine (wire_ends_enc _ g _ _ _ _ (HBE.out _) hs2).mono ?_; rintro e w2 ⟨gc, rfl, hb2, hgc2, hcr2, hst2⟩; have HB2 := Aside0.mk hb2; have HS2 := Aside0.mk hst2; have HC2 := Aside0.mk hcr2; clear hb2 hst2 hcr2)
  go_ret
  have hst := (ended_step w g f _).trans HS2.out (fun k hk => .inl hk)
  refine ⟨by rw [HH.out]; rfl, ?_, g_step hst hS⟩
  rw [HH.out]
  refine ended_chunks HB.out hS HOL.out HOB.out HNE.out hst HB2.out (HC2.out.mono (fun k hk => ?_))
  rw [size_set, size_set, size_set_drewN] at hk
  exact hk
end Go.Proofs.Ytncpicfnlnkndaa.Wire
