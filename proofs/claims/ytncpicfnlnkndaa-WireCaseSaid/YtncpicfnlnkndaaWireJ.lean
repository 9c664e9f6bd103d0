/- wire's (*Reader).heads whole; the walk of (*Reader).body. -/
import Derived.Test.YtncpicfnlnkndaaWireI
import Derived.WalkKit
import Derived.Deep.QuietTactic
import Derived.BigQuiet
import Derived.WalkLawsBesides
import Derived.WalkSpells
import Derived.Lib.Hide
import Derived.Outline
set_option linter.unusedVariables false
set_option linter.unusedSimpArgs false
namespace Go.Proofs.Ytncpicfnlnkndaa.Wire
open Go.RowKit Go.Proofs.YtncpicfnlnkndaaW.PrintWords Go.Proofs.Ytncpicfnlnkndaa.Mem Go.Proofs.Ytncpicfnlnkndaa.PA

theorem strOfNums_size (l : List Int) : (strOfNums l).size = l.length := by simp [strOfNums, ByteArray.size]
theorem wire_heads (x : WS) (S : Nat → Prop) (g : Nat) (b : Int) (w : World) (hr : WRep w S g x) (h0 : 0 ≤ b) (h1 : b ≤ 255) (hh : 0 ≤ x.f.head) (hl0 : 0 ≤ x.f.lines) (hl1 : x.f.lines ≤ 2048) (hln : x.line.length ≤ 2048) : Calls Try.prog 49 #[.pointer (some ⟨g, 0, none⟩), .int .u8 b] w fun e w' => e = .returned (.int .i64 (x.heads b).1) ∧ WRep w' (more S w) g (x.heads b).2 ∧ Step S w w' := by
  by_cases hc : x.f.head ≥ 1024
  · exact heads_big x S g b w hr h0 h1 hh hl0 hl1 hln hc
  · rcases List.eq_nil_or_concat x.line with hline | ⟨l, z, hline⟩
    · by_cases hb1 : b = 13 ∨ (32 ≤ b ∧ b ≤ 126)
      · exact heads_push0 x S g b w hr h0 h1 hh hl0 hl1 hln hc hline hb1
      · exact heads_err0 x S g b w hr h0 h1 hh hl0 hl1 hln hc hline (by omega)
    · rw [List.concat_eq_append] at hline
      by_cases hz : z = 13
      · subst hz
        by_cases hb1 : b = 10
        · subst hb1
          by_cases hl : x.f.lines = 0
          · rcases hfs : Spec.first (strOfNums l) with _ | ⟨m, t⟩
            · exact heads_first_no x S g 10 w hr h0 h1 hh hl0 hl1 hln hc l hline hl hfs
            · exact heads_first_yes x S g 10 w hr h0 h1 hh hl0 hl1 hln hc l hline hl hfs
          · by_cases he : l = []
            · rcases h2 : x.f.s2 with _ | _
              · exact heads_ends_len x S g 10 w hr h0 h1 hh hl0 hl1 hln hc l hline (by omega) he h2
              · exact heads_ends_enc x S g 10 w hr h0 h1 hh hl0 hl1 hln hc l hline (by omega) he h2
            · have hne : (strOfNums l).size ≠ 0 := by
                rw [strOfNums_size]
                exact fun h => he (List.eq_nil_of_length_eq_zero h)
              by_cases h17 : 17 ≤ x.f.lines
              · exact heads_many x S g 10 w hr h0 h1 hh hl0 hl1 hln hc l hline h17 hne
              · exact heads_further x S g 10 w hr h0 h1 hh hl0 hl1 hln hc l hline h17 (by omega) hne
        · exact heads_lone x S g b w hr h0 h1 hh hl0 hl1 hln hc l hline hb1
      · by_cases hb1 : b = 13 ∨ (32 ≤ b ∧ b ≤ 126)
        · exact heads_push1 x S g b w hr h0 h1 hh hl0 hl1 hln hc l z hline hz hb1
        · exact heads_err1 x S g b w hr h0 h1 hh hl0 hl1 hln hc l z hline hz (by omega)

def WS.bodyS (x : WS) (b : Int) : Int × WS :=
  match x.ch with
  | none => (0, { x with body := x.body ++ [b], f := { x.f with left := x.f.left - 1, whole := x.f.left - 1 == 0 } })
  | some c =>
    if (c.put b).1.1 = true then ((c.put b).1.2, { x with ch := some (c.put b).2, body := (c.put b).2.b, f := { x.f with whole := true } })
    else ((c.put b).1.2, { x with ch := some (c.put b).2 })

section
variable {w w1 : World} {S : Nat → Prop} {g : Nat} {f : WR} {line body : List Int} {vl vb vc : Value} {b : Int} {A1 : Option Addr} {c1 : Nat}
theorem bpush_blk (hb : WBlk w g f vl vb vc) (hbd : Own w S vb body) (hg : w.grownBy w1 vb.ownBlock) : WBlk w1 g f vl vb vc :=
  blk_grown hb hg (own_ne hbd.2 hb (by decide))
theorem bpush_rep (hb : WBlk w g f vl vb (.pointer none)) (hS : S g) (hl : Own w S vl line) (hbd : Own w S vb body) (hne : ∀ k, vl.ownBlock = some k → vb.ownBlock ≠ some k)
    (ho : w1.ownsRow 0 5 1 (.slice A1 (body.length + 1) c1) (body.length + 1) (nums .u8 (body ++ [b]))) (hg : w.grownBy w1 vb.ownBlock)
    (hat : (Value.slice A1 (body.length + 1) c1).ownBlock = vb.ownBlock ∨ ∃ k, (Value.slice A1 (body.length + 1) c1).ownBlock = some k ∧ w.heap.size ≤ k) :
    WRep (w1.setCell ⟨g, 9, none⟩ (.slice A1 (body.length + 1) c1)) (more S w) g ⟨f, line, body ++ [b], none⟩ := by
  have hb1 := bpush_blk hb hbd hg
  have h5 := own_setCell (p := ⟨g, 9, none⟩) ho (own_ne (t := 55) ho hb1 (by decide)) (.slice A1 (body.length + 1) c1)
  have hl1 : Own w1 S vl line := ⟨hl.1, own_other hl.2 hg (by
    rcases hv : vl.ownBlock with _ | k
    · exact .inl rfl
    · exact .inr (fun h => hne k hv h.symm))⟩
  refine ⟨vl, _, _, hb1.set9 _, .inl hS, (hl1.mono (fun k hk => .inl hk)).setBlk hb1 (by decide) _, ⟨fun k hk => ?_, by simpa using h5⟩, fun k hk hk2 => ?_, rfl⟩
  · rcases hat with h | ⟨q, h, hq⟩
    · exact .inl (hbd.1 k (by rw [← h]; exact hk))
    · rw [h] at hk
      injection hk with hk
      exact .inr (by omega)
  · rcases hat with h | ⟨q, h, hq⟩
    · exact hne k hk (by rw [← h]; exact hk2)
    · rw [h] at hk2
      injection hk2 with hk2
      have := own_lt hl.2 k hk
      omega
theorem bpush_step (hS : S g) (hbd : Own w S vb body) (hg : w.grownBy w1 vb.ownBlock) {v : Value} : Step S w (w1.setCell ⟨g, 9, none⟩ v) :=
  Step.setCell (p := ⟨g, 9, none⟩) ((Step.refl S w).grown hg (fun k hk => .inl (hbd.1 k hk))) (.inl hS) v
end
theorem WRep.set2 {W : World} {S : Nat → Prop} {g : Nat} {f : WR} {line body : List Int} {ch : Option CR} (h : WRep W S g ⟨f, line, body, ch⟩) (x : Bool) : WRep (W.setCell ⟨g, 2, none⟩ (.bool x)) S g ⟨{ f with whole := x }, line, body, ch⟩ := by
  obtain ⟨vl, vb, vc, h1, h2, h3, h4, h5, h6⟩ := h
  refine ⟨vl, vb, vc, h1.set2 x, h2, h3.setBlk h1 (by decide) _, h4.setBlk h1 (by decide) _, h5, ?_⟩
  cases ch with
  | none => exact h6
  | some c =>
    obtain ⟨gc, Sc, e1, e2, e3⟩ := h6
    exact ⟨gc, Sc, e1, e2.step (S' := fun k => k = g) ((Step.refl _ _).setG _ _) (fun k hk => (e3 k hk).2.1), e3⟩
theorem WRep.set13 {W : World} {S : Nat → Prop} {g : Nat} {f : WR} {line body : List Int} {ch : Option CR} (h : WRep W S g ⟨f, line, body, ch⟩) (x : Int) : WRep (W.setCell ⟨g, 13, none⟩ (.int .i64 x)) S g ⟨{ f with left := x }, line, body, ch⟩ := by
  obtain ⟨vl, vb, vc, h1, h2, h3, h4, h5, h6⟩ := h
  refine ⟨vl, vb, vc, h1.set13 x, h2, h3.setBlk h1 (by decide) _, h4.setBlk h1 (by decide) _, h5, ?_⟩
  cases ch with
  | none => exact h6
  | some c =>
    obtain ⟨gc, Sc, e1, e2, e3⟩ := h6
    exact ⟨gc, Sc, e1, e2.step (S' := fun k => k = g) ((Step.refl _ _).setG _ _) (fun k hk => (e3 k hk).2.1), e3⟩
theorem WRep.set1 {W : World} {S : Nat → Prop} {g : Nat} {f : WR} {line body : List Int} {ch : Option CR} (h : WRep W S g ⟨f, line, body, ch⟩) (x : Bool) : WRep (W.setCell ⟨g, 1, none⟩ (.bool x)) S g ⟨{ f with bad := x }, line, body, ch⟩ := by
  obtain ⟨vl, vb, vc, h1, h2, h3, h4, h5, h6⟩ := h
  refine ⟨vl, vb, vc, h1.set1 x, h2, h3.setBlk h1 (by decide) _, h4.setBlk h1 (by decide) _, h5, ?_⟩
  cases ch with
  | none => exact h6
  | some c =>
    obtain ⟨gc, Sc, e1, e2, e3⟩ := h6
    exact ⟨gc, Sc, e1, e2.step (S' := fun k => k = g) ((Step.refl _ _).setG _ _) (fun k hk => (e3 k hk).2.1), e3⟩

set_option maxHeartbeats 4000000 in
theorem body_plain (x : WS) (S : Nat → Prop) (g : Nat) (b : Int) (w : World) (hr : WRep w S g x) (h0 : 0 ≤ b) (h1 : b ≤ 255) (hch : x.ch = none) (hbl : x.body.length ≤ 4096) (hl0 : 0 ≤ x.f.left) (hl1 : x.f.left ≤ 4096) : Calls Try.prog 50 #[.pointer (some ⟨g, 0, none⟩), .int .u8 b] w fun e w' =>
      e = .returned (.int .i64 (x.bodyS b).1) ∧ WRep w' (more S w) g (x.bodyS b).2 ∧ Step S w w' := by
  have hh' : x.bodyS b = (0, { x with body := x.body ++ [b], f := { x.f with left := x.f.left - 1, whole := x.f.left - 1 == 0 } }) := by unfold WS.bodyS; rw [hch]
  have hcn := hch
  obtain ⟨f, line, body, ch⟩ := x
  dsimp only at hcn
  subst hcn
  dsimp only at *
  have HR := Aside0.mk hr
  obtain ⟨vl, vb, vc, hb, hS, hol, hob, hne, hch2⟩ := hr
  obtain rfl : vc = .pointer none := hch2
  obtain ⟨A, cp, evb⟩ := hob.form
  dsimp only at *
  have k9 : w.cell? ⟨g, 9, none⟩ = some vb := blk_cell hb 9
  have k13 : w.cell? ⟨g, 13, none⟩ = some (.int .i64 f.left) := blk_cell hb 13
  have k14 : w.cell? ⟨g, 14, none⟩ = some (.pointer none) := blk_cell hb 14
  have k2 : w.cell? ⟨g, 2, none⟩ = some (.bool f.whole) := blk_cell hb 2
  have fz : ∀ i, w.frozen? ⟨g, i, none⟩ = false := blk_frozen hb
  subst evb
  have HB := Aside0.mk hb
  clear hb
  have HOL := Aside0.mk hol
  clear hol
  have HOB := Aside0.mk hob
  clear hob
  have HNE := Aside0.mk hne
  clear hne
  have HH := Aside0.mk hh'
  clear hh'
  clear hch
  go_enter Try.func50, Try.ntmps50
  go_wp2_with (at_builtin; refine mem_append rfl (.tmp 17) (.tmp 19) 22 5 .u8 1 rfl Try.underlying22 info_u8 (by omega) _ body _ rfl rfl HOB.out.2 (by omega) ?_; intro A1 cp1 w1 ho1 hg1 hat1; have HP := Aside0.mk (bpush_rep HB.out hS HOL.out HOB.out HNE.out ho1 hg1 hat1); have HG1 := Aside0.mk hg1; have hb1 := bpush_blk HB.out HOB.out hg1; have k91 : w1.cell? ⟨g, 9, none⟩ = some _ := blk_cell hb1 9; have k131 : w1.cell? ⟨g, 13, none⟩ = some (.int .i64 _) := blk_cell hb1 13; have k21 : w1.cell? ⟨g, 2, none⟩ = some (.bool _) := blk_cell hb1 2; have fz1 : ∀ i, w1.frozen? ⟨g, i, none⟩ = false := blk_frozen hb1; clear ho1 hg1 hat1 hb1)
  go_ret
  refine ⟨by rw [HH.out]; rfl, ?_, ?_⟩
  · rw [HH.out]
    exact (HP.out.set13 _).set2 _
  · exact ((bpush_step hS HOB.out HG1.out).setCell (p := ⟨g, 13, none⟩) (.inl hS) _).setCell (p := ⟨g, 2, none⟩) (.inl hS) _

/-- The reader behind a call on its chunks. -/
theorem chunk_rep {w w1 : World} {S Sc : Nat → Prop} {g gc : Nat} {f : WR} {line body : List Int} {c' : CR} {vl vb : Value} (hb : WBlk w g f vl vb (.pointer (some ⟨gc, 0, none⟩))) (hS : S g) (hl : Own w S vl line) (hbd : Own w S vb body)
    (hne : ∀ k, vl.ownBlock = some k → vb.ownBlock ≠ some k) (hsc : ∀ k, Sc k → S k ∧ k ≠ g ∧ vl.ownBlock ≠ some k ∧ vb.ownBlock ≠ some k) (hc : CRep w1 (more Sc w) gc c') (hst : Step Sc w w1) :
    WRep w1 (more S w) g ⟨f, line, body, some c'⟩ ∧ WBlk w1 g f vl vb (.pointer (some ⟨gc, 0, none⟩)) ∧ Step S w w1 := by
  have hb1 := hst.blk hb (fun h => (hsc _ h).2.1 rfl)
  refine ⟨⟨vl, vb, _, hb1, .inl hS, ?_, ?_, hne, ⟨gc, _, rfl, hc, fun k hk => ?_⟩⟩, hb1, hst.mono (fun k hk => (hsc k hk).1)⟩
  · exact ⟨fun k hk => .inl (hl.1 k hk), hst.own hl.2 (fun k hk h => (hsc k h).2.2.1 hk)⟩
  · exact ⟨fun k hk => .inl (hbd.1 k hk), hst.own hbd.2 (fun k hk h => (hsc k h).2.2.2 hk)⟩
  · rcases hk with hk | hk
    · exact ⟨.inl (hsc k hk).1, (hsc k hk).2⟩
    · have h1 := blk_lt hb
      refine ⟨.inr hk, by omega, fun h => ?_, fun h => ?_⟩
      · have := own_lt hl.2 k h
        omega
      · have := own_lt hbd.2 k h
        omega
/-- .. and behind 'r.x.Body = r.chunks.Body()'. -/
theorem chunk_body_rep {w w1 : World} {S : Nat → Prop} {g : Nat} {f : WR} {line body bs : List Int} {ch : Option CR} {v : Value} (h : WRep w S g ⟨f, line, body, ch⟩) (ho : Own w1 (fun k => w.heap.size ≤ k) v bs) (hb : Below w.heap.size w w1) :
    WRep (w1.setCell ⟨g, 9, none⟩ v) (more S w) g ⟨f, line, bs, ch⟩ ∧ Step S w (w1.setCell ⟨g, 9, none⟩ v) := by
  obtain ⟨vl, vb, vc, h1, h2, h3, h4, h5, h6⟩ := h
  have hb1 := h1.below hb
  have hst : Step (fun k => k = g) w (w1.setCell ⟨g, 9, none⟩ v) := (Step.of_below hb _).setG _ _
  refine ⟨⟨vl, v, vc, hb1.set9 v, .inl h2, ((h3.below hb).mono (fun k hk => .inl hk)).setBlk hb1 (by decide) _, (ho.mono (fun k hk => .inr hk)).setBlk hb1 (by decide) _, fun k hk hk2 => ?_, ?_⟩, hst.mono (fun k hk => by rw [hk]; exact h2)⟩
  · have := own_lt h3.2 k hk
    have := ho.1 k hk2
    omega
  · cases ch with
    | none => exact h6
    | some c =>
      obtain ⟨gc, Sc, e1, e2, e3⟩ := h6
      refine ⟨gc, _, e1, (e2.lt).step hst (fun k hk => (e3 k hk.1).2.1), fun k hk => ⟨.inl (e3 k hk.1).1, (e3 k hk.1).2.1, (e3 k hk.1).2.2.1, fun h => ?_⟩⟩
      have := ho.1 k h
      have := hk.2
      omega

set_option maxHeartbeats 4000000 in
theorem body_chunk (x : WS) (S : Nat → Prop) (g : Nat) (b : Int) (w : World) (hr : WRep w S g x) (h0 : 0 ≤ b) (h1 : b ≤ 255) {c : CR} (hch : x.ch = some c) (hok : c.Ok) (hmd : c.made = true) (hd : (c.put b).1.1 = false) : Calls Try.prog 50 #[.pointer (some ⟨g, 0, none⟩), .int .u8 b] w fun e w' =>
      e = .returned (.int .i64 (x.bodyS b).1) ∧ WRep w' (more S w) g (x.bodyS b).2 ∧ Step S w w' := by
  have hh' : x.bodyS b = ((c.put b).1.2, { x with ch := some (c.put b).2 }) := by unfold WS.bodyS; rw [hch]; dsimp only; rw [if_neg (by rw [hd]; simp)]
  have hcn := hch
  obtain ⟨f, line, body, ch⟩ := x
  dsimp only at hcn
  subst hcn
  dsimp only at *
  obtain ⟨vl, vb, vc, hb, hS, hol, hob, hne, hch2⟩ := hr
  obtain ⟨gc, Sc, evc, hcr, hsc⟩ := hch2
  subst evc
  dsimp only at *
  have k14 : w.cell? ⟨g, 14, none⟩ = some (.pointer (some ⟨gc, 0, none⟩)) := blk_cell hb 14
  have hput := chunk_Put c Sc gc b w hcr hok hmd h0 h1
  have HB := Aside0.mk hb
  clear hb
  have HOL := Aside0.mk hol
  clear hol
  have HOB := Aside0.mk hob
  clear hob
  have HNE := Aside0.mk hne
  clear hne
  have HSC := Aside0.mk hsc
  clear hsc
  have HCR := Aside0.mk hcr
  clear hcr
  have HH := Aside0.mk hh'
  clear hh'
  clear hch
  generalize c.put b = p at *
  obtain ⟨⟨done, e0⟩, c'⟩ := p
  dsimp only at *
  subst hd
  have HPUT := Aside0.mk hput
  clear hput
  go_enter Try.func50, Try.ntmps50
  go_wp2_with (go_at_call 80; refine HPUT.out.mono ?_; rintro e w1 ⟨rfl, hc1, hs1⟩; have HX := Aside0.mk (chunk_rep HB.out hS HOL.out HOB.out HNE.out HSC.out hc1 hs1); clear hc1 hs1)
  go_ret
  refine ⟨by rw [HH.out]; rfl, ?_, HX.out.2.2⟩
  rw [HH.out]
  exact HX.out.1
set_option maxHeartbeats 4000000 in
theorem body_chunks (x : WS) (S : Nat → Prop) (g : Nat) (b : Int) (w : World) (hr : WRep w S g x) (h0 : 0 ≤ b) (h1 : b ≤ 255) {c : CR} (hch : x.ch = some c) (hok : c.Ok) (hmd : c.made = true) (hd : (c.put b).1.1 = true) (hbl : (c.put b).2.b.length ≤ 4096) : Calls Try.prog 50 #[.pointer (some ⟨g, 0, none⟩), .int .u8 b] w fun e w' =>
      e = .returned (.int .i64 (x.bodyS b).1) ∧ WRep w' (more S w) g (x.bodyS b).2 ∧ Step S w w' := by
  have hh' : x.bodyS b = ((c.put b).1.2, { x with ch := some (c.put b).2, body := (c.put b).2.b, f := { x.f with whole := true } }) := by unfold WS.bodyS; rw [hch]; dsimp only; rw [if_pos hd]
  have hcn := hch
  obtain ⟨f, line, body, ch⟩ := x
  dsimp only at hcn
  subst hcn
  dsimp only at *
  obtain ⟨vl, vb, vc, hb, hS, hol, hob, hne, hch2⟩ := hr
  obtain ⟨gc, Sc, evc, hcr, hsc⟩ := hch2
  subst evc
  dsimp only at *
  have k14 : w.cell? ⟨g, 14, none⟩ = some (.pointer (some ⟨gc, 0, none⟩)) := blk_cell hb 14
  have hput := chunk_Put c Sc gc b w hcr hok hmd h0 h1
  have HB := Aside0.mk hb
  clear hb
  have HOL := Aside0.mk hol
  clear hol
  have HOB := Aside0.mk hob
  clear hob
  have HNE := Aside0.mk hne
  clear hne
  have HSC := Aside0.mk hsc
  clear hsc
  have HCR := Aside0.mk hcr
  clear hcr
  have HH := Aside0.mk hh'
  clear hh'
  clear hch
  generalize c.put b = p at *
  obtain ⟨⟨done, e0⟩, c'⟩ := p
  dsimp only at *
  subst hd
  have HPUT := Aside0.mk hput
  clear hput
  go_enter Try.func50, Try.ntmps50
  go_wp2_with (first | (go_at_call 80; refine HPUT.out.mono ?_; rintro e w1 ⟨rfl, hc1, hs1⟩; have HX := Aside0.mk (chunk_rep HB.out hS HOL.out HOB.out HNE.out HSC.out hc1 hs1); have HC1 := Aside0.mk hc1; have k141 : w1.cell? ⟨g, 14, none⟩ = some (.pointer (some ⟨gc, 0, none⟩)) := blk_cell HX.out.2.1 14; clear hc1 hs1) | (go_at_call 81; refine (chunk_Body c' _ gc _ HC1.out (by omega)).mono ?_; rintro e w2 ⟨A', c2, rfl, ho2, hb2⟩; have HO2 := Aside0.mk ho2; have HB2 := Aside0.mk hb2; have hbk := HX.out.2.1.below hb2; have k91 : w2.cell? ⟨g, 9, none⟩ = some _ := blk_cell hbk 9; have k21 : w2.cell? ⟨g, 2, none⟩ = some (.bool _) := blk_cell hbk 2; have fz1 : ∀ i, w2.frozen? ⟨g, i, none⟩ = false := blk_frozen hbk; clear ho2 hb2 hbk))
  go_ret
  have hrep := chunk_body_rep HX.out.1 HO2.out HB2.out
  have hst := (HX.out.2.2.trans hrep.2 (fun k hk => hk)).setCell (p := ⟨g, 2, none⟩) (.inl hS) (.bool true)
  refine ⟨by rw [HH.out]; rfl, ?_, hst⟩
  rw [HH.out]
  refine (hrep.1.set2 true).mono (fun k hk => ?_)
  rcases hk with hk | hk
  · exact hk
  · exact .inr (Nat.le_trans HX.out.2.2.size hk)
end Go.Proofs.Ytncpicfnlnkndaa.Wire
