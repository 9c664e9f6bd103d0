/- A reader of requests in memory, its rows and its chunks; the walk of wire's (*Reader).heads where no line ends. -/
import Derived.Test.YtncpicfnlnkndaaWireF
import Derived.WalkKit
import Derived.Deep.QuietTactic
import Derived.BigQuiet
import Derived.WalkLawsBesides
import Derived.WalkSpells
import Derived.Lib.Hide
import Derived.Outline
set_option linter.unusedVariables false
set_option linter.unusedSimpArgs false
namespace Go.Proofs.Ytncpicfnlnkndaa.Wire
open Go.RowKit Go.Proofs.YtncpicfnlnkndaaW.PrintWords Go.Proofs.Ytncpicfnlnkndaa.Mem Go.Proofs.Ytncpicfnlnkndaa.PA

/-- A reader's state: fields, the line and the body under way, the chunks. -/
structure WS where
  f : WR
  line : List Int
  body : List Int
  ch : Option CR

def ChRep (W : World) (S : Nat → Prop) (g : Nat) (vl vb vc : Value) : Option CR → Prop
  | none => vc = .pointer none
  | some c => ∃ gc Sc, vc = .pointer (some ⟨gc, 0, none⟩) ∧ CRep W Sc gc c ∧ ∀ k, Sc k → S k ∧ k ≠ g ∧ vl.ownBlock ≠ some k ∧ vb.ownBlock ≠ some k
def WRep (W : World) (S : Nat → Prop) (g : Nat) (x : WS) : Prop :=
  ∃ vl vb vc, WBlk W g x.f vl vb vc ∧ S g ∧ Own W S vl x.line ∧ Own W S vb x.body ∧ (∀ k, vl.ownBlock = some k → vb.ownBlock ≠ some k) ∧ ChRep W S g vl vb vc x.ch

theorem ChRep.mono {W : World} {S S' : Nat → Prop} {g : Nat} {vl vb vc : Value} {c : Option CR} (h : ChRep W S g vl vb vc c) (hs : ∀ k, S k → S' k) : ChRep W S' g vl vb vc c := by
  cases c with
  | none => exact h
  | some c =>
    obtain ⟨gc, Sc, h1, h2, h3⟩ := h
    exact ⟨gc, Sc, h1, h2, fun k hk => ⟨hs _ (h3 k hk).1, (h3 k hk).2⟩⟩
theorem WRep.mono {W : World} {S S' : Nat → Prop} {g : Nat} {x : WS} (h : WRep W S g x) (hs : ∀ k, S k → S' k) : WRep W S' g x := by
  obtain ⟨vl, vb, vc, h1, h2, h3, h4, h5, h6⟩ := h
  exact ⟨vl, vb, vc, h1, hs _ h2, h3.mono hs, h4.mono hs, h5, h6.mono hs⟩
theorem WRep.step {W W' : World} {S S' : Nat → Prop} {g : Nat} {x : WS} (h : WRep W S g x) (hs : Step S' W W') (hd : ∀ k, S k → ¬ S' k) : WRep W' S g x := by
  obtain ⟨vl, vb, vc, h1, h2, h3, h4, h5, h6⟩ := h
  refine ⟨vl, vb, vc, hs.blk h1 (hd _ h2), h2, h3.step hs hd, h4.step hs hd, h5, ?_⟩
  rcases hx : x.ch with _ | c
  · rw [hx] at h6
    exact h6
  · rw [hx] at h6
    obtain ⟨gc, Sc, e1, e2, e3⟩ := h6
    exact ⟨gc, Sc, e1, e2.step hs (fun k hk => hd k (e3 k hk).1), e3⟩
theorem WRep.lt {W : World} {S : Nat → Prop} {g : Nat} {x : WS} (h : WRep W S g x) : WRep W (fun k => S k ∧ k < W.heap.size) g x := by
  obtain ⟨vl, vb, vc, h1, h2, h3, h4, h5, h6⟩ := h
  refine ⟨vl, vb, vc, h1, ⟨h2, blk_lt h1⟩, h3.lt, h4.lt, h5, ?_⟩
  rcases hx : x.ch with _ | c
  · rw [hx] at h6
    exact h6
  · rw [hx] at h6
    obtain ⟨gc, Sc, e1, e2, e3⟩ := h6
    exact ⟨gc, _, e1, e2.lt, fun k hk => ⟨⟨(e3 k hk.1).1, hk.2⟩, (e3 k hk.1).2⟩⟩

/-- What is written: the reader's block, and the line's. -/
def LS (g : Nat) (vl : Value) : Nat → Prop := fun k => k = g ∨ vl.ownBlock = some k
/-- The reader anew, behind a call that wrote its block and its line's. -/
theorem WRep.anew {w w' : World} {S : Nat → Prop} {g : Nat} {f : WR} {line body : List Int} {ch : Option CR} {vl vb vc : Value} (hb : WBlk w g f vl vb vc) (hS : S g) (hl : Own w S vl line) (hbd : Own w S vb body)
    (hne : ∀ k, vl.ownBlock = some k → vb.ownBlock ≠ some k) (hch : ChRep w S g vl vb vc ch) {f' : WR} {vl' : Value} {line' : List Int} (hst : Step (LS g vl) w w') (hb' : WBlk w' g f' vl' vb vc)
    (hl' : w'.ownsRow 0 5 1 vl' line'.length (nums .u8 line')) (hat : ∀ k, vl'.ownBlock = some k → vl.ownBlock = some k ∨ w.heap.size ≤ k) : WRep w' (more S w) g ⟨f', line', body, ch⟩ := by
  have hvb : ∀ k, vb.ownBlock = some k → ¬ LS g vl k := by
    intro k hk h
    rcases h with rfl | h
    · exact own_ne hbd.2 hb (by decide) hk.symm
    · exact hne k h hk
  refine ⟨vl', vb, vc, hb', .inl hS, ⟨fun k hk => ?_, hl'⟩, ⟨fun k hk => .inl (hbd.1 k hk), hst.own hbd.2 hvb⟩, fun k hk => ?_, ?_⟩
  · rcases hat k hk with h | h
    · exact .inl (hl.1 k h)
    · exact .inr h
  · intro hk2
    rcases hat k hk with h | h
    · exact hne k h hk2
    · have := own_lt hbd.2 k hk2
      omega
  · cases ch with
    | none => exact hch
    | some c =>
      obtain ⟨gc, Sc, e1, e2, e3⟩ := hch
      refine ⟨gc, _, e1, (e2.lt).step hst (fun k hk h => ?_), fun k hk => ⟨.inl (e3 k hk.1).1, (e3 k hk.1).2.1, fun h => ?_, (e3 k hk.1).2.2.2⟩⟩
      · rcases h with rfl | h
        · exact (e3 _ hk.1).2.1 rfl
        · exact (e3 k hk.1).2.2.1 h
      · rcases hat k h with h' | h'
        · exact (e3 k hk.1).2.2.1 h'
        · have := hk.2
          omega
theorem ls_step {g : Nat} {w w' : World} (h : Step (fun k => k = g) w w') (vl : Value) : Step (LS g vl) w w' := h.mono (fun k hk => .inl hk)
theorem ls_sub {S : Nat → Prop} {g : Nat} {w w' : World} {vl : Value} {l : List Int} (h : Step (LS g vl) w w') (hS : S g) (hl : Own w S vl l) : Step S w w' :=
  h.mono (fun k hk => by rcases hk with rfl | hk; exact hS; exact hl.1 k hk)

/-! The reader behind 'r.head++' and 'r.line = append(r.line, b)'. -/
section
variable {w w1 : World} {S : Nat → Prop} {g nq : Nat} {f : WR} {line body : List Int} {ch : Option CR} {vl vb vc : Value} {b : Int} {A1 : Option Addr} {c1 : Nat}
theorem pushed_blk (hb : WBlk w g f vl vb vc) (hl : Own w S vl line) (hg : ((w.setCell ⟨g, 3, none⟩ (.int .i64 (f.head + 1))).drewN nq).grownBy w1 vl.ownBlock) :
    WBlk w1 g { f with head := f.head + 1 } vl vb vc :=
  blk_grown ((hb.set3 (f.head + 1)).drewN nq) hg (own_ne (((hl.setBlk hb (by decide) _).drewN _).2) ((hb.set3 (f.head + 1)).drewN nq) (by decide))
theorem pushed_lstep (hg : ((w.setCell ⟨g, 3, none⟩ (.int .i64 (f.head + 1))).drewN nq).grownBy w1 vl.ownBlock) (v : Value) : Step (LS g vl) w (w1.setCell ⟨g, 5, none⟩ v) :=
  Step.setCell (p := ⟨g, 5, none⟩) ((ls_step (((Step.refl _ _).setG _ _).drewN _) vl).grown hg (fun k hk => .inl (.inr hk))) (.inl (.inl rfl)) v
theorem pushed_step (hS : S g) (hl : Own w S vl line) (hg : ((w.setCell ⟨g, 3, none⟩ (.int .i64 (f.head + 1))).drewN nq).grownBy w1 vl.ownBlock) {v : Value} : Step S w (w1.setCell ⟨g, 5, none⟩ v) :=
  ls_sub (pushed_lstep hg v) hS hl
theorem pushed_rep (hb : WBlk w g f vl vb vc) (hS : S g) (hl : Own w S vl line) (hbd : Own w S vb body) (hne : ∀ k, vl.ownBlock = some k → vb.ownBlock ≠ some k) (hch : ChRep w S g vl vb vc ch)
    (ho : w1.ownsRow 0 5 1 (.slice A1 (line.length + 1) c1) (line.length + 1) (nums .u8 (line ++ [b]))) (hg : ((w.setCell ⟨g, 3, none⟩ (.int .i64 (f.head + 1))).drewN nq).grownBy w1 vl.ownBlock)
    (hat : (Value.slice A1 (line.length + 1) c1).ownBlock = vl.ownBlock ∨ ∃ k, (Value.slice A1 (line.length + 1) c1).ownBlock = some k ∧ ((w.setCell ⟨g, 3, none⟩ (.int .i64 (f.head + 1))).drewN nq).heap.size ≤ k) :
    WRep (w1.setCell ⟨g, 5, none⟩ (.slice A1 (line.length + 1) c1)) (more S w) g ⟨{ f with head := f.head + 1 }, line ++ [b], body, ch⟩ := by
  have hb1 := pushed_blk hb hl hg
  have h5 := own_setCell (p := ⟨g, 5, none⟩) ho (own_ne (t := 55) ho hb1 (by decide)) (.slice A1 (line.length + 1) c1)
  refine WRep.anew hb hS hl hbd hne hch (pushed_lstep hg _) (hb1.set5 _) (by simpa using h5) (fun k hk => ?_)
  rcases hat with h | ⟨q, h, hq⟩
  · exact .inl (by rw [← h]; exact hk)
  · rw [h] at hk
    injection hk with hk
    have : ((w.setCell ⟨g, 3, none⟩ (.int .i64 (f.head + 1))).drewN nq).heap.size = w.heap.size := by
      show (w.setCell _ _).heap.size = _
      simp [World.setCell]
    exact .inr (by omega)
end
end Go.Proofs.Ytncpicfnlnkndaa.Wire
