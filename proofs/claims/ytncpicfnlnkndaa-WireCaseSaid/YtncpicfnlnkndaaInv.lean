/- What holds of readers of chunks and of requests between two bytes. -/
import Derived.Test.YtncpicfnlnkndaaWireL
set_option linter.unusedVariables false
set_option linter.unusedSimpArgs false
namespace Go.Proofs.Ytncpicfnlnkndaa.Wire
open Go.RowKit Go.Proofs.YtncpicfnlnkndaaW.PrintWords Go.Proofs.Ytncpicfnlnkndaa.Mem

structure CR.Inv (c : CR) : Prop where
  made : c.made = true
  m0 : 0 ≤ c.most
  m1 : c.most ≤ 2048
  a0 : 0 ≤ c.at_
  a1 : c.at_ ≤ 8
  l0 : -1 ≤ c.left
  l1 : c.left ≤ 2048
  hl : (c.b.length : Int) ≤ c.most
  z : c.at_ = 0 ∨ c.at_ = 4 ∨ c.at_ = 5 → c.left = 0
  s : c.at_ = 1 ∨ c.at_ = 2 → 0 ≤ c.left ∧ c.b.length + c.left ≤ c.most
  d : c.at_ = 3 → 1 ≤ c.left ∧ c.b.length + c.left ≤ c.most
  e : c.at_ = 6 → c.left = 0 ∨ c.left = -1

theorem CR.Inv.ok {c : CR} (h : c.Inv) : c.Ok := ⟨h.a0, h.a1, h.l0, h.l1, h.m0, h.m1, by have := h.hl; have := h.m1; omega, fun h3 => (h.d h3).2⟩
theorem CR.Inv.fail {c : CR} (h : c.Inv) : CR.Inv { c with at_ := 8 } :=
  ⟨h.made, h.m0, h.m1, by simp, by simp, h.l0, h.l1, h.hl, by simp, by simp, by simp, by simp⟩
theorem CR.must_inv {c : CR} {b want t : Int} (h : c.Inv) (h2 : CR.Inv { c with at_ := t }) : CR.Inv (c.must b want t).2 := by
  unfold CR.must
  split
  · exact h2
  · exact h
theorem CR.count_inv {c : CR} {b : Int} (h : c.Inv) (ha : c.at_ = 0 ∨ c.at_ = 1) : CR.Inv (c.count b).2 := by
  have hd := cdigit_range b
  have hl0 : 0 ≤ c.left := by
    rcases ha with h0 | h1
    · have := h.z (.inl h0); omega
    · exact (h.s (.inl h1)).1
  unfold CR.count
  split
  · exact h
  · rename_i hc
    split
    · exact h
    · rename_i hn
      have hd0 : 0 ≤ cdigit b := by omega
      have := h.m1
      have := h.hl
      exact ⟨h.made, h.m0, h.m1, by simp, by simp, by dsimp only; omega, by dsimp only; omega, h.hl, by simp, fun _ => by dsimp only; omega, by simp, by simp⟩
theorem CR.take_inv {c : CR} {b : Int} (h : c.Inv) : CR.Inv (c.take b).2 := by
  unfold CR.take
  have := h.l0
  have := h.l1
  have := h.hl
  by_cases c0 : c.at_ = 0
  · rw [if_pos c0]
    exact CR.count_inv h (.inl c0)
  · rw [if_neg c0]
    by_cases c1 : c.at_ = 1
    · rw [if_pos c1]
      split
      · have hs := h.s (.inl c1)
        exact ⟨h.made, h.m0, h.m1, by simp, by simp, h.l0, h.l1, h.hl, by simp, fun _ => hs, by simp, by simp⟩
      · exact CR.count_inv h (.inr c1)
    · rw [if_neg c1]
      by_cases c2 : c.at_ = 2
      · rw [if_pos c2]
        have hs := h.s (.inr c2)
        refine CR.must_inv h ?_
        by_cases hz : c.left = 0
        · rw [if_pos hz]
          exact ⟨h.made, h.m0, h.m1, by simp, by simp, h.l0, h.l1, h.hl, by simp, by simp, by simp, fun _ => .inl hz⟩
        · rw [if_neg hz]
          exact ⟨h.made, h.m0, h.m1, by simp, by simp, h.l0, h.l1, h.hl, by simp, by simp, fun _ => ⟨by dsimp only; omega, hs.2⟩, by simp⟩
      · rw [if_neg c2]
        by_cases c3 : c.at_ = 3
        · rw [if_pos c3]
          have hd := h.d c3
          have hlen : ((c.b ++ [b]).length : Int) = c.b.length + 1 := by simp
          by_cases hz : c.left - 1 = 0
          · rw [if_pos hz]
            exact ⟨h.made, h.m0, h.m1, by simp, by simp, by dsimp only; omega, by dsimp only; omega, by dsimp only; omega, fun _ => hz, by simp, by simp, by simp⟩
          · rw [if_neg hz]
            exact ⟨h.made, h.m0, h.m1, by simp, by simp, by dsimp only; omega, by dsimp only; omega, by dsimp only; omega, by simp, by simp, fun _ => ⟨by dsimp only; omega, by dsimp only; omega⟩, by simp⟩
        · rw [if_neg c3]
          by_cases c4 : c.at_ = 4
          · rw [if_pos c4]
            have hz := h.z (.inr (.inl c4))
            exact CR.must_inv h ⟨h.made, h.m0, h.m1, by simp, by simp, h.l0, h.l1, h.hl, fun _ => hz, by simp, by simp, by simp⟩
          · rw [if_neg c4]
            by_cases c5 : c.at_ = 5
            · rw [if_pos c5]
              have hz := h.z (.inr (.inr c5))
              exact CR.must_inv h ⟨h.made, h.m0, h.m1, by simp, by simp, h.l0, h.l1, h.hl, fun _ => hz, by simp, by simp, by simp⟩
            · rw [if_neg c5]
              by_cases c6 : c.at_ = 6 ∧ c.left = 0
              · rw [if_pos c6]
                have h1 : CR.Inv { c with left := -1 } := ⟨h.made, h.m0, h.m1, h.a0, h.a1, by simp, by simp, h.hl, fun h' => absurd h' (by dsimp only; omega), fun h' => absurd h' (by dsimp only; omega), fun h' => absurd h' (by dsimp only; omega), fun _ => .inr rfl⟩
                exact CR.must_inv h1 ⟨h.made, h.m0, h.m1, by simp, by simp, by simp, by simp, h.hl, by simp, by simp, by simp, fun _ => .inr rfl⟩
              · rw [if_neg c6]
                exact CR.must_inv h ⟨h.made, h.m0, h.m1, by simp, by simp, h.l0, h.l1, h.hl, by simp, by simp, by simp, by simp⟩
theorem CR.put_inv {c : CR} {b : Int} (h : c.Inv) : CR.Inv (c.put b).2 := by
  unfold CR.put
  split
  · exact h
  · split
    · exact (CR.take_inv h).fail
    · exact CR.take_inv h

/-- What holds of a reader of requests that waits for a byte. -/
structure WS.Inv (x : WS) : Prop where
  made : x.f.made = true
  bad : x.f.bad = false
  whole : x.f.whole = false
  h0 : 0 ≤ x.f.head
  h1 : x.f.head ≤ 1024
  l0 : 0 ≤ x.f.lines
  l1 : x.f.lines ≤ x.f.head
  ln : (x.line.length : Int) ≤ x.f.head
  e0 : 0 ≤ x.f.left
  e1 : x.f.left ≤ 2048
  hb : x.f.inBody = false → x.body = [] ∧ x.ch = none
  pl : x.f.inBody = true → x.ch = none → 0 < x.f.left ∧ x.body.length + x.f.left ≤ 2048
  ck : ∀ c, x.ch = some c → c.Inv
theorem WS.Inv.fit {x : WS} (h : x.Inv) (b : Int) : x.Fit b where
  made := h.made
  h0 := h.h0
  l0 := h.l0
  l1 := by have := h.l1; have := h.h1; omega
  ln := by have := h.ln; have := h.h1; omega
  pl := fun hi hc => by have := h.pl hi hc; have := h.e1; omega
  ck := fun c _ hc => ⟨(h.ck c hc).ok, (h.ck c hc).made, by have := (CR.put_inv (b := b) (h.ck c hc)); have h2 := this.hl; have h3 := this.m1; omega⟩
theorem WS.fresh_inv : WS.fresh.Inv := ⟨rfl, rfl, rfl, by decide, by decide, by decide, by decide, by decide, by decide, by decide, fun _ => ⟨rfl, rfl⟩, fun h _ => (by cases h), fun c h => (by cases h)⟩

theorem WR.field_same (r : WR) (n v : ByteArray) (h : (r.field n v).1 = 0) : (r.field n v).2.made = r.made ∧ (r.field n v).2.bad = r.bad ∧ (r.field n v).2.whole = r.whole ∧ (r.field n v).2.head = r.head ∧ (r.field n v).2.lines = r.lines ∧ (r.field n v).2.inBody = r.inBody ∧
    (0 ≤ r.left → r.left ≤ 2048 → 0 ≤ (r.field n v).2.left ∧ (r.field n v).2.left ≤ 2048) := by
  revert h
  unfold WR.field
  repeat' split
  all_goals intro h
  all_goals first | (refine ⟨rfl, rfl, rfl, rfl, rfl, rfl, fun a b => ⟨a, b⟩⟩; done) | skip
  all_goals first | (simp at h; done) | skip
  · rename_i hr hn
    have := Plain.readDec_range hr
    exact ⟨rfl, rfl, rfl, rfl, rfl, rfl, fun _ _ => ⟨this.1, by dsimp only; omega⟩⟩
theorem WR.further_same (r : WR) (s : ByteArray) (h : (r.further s).1 = 0) : (r.further s).2.made = r.made ∧ (r.further s).2.bad = r.bad ∧ (r.further s).2.whole = r.whole ∧ (r.further s).2.head = r.head ∧ (r.further s).2.lines = r.lines ∧ (r.further s).2.inBody = r.inBody ∧
    (0 ≤ r.left → r.left ≤ 2048 → 0 ≤ (r.further s).2.left ∧ (r.further s).2.left ≤ 2048) := by
  revert h
  unfold WR.further
  split
  · intro h; simp at h
  · exact WR.field_same _ _ _

theorem WS.ended_inv {x : WS} {s : ByteArray} (h : x.Inv) (hib : x.f.inBody = false) (he : (x.ended s).1 = 0) (hw : (x.ended s).2.f.whole = false) : (x.ended s).2.Inv := by
  obtain ⟨hb1, hb2⟩ := h.hb hib
  revert he hw
  unfold WS.ended
  split
  · split
    · intro _ _
      exact ⟨h.made, h.bad, h.whole, h.h0, h.h1, h.l0, h.l1, h.ln, h.e0, h.e1, h.hb, h.pl, h.ck⟩
    · intro he; simp at he
  · split
    · intro _ hw
      revert hw
      unfold WS.ends
      split
      · intro hw
        exact ⟨h.made, h.bad, h.whole, h.h0, h.h1, h.l0, h.l1, h.ln, h.e0, h.e1, fun q => (by simp at q), fun _ q => (by simp at q), fun c q => (by
          simp at q
          subst q
          exact ⟨rfl, by decide, by decide, by decide, by decide, by decide, by decide, by decide, fun _ => rfl, by simp, by simp, by simp⟩)⟩
      · intro hw
        have hl : x.f.left ≠ 0 := by simpa using hw
        have := h.e0
        have := h.e1
        exact ⟨h.made, h.bad, hw, h.h0, h.h1, h.l0, h.l1, h.ln, h.e0, h.e1, fun q => (by simp at q), fun _ _ => ⟨by dsimp only; omega, by rw [hb1]; simp; omega⟩, fun c q => (by dsimp only at q; rw [hb2] at q; cases q)⟩
    · split
      · intro he; simp at he
      · intro he hw
        obtain ⟨f1, f2, f3, f4, f5, f6, f7⟩ := WR.further_same x.f s he
        obtain ⟨f8, f9⟩ := f7 h.e0 h.e1
        exact ⟨f1.trans h.made, f2.trans h.bad, f3.trans h.whole, by dsimp only; rw [f4]; exact h.h0, by dsimp only; rw [f4]; exact h.h1, by dsimp only; rw [f5]; exact h.l0, by dsimp only; rw [f4, f5]; exact h.l1, by dsimp only; rw [f4]; exact h.ln, f8, f9, fun _ => ⟨hb1, hb2⟩,
          fun q _ => (by dsimp only at q; rw [f6, hib] at q; cases q), fun c q => (by dsimp only at q; rw [hb2] at q; cases q)⟩
theorem WS.heads_inv {x : WS} {b : Int} (h : x.Inv) (hib : x.f.inBody = false) (he : (x.heads b).1 = 0) (hw : (x.heads b).2.f.whole = false) : (x.heads b).2.Inv := by
  obtain ⟨hb1, hb2⟩ := h.hb hib
  have := h.h0
  have := h.l0
  have := h.l1
  have := h.ln
  revert he hw
  unfold WS.heads
  split
  · intro he; simp at he
  · split
    · intro he; simp at he
    · split
      · intro _ _
        exact ⟨h.made, h.bad, h.whole, by dsimp only; omega, by dsimp only; omega, h.l0, by dsimp only; omega, by dsimp only; rw [List.length_append]; simp; omega, h.e0, h.e1, h.hb, h.pl, h.ck⟩
      · intro he hw
        exact WS.ended_inv (x := { x with f := { x.f with head := x.f.head + 1, lines := x.f.lines + 1 }, line := [] }) ⟨h.made, h.bad, h.whole, by dsimp only; omega, by dsimp only; omega, by dsimp only; omega, by dsimp only; omega, by dsimp only; simp; omega, h.e0, h.e1, h.hb, h.pl, h.ck⟩ hib he hw
theorem WS.put_inv {x : WS} {b : Int} (h : x.Inv) (he : (x.put b).1.2 = 0) (hw : (x.put b).1.1 = false) : (x.put b).2.Inv := by
  revert he hw
  unfold WS.put
  rw [if_neg (by rw [h.bad, h.whole]; simp)]
  split
  · rename_i hib
    intro he hw
    rcases hc : x.ch with _ | c
    · simp only [WS.bodyS, hc] at he hw ⊢
      have hp := h.pl hib hc
      have hl : x.f.left - 1 ≠ 0 := by simpa using hw
      exact ⟨h.made, by simp, hw, h.h0, h.h1, h.l0, h.l1, h.ln, by dsimp only; omega, by have := h.e1; dsimp only; omega, fun q => (by dsimp only at q; rw [hib] at q; cases q), fun _ _ => ⟨by dsimp only; omega, by rw [List.length_append]; simp; omega⟩, fun c q => (by dsimp only at q; first | cases q | (rw [hc] at q; cases q))⟩
    · rcases hd : (c.put b).1.1 with _ | _
      · simp only [WS.bodyS, hc, hd] at he hw ⊢
        simp only [Bool.false_eq_true, if_false] at he hw ⊢
        exact ⟨h.made, by simp [he], h.whole, h.h0, h.h1, h.l0, h.l1, h.ln, h.e0, h.e1, fun q => (by dsimp only at q; rw [hib] at q; cases q), fun _ q => (by dsimp only at q; cases q), fun c' q => (by
          injection q with q
          rw [← q]
          exact CR.put_inv (h.ck c hc))⟩
      · simp [WS.bodyS, hc, hd] at hw
  · rename_i hib
    intro he hw
    dsimp only at he hw ⊢
    have h2 := WS.heads_inv h (by simpa using hib) he hw
    exact ⟨h2.made, by simp [he], h2.whole, h2.h0, h2.h1, h2.l0, h2.l1, h2.ln, h2.e0, h2.e1, h2.hb, h2.pl, h2.ck⟩
end Go.Proofs.Ytncpicfnlnkndaa.Wire
