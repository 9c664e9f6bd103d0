/- Words on memory: what a call may have written ('Step'), rows and blocks carried over it. No program is named. -/
import Derived.Test.YtncpicfnlnkndaaWMore
import Derived.WalkKit
import Derived.Lib.Hide
set_option linter.unusedVariables false
set_option linter.unusedSimpArgs false
namespace Go.Proofs.Ytncpicfnlnkndaa.Mem
open Go.RowKit Go.Proofs.YtncpicfnlnkndaaW.PrintWords

/-- From w to w' no block but those of S has turned; nothing has gone; the streams are as they were. -/
structure Step (S : Nat → Prop) (w w' : World) : Prop where
  os : w'.os = w.os
  tape : w'.tape = w.tape
  output : w'.output = w.output
  size : w.heap.size ≤ w'.heap.size
  block : ∀ k, k < w.heap.size → ¬ S k → w'.heap[k]? = w.heap[k]?

section
variable {S S' S2 : Nat → Prop} {w w' w1 w2 W : World}
theorem Step.refl (S : Nat → Prop) (w : World) : Step S w w := ⟨rfl, rfl, rfl, Nat.le_refl _, fun _ _ _ => rfl⟩
theorem Step.mono (h : Step S w w') (hs : ∀ k, S k → S' k) : Step S' w w' := ⟨h.os, h.tape, h.output, h.size, fun k hk hn => h.block k hk (fun h2 => hn (hs k h2))⟩
theorem Step.trans (h : Step S w w1) (k : Step S2 w1 w2) (hs : ∀ k, S2 k → S k ∨ w.heap.size ≤ k) : Step S w w2 :=
  ⟨k.os.trans h.os, k.tape.trans h.tape, k.output.trans h.output, Nat.le_trans h.size k.size, fun i hi hn =>
    (k.block i (Nat.lt_of_lt_of_le hi h.size) (fun h2 => by rcases hs i h2 with h3 | h3; exact hn h3; omega)).trans (h.block i hi hn)⟩
theorem Step.drew (h : Step S w w') : Step S w w'.drew := ⟨h.os, h.tape, h.output, h.size, h.block⟩
theorem Step.drewN (h : Step S w w') (n : Nat) : Step S w (w'.drewN n) := ⟨h.os, h.tape, h.output, h.size, h.block⟩
theorem Step.alloc (h : Step S w w') (o : Obj) : Step S w (w'.alloc o) :=
  h.trans (S2 := fun _ => False) ⟨rfl, rfl, rfl, by simp, fun k hk _ => Below.heap_alloc _ _ _ hk⟩ (fun _ h => h.elim)
theorem Step.setCell (h : Step S w w') {p : Addr} (hp : S p.block ∨ w.heap.size ≤ p.block) (u : Value) : Step S w (w'.setCell p u) :=
  h.trans (S2 := fun k => k = p.block) ⟨rfl, rfl, rfl, by simp [World.setCell], fun k _ hn => Below.heap_setCell _ _ _ _ hn⟩ (fun k hk => by rw [hk]; exact hp)
theorem size_set (w : World) (p : Addr) (u : Value) : (w.setCell p u).heap.size = w.heap.size := by simp [World.setCell]
theorem size_set_drewN (w : World) (p : Addr) (u : Value) (n : Nat) : ((w.setCell p u).drewN n).heap.size = w.heap.size := size_set w p u
theorem Step.setG {g : Nat} (h : Step (fun k => k = g) w w') (i : Nat) (u : Value) : Step (fun k => k = g) w (w'.setCell ⟨g, i, none⟩ u) := h.setCell (p := ⟨g, i, none⟩) (.inl rfl) u
theorem Step.of_below (h : Below w.heap.size w w') (S : Nat → Prop) : Step S w w' := ⟨h.os, h.tape, h.output, h.size, fun k hk _ => h.block k hk⟩
theorem Step.below (h : Step S w w1) (k : Below w1.heap.size w1 w2) : Step S w w2 := h.trans (Step.of_below k (fun _ => False)) (fun _ h => h.elim)
theorem Step.grown {row : Option Nat} (h : Step S w w1) (hg : w1.grownBy w2 row) (hr : ∀ k, row = some k → S k ∨ w.heap.size ≤ k) : Step S w w2 :=
  h.trans (S2 := fun k => row = some k) ⟨hg.os, hg.tape, hg.output, hg.size, fun i hi hn => hg.block i hi (fun he => hn he.symm)⟩ hr
theorem Below.step {B : Nat} {a : World} (h : Below B a w) (k : Step S w w') (hB : B ≤ w.heap.size) (hs : ∀ k, S k → B ≤ k) : Below B a w' :=
  h.trans ⟨k.os, k.tape, k.output, k.size, fun i hi => k.block i (by omega) (fun h2 => by have := hs i h2; omega)⟩
theorem Step.toBelow (k : Step S w w') (hs : ∀ k, S k → w.heap.size ≤ k) : Below w.heap.size w w' := Below.step (Below.refl _ _) k (Nat.le_refl _) hs
theorem Step.blk (h : Step S w w') {g : Nat} {o : Obj} (hb : w.heap[g]? = some o) (hne : ¬ S g) : w'.heap[g]? = some o := (h.block g (blk_lt hb) hne).trans hb
theorem Step.own (h : Step S w w') {base n size : Nat} {e : TypeId} {v : Value} {xs : List Value} (ho : w.ownsRow base e size v n xs) (hne : ∀ k, v.ownBlock = some k → ¬ S k) : w'.ownsRow base e size v n xs :=
  own_move ho (fun k hk => h.block k (own_lt ho k hk) (hne k hk))
theorem Step.kept (h : Step S w w') : Kept w w' S := ⟨h.size, h.block⟩
end

section
variable {P : Program} {ops : Array Oper} {rest : List Oper} {o : Oper} {a : Act} {Q : Exit → Act → World → Prop}
/-- 'v = append(v, y)', v a row of the call's own: behind 'at_builtin'. -/
theorem mem_append {W : World} (hgd : o.guard = none) (s x : Operand) (t e : TypeId) (k : IntKind) (bytes : Nat)
    (ho : o.op = .call { callee := .builtin .append, args := #[s, x], argTypes := #[t, t] })
    (ht : P.underlying t = some (.slice e)) (hinfo : (P.info? e).map (fun i => (i.zero, i.size, i.bytes)) = some (some (.int k 0), 1, bytes)) (hb0 : 0 < bytes)
    (v : Value) (xs : List Int) (y : Int) (hs : a.eval s = v) (hx : a.eval x = .slice (some ⟨W.heap.size, 0, none⟩) 1 1)
    (HO : W.ownsRow 0 e 1 v xs.length (nums k xs)) (hl : (xs.length + 1) * bytes ≤ 140737488355328)
    (h : ∀ A1 c1 w1, w1.ownsRow 0 e 1 (.slice A1 (xs.length + 1) c1) (xs.length + 1) (nums k (xs ++ [y])) → W.grownBy w1 v.ownBlock →
      ((Value.slice A1 (xs.length + 1) c1).ownBlock = v.ownBlock ∨ ∃ b, (Value.slice A1 (xs.length + 1) c1).ownBlock = some b ∧ W.heap.size ≤ b) → wpList P ops Q rest (a.put o.dst (.slice A1 (xs.length + 1) c1)) w1) :
    wpList P ops Q (o :: rest) a (W.alloc (.cells #[.int k y] e)) := by
  refine print_append_num (w0 := W) 0 hgd s x t e k bytes ho ht hinfo hb0 v xs y hs hx HO (Below.refl _ _) (Nat.zero_le _) hl ?_
  intro v1 w1 h1 _ hg hat
  obtain ⟨A1, c1, rfl⟩ := own_slice h1
  have e1 : (xs ++ [y]).length = xs.length + 1 := by simp
  rw [e1] at h1 hat ⊢
  exact h A1 c1 w1 h1 hg hat
theorem mem_append' {W : World} {N : Nat} (hN : N = W.heap.size) (hgd : o.guard = none) (s x : Operand) (t e : TypeId) (k : IntKind) (bytes : Nat)
    (ho : o.op = .call { callee := .builtin .append, args := #[s, x], argTypes := #[t, t] })
    (ht : P.underlying t = some (.slice e)) (hinfo : (P.info? e).map (fun i => (i.zero, i.size, i.bytes)) = some (some (.int k 0), 1, bytes)) (hb0 : 0 < bytes)
    (v : Value) (xs : List Int) (y : Int) (hs : a.eval s = v) (hx : a.eval x = .slice (some ⟨N, 0, none⟩) 1 1)
    (HO : W.ownsRow 0 e 1 v xs.length (nums k xs)) (hl : (xs.length + 1) * bytes ≤ 140737488355328)
    (h : ∀ A1 c1 w1, w1.ownsRow 0 e 1 (.slice A1 (xs.length + 1) c1) (xs.length + 1) (nums k (xs ++ [y])) → W.grownBy w1 v.ownBlock →
      ((Value.slice A1 (xs.length + 1) c1).ownBlock = v.ownBlock ∨ ∃ b, (Value.slice A1 (xs.length + 1) c1).ownBlock = some b ∧ W.heap.size ≤ b) → wpList P ops Q rest (a.put o.dst (.slice A1 (xs.length + 1) c1)) w1) :
    wpList P ops Q (o :: rest) a (W.alloc (.cells #[.int k y] e)) := by
  subst hN
  exact mem_append hgd s x t e k bytes ho ht hinfo hb0 v xs y hs hx HO hl h
/-- 'v = append(v, ys...)'. -/
theorem mem_append_row {W : World} (hgd : o.guard = none) (s x : Operand) (t e : TypeId) (k : IntKind) (bytes : Nat)
    (ho : o.op = .call { callee := .builtin .append, args := #[s, x], argTypes := #[t, t] })
    (ht : P.underlying t = some (.slice e)) (hinfo : (P.info? e).map (fun i => (i.zero, i.size, i.bytes)) = some (some (.int k 0), 1, bytes)) (hb0 : 0 < bytes)
    (v : Value) (xs ys : List Int) (A : Option Addr) (m c : Nat) (hs : a.eval s = v) (hx : a.eval x = .slice A m c)
    (HO : W.ownsRow 0 e 1 v xs.length (nums k xs)) (HR : ReadsInt W k A m ys) (hl : (xs.length + m) * bytes ≤ 140737488355328)
    (h : ∀ A1 c1 w1, w1.ownsRow 0 e 1 (.slice A1 (xs.length + m) c1) (xs.length + m) (nums k (xs ++ ys)) → W.grownBy w1 v.ownBlock →
      ((Value.slice A1 (xs.length + m) c1).ownBlock = v.ownBlock ∨ ∃ b, (Value.slice A1 (xs.length + m) c1).ownBlock = some b ∧ W.heap.size ≤ b) → wpList P ops Q rest (a.put o.dst (.slice A1 (xs.length + m) c1)) w1) :
    wpList P ops Q (o :: rest) a W := by
  refine print_append_row (w0 := W) 0 hgd s x t e k bytes ho ht hinfo hb0 v xs ys A m c hs hx HO HR (Below.refl _ _) (Nat.zero_le _) hl ?_
  intro v1 w1 h1 _ hg hat
  obtain ⟨A1, c1, rfl⟩ := own_slice h1
  have e1 : (xs ++ ys).length = xs.length + m := by simp [HR.1]
  rw [e1] at h1 hat ⊢
  exact h A1 c1 w1 h1 hg hat
end

/-- v is a row of bytes of one's own, in a block of S. -/
def Own (w : World) (S : Nat → Prop) (v : Value) (xs : List Int) : Prop := (∀ k, v.ownBlock = some k → S k) ∧ w.ownsRow 0 5 1 v xs.length (nums .u8 xs)
section
variable {S S' : Nat → Prop} {w w' w1 W : World} {v : Value} {xs ys : List Int}
theorem Own.mono (h : Own w S v xs) (hs : ∀ k, S k → S' k) : Own w S' v xs := ⟨fun k hk => hs k (h.1 k hk), h.2⟩
theorem Own.step (h : Own w S v xs) (hk : Step S' w w') (hd : ∀ k, S k → ¬ S' k) : Own w' S v xs := ⟨h.1, hk.own h.2 (fun k hk => hd k (h.1 k hk))⟩
theorem Own.below (h : Own w S v xs) (hb : Below w.heap.size w w') : Own w' S v xs := ⟨h.1, pw_own_below h.2 hb⟩
theorem Own.drewN (h : Own w S v xs) (n : Nat) : Own (w.drewN n) S v xs := h
theorem Own.drew (h : Own w S v xs) : Own w.drew S v xs := h
theorem Own.alloc (h : Own w S v xs) (o : Obj) : Own (w.alloc o) S v xs := h.below (below_alloc (Below.refl _ _) o)
theorem Own.lt (h : Own w S v xs) : Own w (fun k => S k ∧ k < w.heap.size) v xs := ⟨fun k hk => ⟨h.1 k hk, own_lt h.2 k hk⟩, h.2⟩
theorem Own.nil (w : World) (S : Nat → Prop) : Own w S (.slice none 0 0) [] := ⟨fun k hk => by simp [Value.ownBlock] at hk, own_nil _ _ _ _⟩
theorem Own.form (h : Own w S v xs) : ∃ A c, v = .slice A xs.length c := own_slice h.2
theorem Own.reads {A : Option Addr} {n c : Nat} (h : Own w S (.slice A n c) xs) : ReadsInt w .u8 A n xs := by
  obtain ⟨A', c', e⟩ := h.form
  injection e with e1 e2 e3
  subst e2
  exact own_reads' h.2
theorem Own.setCell (h : Own w S v xs) {p : Addr} (hp : ∀ k, S k → k ≠ p.block) (u : Value) : Own (w.setCell p u) S v xs :=
  ⟨h.1, own_setCell h.2 (fun he => hp _ (h.1 _ he.symm) rfl) u⟩
/-- A store into a block of another type. -/
theorem Own.setBlk (h : Own w S v xs) {g i : Nat} {t : TypeId} {cs : Array Value} (hb : w.heap[g]? = some (.cells cs t (0, 0))) (ht : 5 ≠ t) (u : Value) : Own (w.setCell ⟨g, i, none⟩ u) S v xs :=
  ⟨h.1, own_setCell h.2 (own_ne h.2 hb ht) u⟩
theorem Own.grown (h : Own w S v xs) {row : Option Nat} (hg : w.grownBy w1 row) (hne : ∀ k, S k → some k ≠ row) : Own w1 S v xs :=
  ⟨h.1, own_other h.2 hg (by
    rcases hv : v.ownBlock with _ | k
    · exact .inl rfl
    · exact .inr (hne k (h.1 k hv)))⟩
end

/-- A slice of strings that a call made: its cells. -/
theorem strs_form {w : World} {e base : Nat} {ok : Nat → Prop} {v : Value} {l : List ByteArray} (h : Kd.R Kd.string e w base ok v l) (hl : 0 < l.length) :
    ∃ g c, v = .slice (some ⟨g, 0, none⟩) l.length c ∧ base ≤ g ∧ g < w.heap.size ∧ ∀ j, j < l.length → w.cell? ⟨g, j, none⟩ = some (.string (l.getD j ByteArray.empty)) := by
  have ho := Kd.own_of_R h
  obtain ⟨g, c, rfl, hb, hlt⟩ := ho.form hl
  refine ⟨g, c, rfl, hb, hlt, fun j hj => ?_⟩
  have hc := ho.cells (g := g) rfl j (.string (l.getD j ByteArray.empty)) (by simp [encs, List.getElem?_eq_getElem hj, List.getD_eq_getElem?_getD])
  rwa [add_plain] at hc

/-- What S holds, and what is new since w. -/
def more (S : Nat → Prop) (w : World) : Nat → Prop := fun k => S k ∨ w.heap.size ≤ k
theorem more_of {S : Nat → Prop} {w : World} {k : Nat} (h : S k) : more S w k := .inl h
end Go.Proofs.Ytncpicfnlnkndaa.Mem
