/- The walks of package chunk's reader: Put, Body, New; bytes.Clone. -/
import Derived.Test.YtncpicfnlnkndaaChunkB
import Derived.WalkKit
import Derived.Deep.QuietTactic
import Derived.BigQuiet
import Derived.WalkLawsBesides
import Derived.WalkSpells
import Derived.Lib.Hide
import Derived.Outline
set_option linter.unusedVariables false
set_option linter.unusedSimpArgs false
namespace Go.Proofs.Ytncpicfnlnkndaa.Wire
open Go.RowKit Go.Proofs.YtncpicfnlnkndaaW.PrintWords Go.Proofs.Ytncpicfnlnkndaa.Mem

theorem bytes_Clone (A : Option Addr) (n c : Nat) (xs : List Int) (w : World) (hr : ReadsInt w .u8 A n xs) (hn : n ≤ 140737488355328) :
    Calls Try.prog 69 #[.slice A n c] w fun e w' => ∃ A' c', e = .returned (.slice A' n c') ∧ Own w' (fun k => w.heap.size ≤ k) (.slice A' n c') xs ∧ Below w.heap.size w w' := by
  have HR := Aside0.mk hr
  have hlen := hr.1
  have hnil : n = 0 → xs = [] := fun h => List.eq_nil_of_length_eq_zero (by omega)
  have HL := Aside0.mk hlen
  clear hlen
  clear hr
  have hq := fun W => Go.Lib.run_eql_slice_nil (P := Try.prog) W 22 5 A n c 0 0 Try.underlying22
  rcases A with _ | ad
  · have h0 : n = 0 := by
      rcases Nat.eq_zero_or_pos n with h | h
      · exact h
      · obtain ⟨ad, h, _⟩ := HR.out.2.2 h
        cases h
    subst h0
    obtain rfl := hnil rfl
    clear hnil
    go_enter Try.func69, Try.ntmps69
    go_wp2
    go_ret
    exact ⟨none, 0, rfl, Own.nil _ _, Below.refl _ _⟩
  · clear hnil
    go_enter Try.func69, Try.ntmps69
    have hown : (w.alloc (.cells #[] 5)).ownsRow 0 5 1 (.slice (some ⟨w.heap.size, 0, none⟩) 0 0) ([] : List Int).length (nums .u8 []) := own_lit w 0 5 .u8 [] (by omega) (by simp)
    have HO := Aside0.mk hown
    clear hown
    go_wp2_with (at_builtin; refine mem_append_row rfl (.tmp 5) (.tmp 6) 22 5 .u8 1 rfl Try.underlying22 info_u8 (by omega) (.slice (some ⟨w.heap.size, 0, none⟩) 0 0) [] xs _ n _ rfl rfl HO.out (HR.out.allocS _) (by simp; omega) ?_; intro A1 c1 w1 ho1 hg1 hat1; rw [show ([] : List Int).length + n = n from by simp] at ho1 hat1 ⊢; have HO1 := Aside0.mk ho1; have HG1 := Aside0.mk hg1; have HA1 := Aside0.mk hat1; clear ho1 hg1 hat1)
    go_ret
    have hlen := HL.out
    have ho := HO1.out
    refine ⟨A1, c1, rfl, ⟨fun k hk => ?_, by subst hlen; exact ho⟩, ?_⟩
    · rcases HA1.out with h | ⟨b, h, hb⟩
      · rw [h] at hk
        simp [Value.ownBlock] at hk
        omega
      · rw [h] at hk
        injection hk with hk
        simp at hb
        omega
    · exact (below_alloc (Below.refl _ _) _).grown HG1.out (by simp) (fun k hk => by simp [Value.ownBlock] at hk; omega)

/-- chunk.Reader.Body: a copy of what was said. -/
theorem chunk_Body (r : CR) (S : Nat → Prop) (g : Nat) (w : World) (hr : CRep w S g r) (hl : r.b.length ≤ 140737488355328) :
    Calls Try.prog 81 #[.pointer (some ⟨g, 0, none⟩)] w fun e w' =>
      ∃ A' c', e = .returned (.slice A' r.b.length c') ∧ Own w' (fun k => w.heap.size ≤ k) (.slice A' r.b.length c') r.b ∧ Below w.heap.size w w' := by
  have HR := Aside0.mk hr
  obtain ⟨v, hb, hS, hv, ho⟩ := hr
  obtain ⟨A, cp, rfl⟩ := own_slice ho
  obtain ⟨most, at_, left, bs, made⟩ := r
  dsimp only at *
  have k0 : w.cell? ⟨g, 0, none⟩ = some (.int .i64 most) := blk_cell hb 0
  have k1 : w.cell? ⟨g, 1, none⟩ = some (.int .i64 at_) := blk_cell hb 1
  have k2 : w.cell? ⟨g, 2, none⟩ = some (.int .i64 left) := blk_cell hb 2
  have k3 : w.cell? ⟨g, 3, none⟩ = some (.slice A bs.length cp) := blk_cell hb 3
  have k4 : w.cell? ⟨g, 4, none⟩ = some (.bool made) := blk_cell hb 4
  have f1 : w.frozen? ⟨g, 1, none⟩ = false := blk_frozen hb 1
  have f2 : w.frozen? ⟨g, 2, none⟩ = false := blk_frozen hb 2
  have f3 : w.frozen? ⟨g, 3, none⟩ = false := blk_frozen hb 3
  have HB := Aside0.mk hb
  have HO := Aside0.mk ho
  clear hb ho
  have HR3 := Aside0.mk (Own.reads (S := fun _ => True) ⟨fun _ _ => trivial, HO.out⟩)
  go_enter Try.func81, Try.ntmps81
  go_wp2_with (go_at_call 69; refine (bytes_Clone A _ _ bs _ HR3.out hl).mono ?_; rintro e w' ⟨A', c', rfl, ho', hb'⟩; have HO' := Aside0.mk ho'; have HB' := Aside0.mk hb'; clear ho' hb')
  go_ret
  exact ⟨_, _, rfl, HO'.out, HB'.out⟩

theorem chunk_New (most : Int) (w : World) (h0 : 0 ≤ most) (h1 : most ≤ 2048) :
    Calls Try.prog 95 #[.int .i64 most] w fun e w' =>
      e = .returned (.tuple #[.pointer (some ⟨w.heap.size, 0, none⟩), .int .i64 0]) ∧ CRep w' (fun k => w.heap.size ≤ k) w.heap.size ⟨most, 0, 0, [], true⟩ ∧ Below w.heap.size w w' := by
  go_enter Try.func95, Try.ntmps95
  go_wp2
  go_ret2
  refine ⟨rfl, ⟨.slice none 0 0, by simpa [CR.cells] using heap_alloc_new w _, Nat.le_refl _, fun k hk => by simp [Value.ownBlock] at hk, own_nil _ _ _ _⟩, below_alloc (Below.refl _ _) _⟩

def CR.put (r : CR) (b : Int) : (Bool × Int) × CR :=
  if r.at_ = 7 ∨ r.at_ = 8 then ((false, 20), r)
  else if (r.take b).1 ≠ 0 then ((false, (r.take b).1), { (r.take b).2 with at_ := 8 })
  else ((decide ((r.take b).2.at_ = 7), 0), (r.take b).2)

theorem chunk_Put (r : CR) (S : Nat → Prop) (g : Nat) (b : Int) (w : World) (hr : CRep w S g r) (hk : r.Ok) (hmd : r.made = true) (h0 : 0 ≤ b) (h1 : b ≤ 255) :
    Calls Try.prog 80 #[.pointer (some ⟨g, 0, none⟩), .int .u8 b] w fun e w' =>
      e = .returned (.tuple #[.bool (r.put b).1.1, .int .i64 (r.put b).1.2]) ∧ CRep w' (more S w) g (r.put b).2 ∧ Step S w w' := by
  have htake := chunk_take r S g b w hr hk h0 h1
  obtain ⟨a0, a1, l0, l1, m0, m1, hl, hd⟩ := hk
  have HR := Aside0.mk hr
  obtain ⟨v, hb, hS, hv, ho⟩ := hr
  obtain ⟨A, cp, rfl⟩ := own_slice ho
  obtain ⟨most, at_, left, bs, made⟩ := r
  dsimp only at *
  have k0 : w.cell? ⟨g, 0, none⟩ = some (.int .i64 most) := blk_cell hb 0
  have k1 : w.cell? ⟨g, 1, none⟩ = some (.int .i64 at_) := blk_cell hb 1
  have k2 : w.cell? ⟨g, 2, none⟩ = some (.int .i64 left) := blk_cell hb 2
  have k3 : w.cell? ⟨g, 3, none⟩ = some (.slice A bs.length cp) := blk_cell hb 3
  have k4 : w.cell? ⟨g, 4, none⟩ = some (.bool made) := blk_cell hb 4
  have f1 : w.frozen? ⟨g, 1, none⟩ = false := blk_frozen hb 1
  have f2 : w.frozen? ⟨g, 2, none⟩ = false := blk_frozen hb 2
  have f3 : w.frozen? ⟨g, 3, none⟩ = false := blk_frozen hb 3
  have HB := Aside0.mk hb
  have HO := Aside0.mk ho
  clear hb ho
  subst hmd
  clear hd
  have HT := Aside0.mk htake
  clear htake
  by_cases c7 : at_ = 7 ∨ at_ = 8
  · have hp : CR.put ⟨most, at_, left, bs, true⟩ b = ((false, 20), ⟨most, at_, left, bs, true⟩) := by simp [CR.put, c7]
    have HP := Aside0.mk hp
    clear hp
    rcases c7 with rfl | rfl
    · go_enter Try.func80, Try.ntmps80
      go_wp2
      go_ret2
      refine ⟨by rw [HP.out]; rfl, ?_, Step.refl _ _⟩
      rw [HP.out]
      exact HR.out.mono (fun k h => .inl h)
    · go_enter Try.func80, Try.ntmps80
      go_wp2
      go_ret2
      refine ⟨by rw [HP.out]; rfl, ?_, Step.refl _ _⟩
      rw [HP.out]
      exact HR.out.mono (fun k h => .inl h)
  · have c8 : at_ < 7 := by omega
    generalize hx : CR.take ⟨most, at_, left, bs, true⟩ b = x at *
    obtain ⟨e0, r1⟩ := x
    have d7 : ((at_ : Int) == 7) = false := by simp; omega
    have d8 : ((at_ : Int) == 8) = false := by simp; omega
    by_cases ce : e0 = 0
    · subst ce
      have hp : CR.put ⟨most, at_, left, bs, true⟩ b = ((decide (r1.at_ = 7), 0), r1) := by simp [CR.put, c7, hx]
      have HP := Aside0.mk hp
      clear hp
      clear hx c7
      go_enter Try.func80, Try.ntmps80
      go_wp2_with (go_at_call 97; refine HT.out.mono ?_; rintro e w' ⟨rfl, hr', hs'⟩; have HR' := Aside0.mk hr'; have HS' := Aside0.mk hs'; obtain ⟨v', hb', _⟩ := hr'; have k1' : w'.cell? ⟨g, 1, none⟩ = some (.int .i64 r1.at_) := blk_cell hb' 1; clear hb' hs')
      go_ret2
      refine ⟨by rw [HP.out]; rfl, ?_, HS'.out⟩
      rw [HP.out]
      exact HR'.out
    · have hp : CR.put ⟨most, at_, left, bs, true⟩ b = ((false, e0), { r1 with at_ := 8 }) := by simp [CR.put, c7, hx, ce]
      have ce2 : ((e0 : Int) != 0) = true := by simpa using ce
      have HP := Aside0.mk hp
      clear hp
      clear hx c7 ce
      go_enter Try.func80, Try.ntmps80
      go_wp2_with (go_at_call 97; refine HT.out.mono ?_; rintro e w' ⟨rfl, hr', hs'⟩; have HR' := Aside0.mk hr'; have HS' := Aside0.mk hs'; obtain ⟨v', hb', _⟩ := hr'; have k1' : w'.cell? ⟨g, 1, none⟩ = some (.int .i64 r1.at_) := blk_cell hb' 1; have f1' : w'.frozen? ⟨g, 1, none⟩ = false := blk_frozen hb' 1; clear hb' hs')
      go_ret2
      refine ⟨by rw [HP.out]; rfl, ?_, HS'.out.setCell (.inl hS) _⟩
      rw [HP.out]
      exact HR'.out.set_at _
end Go.Proofs.Ytncpicfnlnkndaa.Wire
