/- The walk of wire's (*Reader).Take. -/
import Derived.Test.YtncpicfnlnkndaaWireK
import Derived.WalkKit
import Derived.Deep.QuietTactic
import Derived.BigQuiet
import Derived.WalkLawsBesides
import Derived.WalkSpells
import Derived.Lib.Hide
import Derived.Outline
set_option linter.unusedVariables false
set_option linter.unusedSimpArgs false
namespace Go.Proofs.Ytncpicfnlnkndaa.Wire
open Go.RowKit Go.Proofs.YtncpicfnlnkndaaW.PrintWords Go.Proofs.Ytncpicfnlnkndaa.Mem Go.Proofs.Ytncpicfnlnkndaa.PA

/-- A request as a value. -/
abbrev reqV (m t k : ByteArray) (v : Value) : Value := .agg #[.string m, .string t, .string k, v]
abbrev noReq : Value := reqV ⟨#[]⟩ ⟨#[]⟩ ⟨#[]⟩ (.slice none 0 0)

theorem wire_Take_nil (w : World) : Calls Try.prog 24 #[.pointer none] w fun e w' => e = .returned (.tuple #[noReq, .bool false]) ∧ Below w.heap.size w w' := by
  go_enter Try.func24, Try.ntmps24
  go_wp2
  exact bodyPost_ret (v := .tuple #[noReq, .bool false]) (by simp [results, Try.results24, go_sem, noReq, reqV]) rfl ⟨rfl, by repeat (first | exact Below.refl _ _ | refine below_alloc ?_ _)⟩
theorem wire_Take_no (x : WR) (g : Nat) (vl vb vc : Value) (w : World) (hb : WBlk w g x vl vb vc) (hw : x.whole = false) :
    Calls Try.prog 24 #[.pointer (some ⟨g, 0, none⟩)] w fun e w' => e = .returned (.tuple #[noReq, .bool false]) ∧ Below w.heap.size w w' := by
  have k2 : w.cell? ⟨g, 2, none⟩ = some (.bool _) := blk_cell hb 2
  rw [hw] at k2
  have hlt := blk_lt hb
  clear hb hw
  go_enter Try.func24, Try.ntmps24
  go_wp2
  exact bodyPost_ret (v := .tuple #[noReq, .bool false]) (by simp [results, Try.results24, go_sem, noReq, reqV]) rfl ⟨rfl, by repeat (first | exact Below.refl _ _ | refine below_alloc ?_ _)⟩
set_option maxHeartbeats 4000000 in
theorem wire_Take_yes (x : WR) (g : Nat) (vl vc : Value) (A : Option Addr) (n c : Nat) (w : World) (hb : WBlk w g x vl (.slice A n c) vc) (hw : x.whole = true) :
    Calls Try.prog 24 #[.pointer (some ⟨g, 0, none⟩)] w fun e w' => e = .returned (.tuple #[reqV x.method x.target x.token (.slice A n c), .bool true]) ∧
      WBlk w' g WR.fresh (.slice none 0 0) (.slice none 0 0) (.pointer none) ∧ Step (fun k => k = g) w w' := by
  obtain ⟨vb, hvb⟩ : ∃ vb, vb = Value.slice A n c := ⟨_, rfl⟩
  rw [← hvb] at hb
  have k0 : w.cell? ⟨g, 0, none⟩ = some (.bool _) := blk_cell hb 0
  have k1 : w.cell? ⟨g, 1, none⟩ = some (.bool _) := blk_cell hb 1
  have k2 : w.cell? ⟨g, 2, none⟩ = some (.bool _) := blk_cell hb 2
  have k3 : w.cell? ⟨g, 3, none⟩ = some (.int .i64 _) := blk_cell hb 3
  have k4 : w.cell? ⟨g, 4, none⟩ = some (.int .i64 _) := blk_cell hb 4
  have k5 : w.cell? ⟨g, 5, none⟩ = some vl := blk_cell hb 5
  have k6 : w.cell? ⟨g, 6, none⟩ = some (.string _) := blk_cell hb 6
  have k7 : w.cell? ⟨g, 7, none⟩ = some (.string _) := blk_cell hb 7
  have k8 : w.cell? ⟨g, 8, none⟩ = some (.string _) := blk_cell hb 8
  have k9 : w.cell? ⟨g, 9, none⟩ = some vb := blk_cell hb 9
  have k10 : w.cell? ⟨g, 10, none⟩ = some (.bool _) := blk_cell hb 10
  have k11 : w.cell? ⟨g, 11, none⟩ = some (.bool _) := blk_cell hb 11
  have k12 : w.cell? ⟨g, 12, none⟩ = some (.bool _) := blk_cell hb 12
  have k13 : w.cell? ⟨g, 13, none⟩ = some (.int .i64 _) := blk_cell hb 13
  have k14 : w.cell? ⟨g, 14, none⟩ = some vc := blk_cell hb 14
  have k15 : w.cell? ⟨g, 15, none⟩ = some (.bool _) := blk_cell hb 15
  have fz : ∀ i, w.frozen? ⟨g, i, none⟩ = false := blk_frozen hb
  rw [hw] at k2
  have hlt := blk_lt hb
  have HB := Aside0.mk hb
  clear hb
  clear hw
  subst hvb
  go_enter Try.func24, Try.ntmps24
  go_wp2
  have hs : WBlk _ g WR.fresh (.slice none 0 0) (.slice none 0 0) (.pointer none) := ((((((((((((((((HB.out.set0 true).set1 false).set2 false).set3 0).set4 0).set5 (.slice none 0 0)).set6 ⟨#[]⟩).set7 ⟨#[]⟩).set8 ⟨#[]⟩).set9 (.slice none 0 0)).set10 false).set11 false).set12 false).set13 0).set14 (.pointer none)).set15 false)
  exact bodyPost_ret (v := .tuple #[reqV x.method x.target x.token (.slice A n c), .bool true]) (by simp [results, Try.results24, go_sem, reqV]) rfl
    ⟨rfl, (hs.below (below_alloc (Below.refl _ _) _)).below (below_alloc (Below.refl _ _) _), by (with_reducible repeat (first | refine Step.alloc ?_ _ | refine Step.setG ?_ _ _)); exact Step.refl _ _⟩

/-- Take of a request that is whole, in the reader's own words. -/
theorem wire_Take (x : WS) (S : Nat → Prop) (g : Nat) (w : World) (hr : WRep w S g x) (hw : x.f.whole = true) :
    Calls Try.prog 24 #[.pointer (some ⟨g, 0, none⟩)] w fun e w' => ∃ A c, e = .returned (.tuple #[reqV x.f.method x.f.target x.f.token (.slice A x.body.length c), .bool true]) ∧
      WRep w' (fun k => k = g) g WS.fresh ∧ Own w' (fun k => S k ∧ k ≠ g ∧ k < w.heap.size) (.slice A x.body.length c) x.body ∧ Step (fun k => k = g) w w' := by
  obtain ⟨vl, vb, vc, hb, hS, hol, hob, hne, hch⟩ := hr
  obtain ⟨A, c, rfl⟩ := hob.form
  refine (wire_Take_yes x.f g vl vc A _ c w hb hw).mono ?_
  rintro e w' ⟨rfl, hb', hs'⟩
  refine ⟨A, c, rfl, ⟨_, _, _, hb', rfl, Own.nil _ _, Own.nil _ _, fun k hk => by simp [Value.ownBlock] at hk, rfl⟩, ?_, hs'⟩
  have ho : Own w (fun k => S k ∧ k ≠ g ∧ k < w.heap.size) (.slice A x.body.length c) x.body := ⟨fun k hk => ⟨hob.1 k hk, fun h => by subst h; exact own_ne hob.2 hb (by decide) hk.symm, own_lt hob.2 k hk⟩, hob.2⟩
  exact ho.step hs' (fun k hk => hk.2.1)
theorem wire_Take_none (x : WS) (S : Nat → Prop) (g : Nat) (w : World) (hr : WRep w S g x) (hw : x.f.whole = false) :
    Calls Try.prog 24 #[.pointer (some ⟨g, 0, none⟩)] w fun e w' => e = .returned (.tuple #[noReq, .bool false]) ∧ Below w.heap.size w w' := by
  obtain ⟨vl, vb, vc, hb, _⟩ := hr
  exact wire_Take_no x.f g vl vb vc w hb hw
end Go.Proofs.Ytncpicfnlnkndaa.Wire
