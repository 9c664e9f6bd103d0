/- The walks of wire's (*Reader).Put, Take and Idle, and of New. -/
import Derived.Test.YtncpicfnlnkndaaWireJ
import Derived.WalkKit
import Derived.Deep.QuietTactic
import Derived.BigQuiet
import Derived.WalkLawsBesides
import Derived.WalkSpells
import Derived.Lib.Hide
import Derived.Outline
set_option linter.unusedVariables false
set_option linter.unusedSimpArgs false
namespace Go.Proofs.Ytncpicfnlnkndaa.Wire
open Go.RowKit Go.Proofs.YtncpicfnlnkndaaW.PrintWords Go.Proofs.Ytncpicfnlnkndaa.Mem Go.Proofs.Ytncpicfnlnkndaa.PA

/-- What a reader's state must hold so that a byte can be taken. -/
structure WS.Fit (x : WS) (b : Int) : Prop where
  made : x.f.made = true
  h0 : 0 ≤ x.f.head
  l0 : 0 ≤ x.f.lines
  l1 : x.f.lines ≤ 2048
  ln : x.line.length ≤ 2048
  pl : x.f.inBody = true → x.ch = none → x.body.length ≤ 4096 ∧ 0 ≤ x.f.left ∧ x.f.left ≤ 4096
  ck : ∀ c, x.f.inBody = true → x.ch = some c → c.Ok ∧ c.made = true ∧ (c.put b).2.b.length ≤ 4096

def WS.put (x : WS) (b : Int) : (Bool × Int) × WS :=
  if x.f.bad = true ∨ x.f.whole = true then ((false, 20), x)
  else if x.f.inBody = true then (((x.bodyS b).2.f.whole, (x.bodyS b).1), { (x.bodyS b).2 with f := { (x.bodyS b).2.f with bad := (x.bodyS b).1 != 0 } })
  else (((x.heads b).2.f.whole, (x.heads b).1), { (x.heads b).2 with f := { (x.heads b).2.f with bad := (x.heads b).1 != 0 } })

theorem wire_body (x : WS) (S : Nat → Prop) (g : Nat) (b : Int) (w : World) (hr : WRep w S g x) (h0 : 0 ≤ b) (h1 : b ≤ 255) (pl : x.ch = none → x.body.length ≤ 4096 ∧ 0 ≤ x.f.left ∧ x.f.left ≤ 4096) (ck : ∀ c, x.ch = some c → c.Ok ∧ c.made = true ∧ (c.put b).2.b.length ≤ 4096) :
    Calls Try.prog 50 #[.pointer (some ⟨g, 0, none⟩), .int .u8 b] w fun e w' => e = .returned (.int .i64 (x.bodyS b).1) ∧ WRep w' (more S w) g (x.bodyS b).2 ∧ Step S w w' := by
  rcases hc : x.ch with _ | c
  · obtain ⟨p1, p2, p3⟩ := pl hc
    exact body_plain x S g b w hr h0 h1 hc p1 p2 p3
  · obtain ⟨c1, c2, c3⟩ := ck c hc
    rcases hd : (c.put b).1.1 with _ | _
    · exact body_chunk x S g b w hr h0 h1 hc c1 c2 hd
    · exact body_chunks x S g b w hr h0 h1 hc c1 c2 hd c3

theorem put_state (x : WS) (S : Nat → Prop) (g : Nat) (b : Int) (w : World) (hr : WRep w S g x) (h0 : 0 ≤ b) (h1 : b ≤ 255) (hk : x.Fit b) (hs : x.f.bad = true ∨ x.f.whole = true) : Calls Try.prog 21 #[.pointer (some ⟨g, 0, none⟩), .int .u8 b] w fun e w' =>
      e = .returned (.tuple #[.bool (x.put b).1.1, .int .i64 (x.put b).1.2]) ∧ WRep w' (more S w) g (x.put b).2 ∧ Step S w w' := by
  have hp : x.put b = ((false, 20), x) := by unfold WS.put; rw [if_pos hs]
  have HR := Aside0.mk hr
  obtain ⟨vl, vb, vc, hb, hS, _⟩ := hr
  have k0 : w.cell? ⟨g, 0, none⟩ = some (.bool _) := blk_cell hb 0
  have k1 : w.cell? ⟨g, 1, none⟩ = some (.bool _) := blk_cell hb 1
  have k2 : w.cell? ⟨g, 2, none⟩ = some (.bool _) := blk_cell hb 2
  have k15 : w.cell? ⟨g, 15, none⟩ = some (.bool _) := blk_cell hb 15
  rw [hk.made] at k0
  clear hb
  have HP := Aside0.mk hp
  clear hp
  clear hk
  rcases hbad : x.f.bad with _ | _
  · have hw : x.f.whole = true := by rcases hs with h | h; rw [hbad] at h; cases h; exact h
    rw [hbad] at k1
    rw [hw] at k2
    clear hs hbad hw
    go_enter Try.func21, Try.ntmps21
    go_wp2
    go_ret2
    refine ⟨by rw [HP.out]; rfl, ?_, Step.refl _ _⟩
    rw [HP.out]
    exact HR.out.mono (fun k h => .inl h)
  · rw [hbad] at k1
    clear hs hbad
    go_enter Try.func21, Try.ntmps21
    go_wp2
    go_ret2
    refine ⟨by rw [HP.out]; rfl, ?_, Step.refl _ _⟩
    rw [HP.out]
    exact HR.out.mono (fun k h => .inl h)

set_option maxHeartbeats 4000000 in
theorem put_heads (x : WS) (S : Nat → Prop) (g : Nat) (b : Int) (w : World) (hr : WRep w S g x) (h0 : 0 ≤ b) (h1 : b ≤ 255) (hk : x.Fit b) (hbad : x.f.bad = false) (hw : x.f.whole = false) (hib : x.f.inBody = false) : Calls Try.prog 21 #[.pointer (some ⟨g, 0, none⟩), .int .u8 b] w fun e w' =>
      e = .returned (.tuple #[.bool (x.put b).1.1, .int .i64 (x.put b).1.2]) ∧ WRep w' (more S w) g (x.put b).2 ∧ Step S w w' := by
  have hp : x.put b = (((x.heads b).2.f.whole, (x.heads b).1), { (x.heads b).2 with f := { (x.heads b).2.f with bad := (x.heads b).1 != 0 } }) := by
    unfold WS.put; rw [if_neg (by rw [hbad, hw]; simp), if_neg (by rw [hib]; simp)]
  have ht := wire_heads x S g b w hr h0 h1 hk.h0 hk.l0 hk.l1 hk.ln
  obtain ⟨vl, vb, vc, hb, hS, _⟩ := hr
  have k0 : w.cell? ⟨g, 0, none⟩ = some (.bool _) := blk_cell hb 0
  have k1 : w.cell? ⟨g, 1, none⟩ = some (.bool _) := blk_cell hb 1
  have k2 : w.cell? ⟨g, 2, none⟩ = some (.bool _) := blk_cell hb 2
  have k15 : w.cell? ⟨g, 15, none⟩ = some (.bool _) := blk_cell hb 15
  rw [hk.made] at k0
  clear hb
  rw [hbad] at k1
  rw [hw] at k2
  rw [hib] at k15
  clear hbad hw hib
  have HP := Aside0.mk hp
  clear hp
  have HT := Aside0.mk ht
  clear ht
  clear hk
  have hmf : ∀ (fn : Fn) (first cap : Array Value) (w : World), (Instr.makeFunc fn first cap).run Try.prog w = .ok (.func fn first cap) w := fun _ _ _ _ => rfl
  generalize hq : x.heads b = p at *
  obtain ⟨e0, x1⟩ := p
  have HQ := Aside0.mk hq
  clear hq
  dsimp only at *
  go_enter Try.func21, Try.ntmps21
  go_wp2_with (go_at_call 49; refine HT.out.mono ?_; rintro e w1 ⟨rfl, hr1, hs1⟩; have HR1 := Aside0.mk hr1; have HS1 := Aside0.mk hs1; obtain ⟨vl1, vb1, vc1, hb1, _⟩ := hr1; have k11 : w1.cell? ⟨g, 1, none⟩ = some (.bool _) := blk_cell hb1 1; have k21 : w1.cell? ⟨g, 2, none⟩ = some (.bool _) := blk_cell hb1 2; have fz1 : ∀ i, w1.frozen? ⟨g, i, none⟩ = false := blk_frozen hb1; clear hb1 hs1)
  go_ret2
  refine ⟨by rw [HP.out]; rfl, ?_, HS1.out.setCell (p := ⟨g, 1, none⟩) (.inl hS) _⟩
  rw [HP.out]
  exact HR1.out.set1 _
set_option maxHeartbeats 4000000 in
theorem put_body (x : WS) (S : Nat → Prop) (g : Nat) (b : Int) (w : World) (hr : WRep w S g x) (h0 : 0 ≤ b) (h1 : b ≤ 255) (hk : x.Fit b) (hbad : x.f.bad = false) (hw : x.f.whole = false) (hib : x.f.inBody = true) : Calls Try.prog 21 #[.pointer (some ⟨g, 0, none⟩), .int .u8 b] w fun e w' =>
      e = .returned (.tuple #[.bool (x.put b).1.1, .int .i64 (x.put b).1.2]) ∧ WRep w' (more S w) g (x.put b).2 ∧ Step S w w' := by
  have hp : x.put b = (((x.bodyS b).2.f.whole, (x.bodyS b).1), { (x.bodyS b).2 with f := { (x.bodyS b).2.f with bad := (x.bodyS b).1 != 0 } }) := by
    unfold WS.put; rw [if_neg (by rw [hbad, hw]; simp), if_pos hib]
  have ht := wire_body x S g b w hr h0 h1 (hk.pl hib) (fun c => hk.ck c hib)
  obtain ⟨vl, vb, vc, hb, hS, _⟩ := hr
  have k0 : w.cell? ⟨g, 0, none⟩ = some (.bool _) := blk_cell hb 0
  have k1 : w.cell? ⟨g, 1, none⟩ = some (.bool _) := blk_cell hb 1
  have k2 : w.cell? ⟨g, 2, none⟩ = some (.bool _) := blk_cell hb 2
  have k15 : w.cell? ⟨g, 15, none⟩ = some (.bool _) := blk_cell hb 15
  rw [hk.made] at k0
  clear hb
  rw [hbad] at k1
  rw [hw] at k2
  rw [hib] at k15
  clear hbad hw hib
  have HP := Aside0.mk hp
  clear hp
  have HT := Aside0.mk ht
  clear ht
  clear hk
  have hmf : ∀ (fn : Fn) (first cap : Array Value) (w : World), (Instr.makeFunc fn first cap).run Try.prog w = .ok (.func fn first cap) w := fun _ _ _ _ => rfl
  generalize hq : x.bodyS b = p at *
  obtain ⟨e0, x1⟩ := p
  have HQ := Aside0.mk hq
  clear hq
  dsimp only at *
  go_enter Try.func21, Try.ntmps21
  go_wp2_with (go_at_call 50; refine HT.out.mono ?_; rintro e w1 ⟨rfl, hr1, hs1⟩; have HR1 := Aside0.mk hr1; have HS1 := Aside0.mk hs1; obtain ⟨vl1, vb1, vc1, hb1, _⟩ := hr1; have k11 : w1.cell? ⟨g, 1, none⟩ = some (.bool _) := blk_cell hb1 1; have k21 : w1.cell? ⟨g, 2, none⟩ = some (.bool _) := blk_cell hb1 2; have fz1 : ∀ i, w1.frozen? ⟨g, i, none⟩ = false := blk_frozen hb1; clear hb1 hs1)
  go_ret2
  refine ⟨by rw [HP.out]; rfl, ?_, HS1.out.setCell (p := ⟨g, 1, none⟩) (.inl hS) _⟩
  rw [HP.out]
  exact HR1.out.set1 _
theorem wire_Put (x : WS) (S : Nat → Prop) (g : Nat) (b : Int) (w : World) (hr : WRep w S g x) (h0 : 0 ≤ b) (h1 : b ≤ 255) (hk : x.Fit b) : Calls Try.prog 21 #[.pointer (some ⟨g, 0, none⟩), .int .u8 b] w fun e w' =>
      e = .returned (.tuple #[.bool (x.put b).1.1, .int .i64 (x.put b).1.2]) ∧ WRep w' (more S w) g (x.put b).2 ∧ Step S w w' := by
  rcases hbad : x.f.bad with _ | _
  · rcases hw : x.f.whole with _ | _
    · rcases hib : x.f.inBody with _ | _
      · exact put_heads x S g b w hr h0 h1 hk hbad hw hib
      · exact put_body x S g b w hr h0 h1 hk hbad hw hib
    · exact put_state x S g b w hr h0 h1 hk (.inr hw)
  · exact put_state x S g b w hr h0 h1 hk (.inl hbad)

/-- A reader that no call made answers so. -/
theorem wire_Put_nil (b : Int) (w : World) : Calls Try.prog 21 #[.pointer none, .int .u8 b] w fun e w' => e = .returned (.tuple #[.bool false, .int .i64 1]) ∧ w = w' := by
  go_enter Try.func21, Try.ntmps21
  go_wp2
  go_ret2
  exact ⟨rfl, rfl⟩
theorem wire_Put_plain (g : Nat) (cs : Array Value) (b : Int) (w : World) (hb : w.heap[g]? = some (.cells cs 55 (0, 0))) (hc : cs[0]? = some (.bool false)) :
    Calls Try.prog 21 #[.pointer (some ⟨g, 0, none⟩), .int .u8 b] w fun e w' => e = .returned (.tuple #[.bool false, .int .i64 1]) ∧ w = w' := by
  have k0 : w.cell? ⟨g, 0, none⟩ = some (.bool false) := (blk_cell hb 0).trans hc
  clear hb hc
  go_enter Try.func21, Try.ntmps21
  go_wp2
  go_ret2
  exact ⟨rfl, rfl⟩
theorem wire_Idle_nil (w : World) : Calls Try.prog 23 #[.pointer none] w fun e w' => e = .returned (.bool true) ∧ w = w' := by
  go_enter Try.func23, Try.ntmps23
  go_wp2
  go_ret
  exact ⟨rfl, rfl⟩
theorem wire_Idle (g : Nat) (cs : Array Value) (n : Int) (w : World) (hb : w.heap[g]? = some (.cells cs 55 (0, 0))) (hc : cs[3]? = some (.int .i64 n)) :
    Calls Try.prog 23 #[.pointer (some ⟨g, 0, none⟩)] w fun e w' => e = .returned (.bool (n == 0)) ∧ w = w' := by
  have k0 : w.cell? ⟨g, 3, none⟩ = some (.int .i64 n) := (blk_cell hb 3).trans hc
  clear hb hc
  go_enter Try.func23, Try.ntmps23
  go_wp2
  go_ret
  exact ⟨rfl, rfl⟩
def WR.fresh : WR := ⟨true, false, false, 0, 0, ⟨#[]⟩, ⟨#[]⟩, ⟨#[]⟩, false, false, false, 0, false⟩
def WS.fresh : WS := ⟨WR.fresh, [], [], none⟩
theorem wire_New (w : World) : Calls Try.prog 20 #[] w fun e w' => e = .returned (.pointer (some ⟨w.heap.size, 0, none⟩)) ∧ WRep w' (fun k => w.heap.size ≤ k) w.heap.size WS.fresh ∧ Below w.heap.size w w' := by
  go_enter Try.func20, Try.ntmps20
  go_wp2
  go_ret
  refine ⟨rfl, ⟨.slice none 0 0, .slice none 0 0, .pointer none, ?_, Nat.le_refl _, Own.nil _ _, Own.nil _ _, fun k hk => by simp [Value.ownBlock] at hk, rfl⟩, below_alloc (Below.refl _ _) _⟩
  unfold WBlk
  simpa [WR.cells, WS.fresh, WR.fresh] using heap_alloc_new w _
end Go.Proofs.Ytncpicfnlnkndaa.Wire
