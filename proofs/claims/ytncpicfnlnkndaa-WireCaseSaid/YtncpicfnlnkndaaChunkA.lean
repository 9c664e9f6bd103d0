/- The walks of package chunk's reader: digit, must, count. -/
import Derived.Test.YtncpicfnlnkndaaProg
import Derived.Test.YtncpicfnlnkndaaMem
import Derived.WalkKit
import Derived.Deep.QuietTactic
import Derived.BigQuiet
import Derived.WalkLawsBesides
import Derived.WalkSpells
import Derived.Lib.Hide
import Derived.Outline
set_option linter.unusedVariables false
set_option linter.unusedSimpArgs false
namespace Go.Proofs.Ytncpicfnlnkndaa.Wire
open Go.RowKit Go.Proofs.YtncpicfnlnkndaaW.PrintWords Go.Proofs.Ytncpicfnlnkndaa.Mem

theorem ret_int {k : IntKind} {a b : Int} (h : a = b) : Ending.returned (.int k a) = .returned (.int k b) := by rw [h]

def cdigit (b : Int) : Int := if 48 ≤ b ∧ b ≤ 57 then b - 48 else if 97 ≤ b ∧ b ≤ 102 then b - 87 else -1
theorem cdigit_range (b : Int) : -1 ≤ cdigit b ∧ cdigit b ≤ 15 := by unfold cdigit; split; omega; split <;> omega

theorem chunk_digit (b : Int) (w : World) (h0 : 0 ≤ b) (h1 : b ≤ 255) :
    Calls Try.prog 119 #[.int .u8 b] w fun e w' => e = .returned (.int .i64 (cdigit b)) ∧ w = w' := by
  by_cases c1 : 48 ≤ b ∧ b ≤ 57
  · have hd : cdigit b = b - 48 := by unfold cdigit; rw [if_pos c1]
    obtain ⟨c1, c2⟩ := c1
    have HD := Aside0.mk hd
    clear hd
    go_enter Try.func119, Try.ntmps119
    go_wp2
    go_ret
    exact ⟨by rw [HD.out]; rfl, rfl⟩
  · by_cases c2 : 97 ≤ b ∧ b ≤ 102
    · have hd : cdigit b = b - 97 + 10 := by unfold cdigit; rw [if_neg c1, if_pos c2]; omega
      obtain ⟨c2, c3⟩ := c2
      have c4 : 48 ≤ b := by omega
      have c5 : ¬ b ≤ 57 := by omega
      have HD := Aside0.mk hd
      clear hd
      clear c1
      go_enter Try.func119, Try.ntmps119
      go_wp2
      go_ret
      exact ⟨by rw [HD.out]; rfl, rfl⟩
    · have hd : cdigit b = -1 := by unfold cdigit; rw [if_neg c1, if_neg c2]
      have HD := Aside0.mk hd
      clear hd
      have HC1 := Aside0.mk c1
      clear c1
      have HC2 := Aside0.mk c2
      clear c2
      by_cases c3 : 48 ≤ b
      · have c4 : ¬ b ≤ 57 := by have := HC1.out; omega
        by_cases c5 : 97 ≤ b
        · have c6 : ¬ b ≤ 102 := by have := HC2.out; omega
          go_enter Try.func119, Try.ntmps119
          go_wp2
          go_ret
          exact ⟨by rw [HD.out]; rfl, rfl⟩
        · go_enter Try.func119, Try.ntmps119
          go_wp2
          go_ret
          exact ⟨by rw [HD.out]; rfl, rfl⟩
      · have c5 : ¬ 97 ≤ b := by omega
        go_enter Try.func119, Try.ntmps119
        go_wp2
        go_ret
        exact ⟨by rw [HD.out]; rfl, rfl⟩

/-- A chunk reader's fields. -/
structure CR where
  most : Int
  at_ : Int
  left : Int
  b : List Int
  made : Bool

def CR.cells (r : CR) (v : Value) : Array Value := #[.int .i64 r.most, .int .i64 r.at_, .int .i64 r.left, v, .bool r.made]
/-- The block g is a chunk reader; its blocks are of S. -/
def CRep (W : World) (S : Nat → Prop) (g : Nat) (r : CR) : Prop :=
  ∃ v, W.heap[g]? = some (.cells (r.cells v) 160 (0, 0)) ∧ S g ∧ (∀ k, v.ownBlock = some k → S k) ∧ W.ownsRow 0 5 1 v r.b.length (nums .u8 r.b)
theorem CRep.mono {W : World} {S S' : Nat → Prop} {g : Nat} {r : CR} (h : CRep W S g r) (hs : ∀ k, S k → S' k) : CRep W S' g r := by
  obtain ⟨v, h1, h2, h3, h4⟩ := h
  exact ⟨v, h1, hs _ h2, fun k hk => hs _ (h3 k hk), h4⟩
theorem CRep.step {W W' : World} {S S' : Nat → Prop} {g : Nat} {r : CR} (h : CRep W S g r) (hs : Step S' W W') (hd : ∀ k, S k → ¬ S' k) : CRep W' S g r := by
  obtain ⟨v, h1, h2, h3, h4⟩ := h
  exact ⟨v, hs.blk h1 (hd _ h2), h2, h3, hs.own h4 (fun k hk => hd _ (h3 k hk))⟩
theorem CRep.lt {W : World} {S : Nat → Prop} {g : Nat} {r : CR} (h : CRep W S g r) : CRep W (fun k => S k ∧ k < W.heap.size) g r := by
  obtain ⟨v, h1, h2, h3, h4⟩ := h
  exact ⟨v, h1, ⟨h2, blk_lt h1⟩, fun k hk => ⟨h3 k hk, own_lt h4 k hk⟩, h4⟩
theorem CRep.set_at {W : World} {S : Nat → Prop} {g : Nat} {m a l : Int} {b : List Int} {md : Bool} (h : CRep W S g ⟨m, a, l, b, md⟩) (x : Int) : CRep (W.setCell ⟨g, 1, none⟩ (.int .i64 x)) S g ⟨m, x, l, b, md⟩ := by
  obtain ⟨v, h1, h2, h3, h4⟩ := h
  exact ⟨v, by simpa [CR.cells] using blk_set h1 1 _, h2, h3, own_setCell h4 (own_ne h4 h1 (by decide)) _⟩
theorem CRep.set_left {W : World} {S : Nat → Prop} {g : Nat} {m a l : Int} {b : List Int} {md : Bool} (h : CRep W S g ⟨m, a, l, b, md⟩) (x : Int) : CRep (W.setCell ⟨g, 2, none⟩ (.int .i64 x)) S g ⟨m, a, x, b, md⟩ := by
  obtain ⟨v, h1, h2, h3, h4⟩ := h
  exact ⟨v, by simpa [CR.cells] using blk_set h1 2 _, h2, h3, own_setCell h4 (own_ne h4 h1 (by decide)) _⟩
theorem CRep.drew {W : World} {S : Nat → Prop} {g : Nat} {r : CR} (h : CRep W S g r) : CRep W.drew S g r := h
theorem CRep.drewN {W : World} {S : Nat → Prop} {g : Nat} {r : CR} (h : CRep W S g r) (n : Nat) : CRep (W.drewN n) S g r := h

theorem chunk_must_yes (g : Nat) (cs : Array Value) (b then_ : Int) (u : Value) (w : World) (hb : w.heap[g]? = some (.cells cs 160 (0, 0))) (hc : cs[1]? = some u) :
    Calls Try.prog 109 #[.pointer (some ⟨g, 0, none⟩), .int .u8 b, .int .u8 b, .int .i64 then_] w fun e w' =>
      e = .returned (.int .i64 0) ∧ w.setCell ⟨g, 1, none⟩ (.int .i64 then_) = w' := by
  have hc1 : w.cell? ⟨g, 1, none⟩ = some u := (blk_cell hb 1).trans hc
  have hf1 : w.frozen? ⟨g, 1, none⟩ = false := blk_frozen hb 1
  clear hb hc
  go_enter Try.func109, Try.ntmps109
  go_wp2
  go_ret
  exact ⟨rfl, rfl⟩
theorem chunk_must_no (p : Value) (b want then_ : Int) (w : World) (c : b ≠ want) :
    Calls Try.prog 109 #[p, .int .u8 b, .int .u8 want, .int .i64 then_] w fun e w' =>
      e = .returned (.int .i64 4) ∧ w = w' := by
  have c1 : (b == want) = false := by simpa using c
  have c2 : (b != want) = true := by simpa using c
  clear c
  go_enter Try.func109, Try.ntmps109
  go_wp2
  go_ret
  exact ⟨rfl, rfl⟩

def CR.count (r : CR) (b : Int) : Int × CR :=
  if cdigit b < 0 ∨ (r.at_ = 1 ∧ r.left = 0) then (4, r)
  else if 16 * r.left + cdigit b > r.most - r.b.length then (5, r) else (0, { r with left := 16 * r.left + cdigit b, at_ := 1 })

theorem chunk_count (r : CR) (S : Nat → Prop) (g : Nat) (b : Int) (w : World) (hr : CRep w S g r) (h0 : 0 ≤ b) (h1 : b ≤ 255) (l0 : -1 ≤ r.left) (l1 : r.left ≤ 2048) (m0 : 0 ≤ r.most) (m1 : r.most ≤ 2048) (hl : r.b.length ≤ 2048) :
    Calls Try.prog 108 #[.pointer (some ⟨g, 0, none⟩), .int .u8 b] w fun e w' =>
      e = .returned (.int .i64 (r.count b).1) ∧ CRep w' S g (r.count b).2 ∧ Step S w w' := by
  have HR := Aside0.mk hr
  obtain ⟨v, hb, hS, hv, ho⟩ := hr
  obtain ⟨A, cp, rfl⟩ := own_slice ho
  obtain ⟨most, at_, left, bs, made⟩ := r
  dsimp only at *
  have k0 : w.cell? ⟨g, 0, none⟩ = some (.int .i64 most) := blk_cell hb 0
  have k1 : w.cell? ⟨g, 1, none⟩ = some (.int .i64 at_) := blk_cell hb 1
  have k2 : w.cell? ⟨g, 2, none⟩ = some (.int .i64 left) := blk_cell hb 2
  have k3 : w.cell? ⟨g, 3, none⟩ = some (.slice A bs.length cp) := blk_cell hb 3
  have k4 : w.cell? ⟨g, 4, none⟩ = some (.bool made) := blk_cell hb 4
  have f1 : w.frozen? ⟨g, 1, none⟩ = false := blk_frozen hb 1
  have f2 : w.frozen? ⟨g, 2, none⟩ = false := blk_frozen hb 2
  have f3 : w.frozen? ⟨g, 3, none⟩ = false := blk_frozen hb 3
  have HB := Aside0.mk hb
  have HO := Aside0.mk ho
  clear hb ho
  have hd := cdigit_range b
  by_cases c1 : cdigit b < 0
  · have hc : CR.count ⟨most, at_, left, bs, made⟩ b = (4, ⟨most, at_, left, bs, made⟩) := by unfold CR.count; rw [if_pos (.inl c1)]
    have HC := Aside0.mk hc
    clear hc
    generalize hx : cdigit b = d at *
    have HX := Aside0.mk hx
    clear hx
    go_enter Try.func108, Try.ntmps108
    go_wp2_with (go_at_call 119; refine (chunk_digit b _ h0 h1).mono ?_; rintro e w' ⟨rfl, rfl⟩; rw [HX.out])
    go_ret
    refine ⟨by rw [HC.out]; rfl, ?_, Step.refl _ _⟩
    rw [HC.out]
    exact HR.out
  · by_cases c2 : at_ = 1 ∧ left = 0
    · obtain ⟨rfl, rfl⟩ := c2
      have hc : CR.count ⟨most, 1, 0, bs, made⟩ b = (4, ⟨most, 1, 0, bs, made⟩) := by unfold CR.count; rw [if_pos (.inr ⟨rfl, rfl⟩)]
      have HC := Aside0.mk hc
      clear hc
      generalize hx : cdigit b = d at *
      have HX := Aside0.mk hx
      clear hx
      have c3 : 0 ≤ d := by omega
      clear c1
      go_enter Try.func108, Try.ntmps108
      go_wp2_with (go_at_call 119; refine (chunk_digit b _ h0 h1).mono ?_; rintro e w' ⟨rfl, rfl⟩; rw [HX.out])
      go_ret
      refine ⟨by rw [HC.out]; rfl, ?_, Step.refl _ _⟩
      rw [HC.out]
      exact HR.out
    · have hc0 : (cdigit b < 0 ∨ (at_ = 1 ∧ left = 0)) = False := by simp [c2]; omega
      by_cases c4 : 16 * left + cdigit b > most - bs.length
      · have hc : CR.count ⟨most, at_, left, bs, made⟩ b = (5, ⟨most, at_, left, bs, made⟩) := by unfold CR.count; rw [if_neg (by rw [hc0]; exact id), if_pos c4]
        clear hc0
        have HC := Aside0.mk hc
        clear hc
        have HC2 := Aside0.mk c2
        clear c2
        generalize hx : cdigit b = d at *
        have HX := Aside0.mk hx
        clear hx
        have c3 : 0 ≤ d := by omega
        clear c1
        by_cases c5 : at_ = 1
        · have c6 : ((left : Int) == 0) = false := by have := HC2.out; simp; omega
          subst c5
          go_enter Try.func108, Try.ntmps108
          go_wp2_with (go_at_call 119; refine (chunk_digit b _ h0 h1).mono ?_; rintro e w' ⟨rfl, rfl⟩; rw [HX.out])
          go_quiet (fail)
          go_wp2
          go_ret
          refine ⟨by rw [HC.out]; rfl, ?_, (Step.refl _ _).drewN _⟩
          rw [HC.out]
          exact HR.out
        · have c6 : ((at_ : Int) == 1) = false := by simp; omega
          clear c5
          go_enter Try.func108, Try.ntmps108
          go_wp2_with (go_at_call 119; refine (chunk_digit b _ h0 h1).mono ?_; rintro e w' ⟨rfl, rfl⟩; rw [HX.out])
          go_quiet (fail)
          go_wp2
          go_ret
          refine ⟨by rw [HC.out]; rfl, ?_, (Step.refl _ _).drewN _⟩
          rw [HC.out]
          exact HR.out
      · have hc : CR.count ⟨most, at_, left, bs, made⟩ b = (0, ⟨most, 1, 16 * left + cdigit b, bs, made⟩) := by unfold CR.count; rw [if_neg (by rw [hc0]; exact id), if_neg c4]
        clear hc0
        have HC := Aside0.mk hc
        clear hc
        have HC2 := Aside0.mk c2
        clear c2
        generalize hx : cdigit b = d at *
        have HX := Aside0.mk hx
        clear hx
        have c3 : 0 ≤ d := by omega
        clear c1
        by_cases c5 : at_ = 1
        · have c6 : ((left : Int) == 0) = false := by have := HC2.out; simp; omega
          subst c5
          go_enter Try.func108, Try.ntmps108
          go_wp2_with (go_at_call 119; refine (chunk_digit b _ h0 h1).mono ?_; rintro e w' ⟨rfl, rfl⟩; rw [HX.out])
          go_quiet (fail)
          go_wp2
          go_ret
          refine ⟨by rw [HC.out]; rfl, ?_, by repeat (first | exact Step.refl _ _ | refine Step.setCell ?_ (.inl hS) _ | refine Step.drewN ?_ _)⟩
          rw [HC.out]
          exact ((HR.out.drewN _).set_left _).set_at _
        · have c6 : ((at_ : Int) == 1) = false := by simp; omega
          clear c5
          go_enter Try.func108, Try.ntmps108
          go_wp2_with (go_at_call 119; refine (chunk_digit b _ h0 h1).mono ?_; rintro e w' ⟨rfl, rfl⟩; rw [HX.out])
          go_quiet (fail)
          go_wp2
          go_ret
          refine ⟨by rw [HC.out]; rfl, ?_, by repeat (first | exact Step.refl _ _ | refine Step.setCell ?_ (.inl hS) _ | refine Step.drewN ?_ _)⟩
          rw [HC.out]
          exact ((HR.out.drewN _).set_left _).set_at _
end Go.Proofs.Ytncpicfnlnkndaa.Wire
