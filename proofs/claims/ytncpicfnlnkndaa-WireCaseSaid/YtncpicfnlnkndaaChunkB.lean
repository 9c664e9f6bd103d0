/- The walks of package chunk's reader: take, Put, Body, New. -/
import Derived.Test.YtncpicfnlnkndaaChunkA
import Derived.WalkKit
import Derived.Deep.QuietTactic
import Derived.BigQuiet
import Derived.WalkLawsBesides
import Derived.WalkSpells
import Derived.Lib.Hide
import Derived.Outline
set_option linter.unusedVariables false
set_option linter.unusedSimpArgs false
namespace Go.Proofs.Ytncpicfnlnkndaa.Wire
open Go.RowKit Go.Proofs.YtncpicfnlnkndaaW.PrintWords Go.Proofs.Ytncpicfnlnkndaa.Mem

theorem info_u8 : (Try.prog.info? 5).map (fun i => (i.zero, i.size, i.bytes)) = some (some (.int .u8 0), 1, 1) := by kernel_rfl

def CR.must (r : CR) (b want then_ : Int) : Int × CR := if b = want then (0, { r with at_ := then_ }) else (4, r)
def CR.take (r : CR) (b : Int) : Int × CR :=
  if r.at_ = 0 then r.count b
  else if r.at_ = 1 then (if b = 13 then (0, { r with at_ := 2 }) else r.count b)
  else if r.at_ = 2 then r.must b 10 (if r.left = 0 then 6 else 3)
  else if r.at_ = 3 then (0, { r with b := r.b ++ [b], left := r.left - 1, at_ := if r.left - 1 = 0 then 4 else 3 })
  else if r.at_ = 4 then r.must b 13 5
  else if r.at_ = 5 then r.must b 10 0
  else if r.at_ = 6 ∧ r.left = 0 then ({ r with left := -1 } : CR).must b 13 6
  else r.must b 10 7

/-- What holds of a reader between two bytes. -/
structure CR.Ok (r : CR) : Prop where
  a0 : 0 ≤ r.at_
  a1 : r.at_ ≤ 8
  l0 : -1 ≤ r.left
  l1 : r.left ≤ 2048
  m0 : 0 ≤ r.most
  m1 : r.most ≤ 2048
  hl : r.b.length ≤ 2048
  hd : r.at_ = 3 → r.b.length + r.left ≤ r.most

theorem CRep.appended {W w1 : World} {S : Nat → Prop} {g : Nat} {m a l y : Int} {bs : List Int} {md : Bool} {A1 : Option Addr} {c1 : Nat} {v : Value}
    (hb : W.heap[g]? = some (.cells (CR.cells ⟨m, a, l, bs, md⟩ v) 160 (0, 0))) (ho : W.ownsRow 0 5 1 v bs.length (nums .u8 bs)) (hS : S g) (hv : ∀ k, v.ownBlock = some k → S k)
    (h1 : w1.ownsRow 0 5 1 (.slice A1 (bs.length + 1) c1) (bs.length + 1) (nums .u8 (bs ++ [y]))) (hg : W.grownBy w1 v.ownBlock)
    (hat : (Value.slice A1 (bs.length + 1) c1).ownBlock = v.ownBlock ∨ ∃ b, (Value.slice A1 (bs.length + 1) c1).ownBlock = some b ∧ W.heap.size ≤ b) :
    CRep (w1.setCell ⟨g, 3, none⟩ (.slice A1 (bs.length + 1) c1)) (more S W) g ⟨m, a, l, bs ++ [y], md⟩ := by
  have hb1 := blk_grown hb hg (own_ne ho hb (by decide))
  refine ⟨_, by simpa [CR.cells] using blk_set hb1 3 _, .inl hS, fun k hk => ?_, by simpa using own_setCell h1 (own_ne h1 hb1 (by decide)) _⟩
  rcases hat with h | ⟨b, h, hl⟩
  · exact .inl (hv k (by rw [← h]; exact hk))
  · rw [h] at hk
    injection hk with hk
    exact .inr (by omega)

set_option maxHeartbeats 8000000 in
theorem chunk_take (r : CR) (S : Nat → Prop) (g : Nat) (b : Int) (w : World) (hr : CRep w S g r) (hk : r.Ok) (h0 : 0 ≤ b) (h1 : b ≤ 255) :
    Calls Try.prog 97 #[.pointer (some ⟨g, 0, none⟩), .int .u8 b] w fun e w' =>
      e = .returned (.int .i64 (r.take b).1) ∧ CRep w' (more S w) g (r.take b).2 ∧ Step S w w' := by
  have hcount := chunk_count r S g b w hr h0 h1 hk.l0 hk.l1 hk.m0 hk.m1 hk.hl
  obtain ⟨a0, a1, l0, l1, m0, m1, hl, hd⟩ := hk
  have HR := Aside0.mk hr
  obtain ⟨v, hb, hS, hv, ho⟩ := hr
  obtain ⟨A, cp, rfl⟩ := own_slice ho
  obtain ⟨most, at_, left, bs, made⟩ := r
  dsimp only at *
  have k0 : w.cell? ⟨g, 0, none⟩ = some (.int .i64 most) := blk_cell hb 0
  have k1 : w.cell? ⟨g, 1, none⟩ = some (.int .i64 at_) := blk_cell hb 1
  have k2 : w.cell? ⟨g, 2, none⟩ = some (.int .i64 left) := blk_cell hb 2
  have k3 : w.cell? ⟨g, 3, none⟩ = some (.slice A bs.length cp) := blk_cell hb 3
  have k4 : w.cell? ⟨g, 4, none⟩ = some (.bool made) := blk_cell hb 4
  have f1 : w.frozen? ⟨g, 1, none⟩ = false := blk_frozen hb 1
  have f2 : w.frozen? ⟨g, 2, none⟩ = false := blk_frozen hb 2
  have f3 : w.frozen? ⟨g, 3, none⟩ = false := blk_frozen hb 3
  have HB := Aside0.mk hb
  have HO := Aside0.mk ho
  clear hb ho
  have HCNT := Aside0.mk hcount
  clear hcount
  have HD := Aside0.mk hd
  clear hd
  by_cases c0 : at_ = 0
  · subst c0
    have ht : CR.take ⟨most, 0, left, bs, made⟩ b = CR.count ⟨most, 0, left, bs, made⟩ b := by simp [CR.take]
    have HT := Aside0.mk ht
    clear ht
    go_enter Try.func97, Try.ntmps97
    go_wp2_with (go_at_call 108; refine HCNT.out.mono ?_; rintro e w' ⟨rfl, hr', hs'⟩; have HR' := Aside0.mk hr'; have HS' := Aside0.mk hs'; clear hr' hs')
    go_ret
    refine ⟨by rw [HT.out]; rfl, ?_, HS'.out⟩
    rw [HT.out]
    exact HR'.out.mono (fun k h => .inl h)
  · by_cases c1 : at_ = 1
    · subst c1
      by_cases c2 : b = 13
      · subst c2
        have ht : CR.take ⟨most, 1, left, bs, made⟩ 13 = (0, ⟨most, 2, left, bs, made⟩) := by simp [CR.take]
        have HT := Aside0.mk ht
        clear ht
        go_enter Try.func97, Try.ntmps97
        go_wp2
        go_ret
        refine ⟨by rw [HT.out]; rfl, ?_, by repeat (first | exact Step.refl _ _ | refine Step.setCell ?_ (.inl hS) _ | refine Step.drewN ?_ _ | refine Step.drew ?_ | refine Step.alloc ?_ _)⟩
        rw [HT.out]
        exact (HR.out.set_at _).mono (fun k h => .inl h)
      · have ht : CR.take ⟨most, 1, left, bs, made⟩ b = CR.count ⟨most, 1, left, bs, made⟩ b := by simp [CR.take, c2]
        have HT := Aside0.mk ht
        clear ht
        have c3 : ((b : Int) == 13) = false := by simpa using c2
        clear c2 c0
        go_enter Try.func97, Try.ntmps97
        go_wp2_with (go_at_call 108; refine HCNT.out.mono ?_; rintro e w' ⟨rfl, hr', hs'⟩; have HR' := Aside0.mk hr'; have HS' := Aside0.mk hs'; clear hr' hs')
        go_ret
        refine ⟨by rw [HT.out]; rfl, ?_, HS'.out⟩
        rw [HT.out]
        exact HR'.out.mono (fun k h => .inl h)
    · by_cases c2 : at_ = 2
      · subst c2
        clear c0 c1
        by_cases cl : left = 0
        · subst cl
          by_cases cb : b = 10
          · subst cb
            have ht : CR.take ⟨most, 2, 0, bs, made⟩ 10 = (0, ⟨most, 6, 0, bs, made⟩) := by first | (simp [CR.take, CR.must]; done) | simp [CR.take, CR.must, HCL.out]
            have HT := Aside0.mk ht
            clear ht
            go_enter Try.func97, Try.ntmps97
            go_wp2_with (go_at_call 109; refine (chunk_must_yes g _ 10 _ _ _ HB.out rfl).mono ?_; rintro e w' ⟨rfl, rfl⟩)
            go_ret
            refine ⟨by rw [HT.out]; rfl, ?_, by repeat (first | exact Step.refl _ _ | refine Step.setCell ?_ (.inl hS) _ | refine Step.drewN ?_ _ | refine Step.drew ?_ | refine Step.alloc ?_ _)⟩
            rw [HT.out]
            exact (HR.out.set_at _).mono (fun k h => .inl h)
          · have ht : CR.take ⟨most, 2, 0, bs, made⟩ b = (4, ⟨most, 2, 0, bs, made⟩) := by first | (simp [CR.take, CR.must, cb]; done) | simp [CR.take, CR.must, HCL.out, cb]
            have HCB := Aside0.mk cb
            clear cb
            have HT := Aside0.mk ht
            clear ht
            go_enter Try.func97, Try.ntmps97
            go_wp2_with (go_at_call 109; refine (chunk_must_no _ b 10 _ _ HCB.out).mono ?_; rintro e w' ⟨rfl, rfl⟩)
            go_ret
            refine ⟨by rw [HT.out]; rfl, ?_, Step.refl _ _⟩
            rw [HT.out]
            exact HR.out.mono (fun k h => .inl h)
        · have cl2 : ((left : Int) == 0) = false := by simpa using cl
          have cl3 : ¬ left = 0 := cl
          clear cl
          have HCL := Aside0.mk cl3
          clear cl3
          by_cases cb : b = 10
          · subst cb
            have ht : CR.take ⟨most, 2, left, bs, made⟩ 10 = (0, ⟨most, 3, left, bs, made⟩) := by first | (simp [CR.take, CR.must]; done) | simp [CR.take, CR.must, HCL.out]
            have HT := Aside0.mk ht
            clear ht
            go_enter Try.func97, Try.ntmps97
            go_wp2_with (go_at_call 109; refine (chunk_must_yes g _ 10 _ _ _ HB.out rfl).mono ?_; rintro e w' ⟨rfl, rfl⟩)
            go_ret
            refine ⟨by rw [HT.out]; rfl, ?_, by repeat (first | exact Step.refl _ _ | refine Step.setCell ?_ (.inl hS) _ | refine Step.drewN ?_ _ | refine Step.drew ?_ | refine Step.alloc ?_ _)⟩
            rw [HT.out]
            exact (HR.out.set_at _).mono (fun k h => .inl h)
          · have ht : CR.take ⟨most, 2, left, bs, made⟩ b = (4, ⟨most, 2, left, bs, made⟩) := by first | (simp [CR.take, CR.must, cb]; done) | simp [CR.take, CR.must, HCL.out, cb]
            have HCB := Aside0.mk cb
            clear cb
            have HT := Aside0.mk ht
            clear ht
            go_enter Try.func97, Try.ntmps97
            go_wp2_with (go_at_call 109; refine (chunk_must_no _ b 10 _ _ HCB.out).mono ?_; rintro e w' ⟨rfl, rfl⟩)
            go_ret
            refine ⟨by rw [HT.out]; rfl, ?_, Step.refl _ _⟩
            rw [HT.out]
            exact HR.out.mono (fun k h => .inl h)
      · by_cases c3 : at_ = 3
        · subst c3
          clear c0 c1 c2
          by_cases cl : left - 1 = 0
          · obtain rfl : left = 1 := by omega
            have ht : CR.take ⟨most, 3, 1, bs, made⟩ b = (0, ⟨most, 4, 0, bs ++ [b], made⟩) := by simp [CR.take]
            have HT := Aside0.mk ht
            clear ht
            go_enter Try.func97, Try.ntmps97
            go_wp2_with (at_builtin; refine mem_append rfl (.tmp 42) (.tmp 44) 22 5 .u8 1 rfl Try.underlying22 info_u8 (by omega) _ bs b rfl rfl HO.out (by omega) ?_; intro A1 cp1 w1 ho1 hg1 hat1; have HR1 := Aside0.mk (CRep.appended HB.out HO.out hS hv ho1 hg1 hat1); have HG1 := Aside0.mk hg1; have hb1 := blk_grown HB.out hg1 (own_ne HO.out HB.out (by decide)); have k11 : w1.cell? ⟨g, 1, none⟩ = some (.int .i64 3) := blk_cell hb1 1; have k12 : w1.cell? ⟨g, 2, none⟩ = some (.int .i64 _) := blk_cell hb1 2; have k13 : w1.cell? ⟨g, 3, none⟩ = some (.slice A bs.length cp) := blk_cell hb1 3; have f11 : w1.frozen? ⟨g, 1, none⟩ = false := blk_frozen hb1 1; have f12 : w1.frozen? ⟨g, 2, none⟩ = false := blk_frozen hb1 2; have f13 : w1.frozen? ⟨g, 3, none⟩ = false := blk_frozen hb1 3; clear ho1 hg1 hat1 hb1)
            go_ret
            refine ⟨by rw [HT.out]; rfl, ?_, by repeat (first | exact (Step.refl _ _).grown HG1.out (fun k hk => .inl (hv k hk)) | refine Step.setCell ?_ (.inl hS) _)⟩
            rw [HT.out]
            exact ((HR1.out.set_left _).set_at _)
          · have ht : CR.take ⟨most, 3, left, bs, made⟩ b = (0, ⟨most, 3, left - 1, bs ++ [b], made⟩) := by simp [CR.take, cl]
            have cl2 : ((left - 1 : Int) == 0) = false := by simpa using cl
            clear cl
            have HT := Aside0.mk ht
            clear ht
            go_enter Try.func97, Try.ntmps97
            go_wp2_with (at_builtin; refine mem_append rfl (.tmp 42) (.tmp 44) 22 5 .u8 1 rfl Try.underlying22 info_u8 (by omega) _ bs b rfl rfl HO.out (by omega) ?_; intro A1 cp1 w1 ho1 hg1 hat1; have HR1 := Aside0.mk (CRep.appended HB.out HO.out hS hv ho1 hg1 hat1); have HG1 := Aside0.mk hg1; have hb1 := blk_grown HB.out hg1 (own_ne HO.out HB.out (by decide)); have k11 : w1.cell? ⟨g, 1, none⟩ = some (.int .i64 3) := blk_cell hb1 1; have k12 : w1.cell? ⟨g, 2, none⟩ = some (.int .i64 _) := blk_cell hb1 2; have k13 : w1.cell? ⟨g, 3, none⟩ = some (.slice A bs.length cp) := blk_cell hb1 3; have f11 : w1.frozen? ⟨g, 1, none⟩ = false := blk_frozen hb1 1; have f12 : w1.frozen? ⟨g, 2, none⟩ = false := blk_frozen hb1 2; have f13 : w1.frozen? ⟨g, 3, none⟩ = false := blk_frozen hb1 3; clear ho1 hg1 hat1 hb1)
            go_ret
            refine ⟨by rw [HT.out]; rfl, ?_, by repeat (first | exact (Step.refl _ _).grown HG1.out (fun k hk => .inl (hv k hk)) | refine Step.setCell ?_ (.inl hS) _)⟩
            rw [HT.out]
            exact (HR1.out.set_left _)
        · by_cases c4 : at_ = 4
          · subst c4
            clear c0 c1 c2 c3
            by_cases cb : b = 13
            · subst cb
              have ht : CR.take ⟨most, 4, left, bs, made⟩ 13 = (0, ⟨most, 5, left, bs, made⟩) := by first | (simp [CR.take, CR.must]; done) | simp [CR.take, CR.must, HCL.out]
              have HT := Aside0.mk ht
              clear ht
              go_enter Try.func97, Try.ntmps97
              go_wp2_with (go_at_call 109; refine (chunk_must_yes g _ 13 _ _ _ HB.out rfl).mono ?_; rintro e w' ⟨rfl, rfl⟩)
              go_ret
              refine ⟨by rw [HT.out]; rfl, ?_, by repeat (first | exact Step.refl _ _ | refine Step.setCell ?_ (.inl hS) _ | refine Step.drewN ?_ _ | refine Step.drew ?_ | refine Step.alloc ?_ _)⟩
              rw [HT.out]
              exact (HR.out.set_at _).mono (fun k h => .inl h)
            · have ht : CR.take ⟨most, 4, left, bs, made⟩ b = (4, ⟨most, 4, left, bs, made⟩) := by first | (simp [CR.take, CR.must, cb]; done) | simp [CR.take, CR.must, HCL.out, cb]
              have HCB := Aside0.mk cb
              clear cb
              have HT := Aside0.mk ht
              clear ht
              go_enter Try.func97, Try.ntmps97
              go_wp2_with (go_at_call 109; refine (chunk_must_no _ b 13 _ _ HCB.out).mono ?_; rintro e w' ⟨rfl, rfl⟩)
              go_ret
              refine ⟨by rw [HT.out]; rfl, ?_, Step.refl _ _⟩
              rw [HT.out]
              exact HR.out.mono (fun k h => .inl h)
          · by_cases c5 : at_ = 5
            · subst c5
              clear c0 c1 c2 c3 c4
              by_cases cb : b = 10
              · subst cb
                have ht : CR.take ⟨most, 5, left, bs, made⟩ 10 = (0, ⟨most, 0, left, bs, made⟩) := by first | (simp [CR.take, CR.must]; done) | simp [CR.take, CR.must, HCL.out]
                have HT := Aside0.mk ht
                clear ht
                go_enter Try.func97, Try.ntmps97
                go_wp2_with (go_at_call 109; refine (chunk_must_yes g _ 10 _ _ _ HB.out rfl).mono ?_; rintro e w' ⟨rfl, rfl⟩)
                go_ret
                refine ⟨by rw [HT.out]; rfl, ?_, by repeat (first | exact Step.refl _ _ | refine Step.setCell ?_ (.inl hS) _ | refine Step.drewN ?_ _ | refine Step.drew ?_ | refine Step.alloc ?_ _)⟩
                rw [HT.out]
                exact (HR.out.set_at _).mono (fun k h => .inl h)
              · have ht : CR.take ⟨most, 5, left, bs, made⟩ b = (4, ⟨most, 5, left, bs, made⟩) := by first | (simp [CR.take, CR.must, cb]; done) | simp [CR.take, CR.must, HCL.out, cb]
                have HCB := Aside0.mk cb
                clear cb
                have HT := Aside0.mk ht
                clear ht
                go_enter Try.func97, Try.ntmps97
                go_wp2_with (go_at_call 109; refine (chunk_must_no _ b 10 _ _ HCB.out).mono ?_; rintro e w' ⟨rfl, rfl⟩)
                go_ret
                refine ⟨by rw [HT.out]; rfl, ?_, Step.refl _ _⟩
                rw [HT.out]
                exact HR.out.mono (fun k h => .inl h)
            · by_cases c6 : at_ = 6
              · subst c6
                clear c0 c1 c2 c3 c4 c5
                by_cases cl : left = 0
                · subst cl
                  by_cases cb : b = 13
                  · subst cb
                    have ht : CR.take ⟨most, 6, 0, bs, made⟩ 13 = (0, ⟨most, 6, -1, bs, made⟩) := by simp [CR.take, CR.must]
                    have HT := Aside0.mk ht
                    clear ht
                    go_enter Try.func97, Try.ntmps97
                    go_wp2_with (go_at_call 109; refine (chunk_must_yes g _ 13 _ _ _ (blk_set HB.out 2 _) rfl).mono ?_; rintro e w' ⟨rfl, rfl⟩)
                    go_ret
                    refine ⟨by rw [HT.out]; rfl, ?_, by repeat (first | exact Step.refl _ _ | refine Step.setCell ?_ (.inl hS) _ | refine Step.drewN ?_ _ | refine Step.drew ?_ | refine Step.alloc ?_ _)⟩
                    rw [HT.out]
                    exact ((HR.out.set_left _).set_at _).mono (fun k h => .inl h)
                  · have ht : CR.take ⟨most, 6, 0, bs, made⟩ b = (4, ⟨most, 6, -1, bs, made⟩) := by simp [CR.take, CR.must, cb]
                    have HT := Aside0.mk ht
                    clear ht
                    have HCB := Aside0.mk cb
                    clear cb
                    go_enter Try.func97, Try.ntmps97
                    go_wp2_with (go_at_call 109; refine (chunk_must_no _ b 13 _ _ HCB.out).mono ?_; rintro e w' ⟨rfl, rfl⟩)
                    go_ret
                    refine ⟨by rw [HT.out]; rfl, ?_, by repeat (first | exact Step.refl _ _ | refine Step.setCell ?_ (.inl hS) _ | refine Step.drewN ?_ _ | refine Step.drew ?_ | refine Step.alloc ?_ _)⟩
                    rw [HT.out]
                    exact (HR.out.set_left _).mono (fun k h => .inl h)
                · have cl2 : ((left : Int) == 0) = false := by simpa using cl
                  have cl3 : ¬ left = 0 := cl
                  clear cl
                  have HCL := Aside0.mk cl3
                  clear cl3
                  by_cases cb : b = 10
                  · subst cb
                    have ht : CR.take ⟨most, 6, left, bs, made⟩ 10 = (0, ⟨most, 7, left, bs, made⟩) := by first | (simp [CR.take, CR.must]; done) | simp [CR.take, CR.must, HCL.out]
                    have HT := Aside0.mk ht
                    clear ht
                    go_enter Try.func97, Try.ntmps97
                    go_wp2_with (go_at_call 109; refine (chunk_must_yes g _ 10 _ _ _ HB.out rfl).mono ?_; rintro e w' ⟨rfl, rfl⟩)
                    go_ret
                    refine ⟨by rw [HT.out]; rfl, ?_, by repeat (first | exact Step.refl _ _ | refine Step.setCell ?_ (.inl hS) _ | refine Step.drewN ?_ _ | refine Step.drew ?_ | refine Step.alloc ?_ _)⟩
                    rw [HT.out]
                    exact (HR.out.set_at _).mono (fun k h => .inl h)
                  · have ht : CR.take ⟨most, 6, left, bs, made⟩ b = (4, ⟨most, 6, left, bs, made⟩) := by first | (simp [CR.take, CR.must, cb]; done) | simp [CR.take, CR.must, HCL.out, cb]
                    have HCB := Aside0.mk cb
                    clear cb
                    have HT := Aside0.mk ht
                    clear ht
                    go_enter Try.func97, Try.ntmps97
                    go_wp2_with (go_at_call 109; refine (chunk_must_no _ b 10 _ _ HCB.out).mono ?_; rintro e w' ⟨rfl, rfl⟩)
                    go_ret
                    refine ⟨by rw [HT.out]; rfl, ?_, Step.refl _ _⟩
                    rw [HT.out]
                    exact HR.out.mono (fun k h => .inl h)
              · have c7 : 6 < at_ := by omega
                have d0 : ((at_ : Int) == 0) = false := by simpa using c0
                have d1 : ((at_ : Int) == 1) = false := by simpa using c1
                have d2 : ((at_ : Int) == 2) = false := by simpa using c2
                have d3 : ((at_ : Int) == 3) = false := by simpa using c3
                have d4 : ((at_ : Int) == 4) = false := by simpa using c4
                have d5 : ((at_ : Int) == 5) = false := by simpa using c5
                have d6 : ((at_ : Int) == 6) = false := by simpa using c6
                by_cases cb : b = 10
                · subst cb
                  have ht : CR.take ⟨most, at_, left, bs, made⟩ 10 = (0, ⟨most, 7, left, bs, made⟩) := by simp [CR.take, CR.must, c0, c1, c2, c3, c4, c5, c6]
                  clear c0 c1 c2 c3 c4 c5 c6
                  have HT := Aside0.mk ht
                  clear ht
                  go_enter Try.func97, Try.ntmps97
                  go_wp2_with (go_at_call 109; refine (chunk_must_yes g _ 10 _ _ _ HB.out rfl).mono ?_; rintro e w' ⟨rfl, rfl⟩)
                  go_ret
                  refine ⟨by rw [HT.out]; rfl, ?_, by repeat (first | exact Step.refl _ _ | refine Step.setCell ?_ (.inl hS) _ | refine Step.drewN ?_ _ | refine Step.drew ?_ | refine Step.alloc ?_ _)⟩
                  rw [HT.out]
                  exact (HR.out.set_at _).mono (fun k h => .inl h)
                · have ht : CR.take ⟨most, at_, left, bs, made⟩ b = (4, ⟨most, at_, left, bs, made⟩) := by simp [CR.take, CR.must, c0, c1, c2, c3, c4, c5, c6, cb]
                  clear c0 c1 c2 c3 c4 c5 c6
                  have HCB := Aside0.mk cb
                  clear cb
                  have HT := Aside0.mk ht
                  clear ht
                  go_enter Try.func97, Try.ntmps97
                  go_wp2_with (go_at_call 109; refine (chunk_must_no _ b 10 _ _ HCB.out).mono ?_; rintro e w' ⟨rfl, rfl⟩)
                  go_ret
                  refine ⟨by rw [HT.out]; rfl, ?_, Step.refl _ _⟩
                  rw [HT.out]
                  exact HR.out.mono (fun k h => .inl h)
end Go.Proofs.Ytncpicfnlnkndaa.Wire
