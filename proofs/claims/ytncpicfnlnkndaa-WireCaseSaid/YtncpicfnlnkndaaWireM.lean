/- The walk of wire.Whole. -/
import Derived.Test.YtncpicfnlnkndaaInv
import Derived.WalkKit
import Derived.Deep.QuietTactic
import Derived.BigQuiet
import Derived.WalkLawsBesides
import Derived.WalkSpells
import Derived.Lib.Hide
import Derived.Outline
set_option linter.unusedVariables false
set_option linter.unusedSimpArgs false
namespace Go.Proofs.Ytncpicfnlnkndaa.Wire
open Go.RowKit Go.Proofs.YtncpicfnlnkndaaW.PrintWords Go.Proofs.Ytncpicfnlnkndaa.Mem Go.Proofs.Ytncpicfnlnkndaa.PA

/-- A reader fed byte by byte: what came whole, behind how many bytes, or why nothing did. -/
def runW : WS → List Int → Nat → Option WS × Int × Int
  | _, [], _ => (none, 0, 3)
  | x, b :: t, i =>
    if (x.put b).1.2 ≠ 0 then (none, 0, (x.put b).1.2)
    else if (x.put b).1.1 = true then (some (x.put b).2, (i : Int) + 1, 0)
    else runW (x.put b).2 t (i + 1)

theorem runW_cons (x : WS) (b : Int) (t : List Int) (i : Nat) : runW x (b :: t) i =
    if (x.put b).1.2 ≠ 0 then (none, 0, (x.put b).1.2) else if (x.put b).1.1 = true then (some (x.put b).2, (i : Int) + 1, 0) else runW (x.put b).2 t (i + 1) := rfl
def WholeSome (y : WS) (n : Int) (w : World) (e : Ending) (w' : World) : Prop :=
  ∃ A c, e = .returned (.tuple #[reqV y.f.method y.f.target y.f.token (.slice A y.body.length c), .int .i64 n, .int .i64 0]) ∧ Own w' (fun k => w.heap.size ≤ k) (.slice A y.body.length c) y.body
def WholePost (l : List Int) (w : World) (e : Ending) (w' : World) : Prop :=
  (match (runW WS.fresh l 0).1 with
   | none => e = .returned (.tuple #[noReq, .int .i64 0, .int .i64 (runW WS.fresh l 0).2.2])
   | some y => WholeSome y (runW WS.fresh l 0).2.1 w e w') ∧ Below w.heap.size w w'

theorem below_setR {w W : World} (h : Below w.heap.size w W) (i : Nat) (u : Value) : Below w.heap.size w (W.setCell ⟨w.heap.size, i, none⟩ u) := h.setCell (Nat.le_refl _) u
theorem _root_.Go.Proofs.Ytncpicfnlnkndaa.Mem.Own.setR {w W : World} {v : Value} {xs : List Int} (h : Own W (fun q => w.heap.size < q) v xs) (i : Nat) (u : Value) : Own (W.setCell ⟨w.heap.size, i, none⟩ u) (fun q => w.heap.size < q) v xs :=
  h.setCell (fun k hk => by dsimp only; omega) u
theorem res_block {W : World} {r : Nat} {t : Nat} (h : W.heap[r]? = some (.cells #[.string ⟨#[]⟩, .string ⟨#[]⟩, .string ⟨#[]⟩, .slice none 0 0] t (0, 0))) (m g k : ByteArray) (v : Value) (o : Obj) :
    (((((W.setCell ⟨r, 0, none⟩ (.string m)).setCell ⟨r, 1, none⟩ (.string g)).setCell ⟨r, 2, none⟩ (.string k)).setCell ⟨r, 3, none⟩ v).alloc o).heap[r]? = some (.cells #[.string m, .string g, .string k, v] t (0, 0)) := by
  have h4 : ((((W.setCell ⟨r, 0, none⟩ (.string m)).setCell ⟨r, 1, none⟩ (.string g)).setCell ⟨r, 2, none⟩ (.string k)).setCell ⟨r, 3, none⟩ v).heap[r]? = some (.cells #[.string m, .string g, .string k, v] t (0, 0)) := by
    simpa using blk_set (blk_set (blk_set (blk_set h 0 (.string m)) 1 (.string g)) 2 (.string k)) 3 v
  exact ((below_alloc (Below.refl _ _) o).block _ (blk_lt h4)).trans h4
theorem put_whole {x : WS} {b : Int} (h : (x.put b).1.1 = true) : (x.put b).2.f.whole = true := by
  revert h
  unfold WS.put
  split
  · intro h; cases h
  · split
    · exact id
    · exact id
theorem WholePost.none_ {l : List Int} {w w' : World} {e0 : Int} (h : runW WS.fresh l 0 = (none, 0, e0)) (hb : Below w.heap.size w w') : WholePost l w (.returned (.tuple #[noReq, .int .i64 0, .int .i64 e0])) w' := by
  unfold WholePost
  rw [h]
  exact ⟨rfl, hb⟩
theorem WholePost.some_ {l : List Int} {w w' : World} {y : WS} {n : Int} {e : Ending} (h : runW WS.fresh l 0 = (some y, n, 0)) (he : WholeSome y n w e w') (hb : Below w.heap.size w w') : WholePost l w e w' := by
  unfold WholePost
  rw [h]
  exact ⟨he, hb⟩
/-- What holds at the head of Whole's loop. -/
structure WRel (w wr : World) (l : List Int) (k : Nat) (x : WS) : Prop where
  rep : WRep wr (fun q => w.heap.size < q) (w.heap.size + 1) x
  inv : x.Inv
  run : runW WS.fresh l 0 = runW x (l.drop k) k
  res : wr.heap[w.heap.size]? = some (.cells #[.string ⟨#[]⟩, .string ⟨#[]⟩, .string ⟨#[]⟩, .slice none 0 0] 26 (0, 0))
  below : Below w.heap.size w wr

set_option maxHeartbeats 4000000 in
theorem wire_Whole (A : Option Addr) (n c : Nat) (l : List Int) (w : World) (hl : ReadsInt w .u8 A n l) (hn : n ≤ 140737488351232) (hrng : ∀ j, j < n → 0 ≤ l.getD j 0 ∧ l.getD j 0 ≤ 255) :
    Calls Try.prog 15 #[.slice A n c] w (WholePost l w) := by
  have HL := Aside0.mk hl
  have HRNG := Aside0.mk hrng
  clear hl hrng
  go_enter Try.func15, Try.ntmps15
  go_wp2_with (go_at_call 20; refine (wire_New _).mono ?_; rintro e w1 ⟨rfl, hr1, hb1⟩; have HR1 := Aside0.mk hr1; have HB1 := Aside0.mk hb1; clear hr1 hb1)
  have h0 : Aside0 (WRel w w1 l 0 WS.fresh) := by
    refine ⟨⟨?_, WS.fresh_inv, by simp, ?_, (below_alloc (Below.refl _ _) _).trans (HB1.out.mono (by simp))⟩⟩
    · have hr := HR1.out
      rw [show (w.alloc (.cells #[.string ⟨#[]⟩, .string ⟨#[]⟩, .string ⟨#[]⟩, .slice none 0 0] 26)).heap.size = w.heap.size + 1 from by simp] at hr
      exact hr.mono (fun k hk => by omega)
    · exact (HB1.out.block _ (by simp)).trans (heap_alloc_new w _)
  clear HR1 HB1
  go_loopw [15] (fun i wr => ∃ k x, k ≤ n ∧ i = .int .i64 k ∧ Aside0 (WRel w wr l k x)) (fun i _ => n - (intOf i).toNat)
  case atStart => exact ⟨0, _, Nat.zero_le _, rfl, h0⟩
  case round =>
    obtain ⟨k, x, hk, rfl, HR⟩ := hrel
    clear h0
    have hres := HR.out.res
    by_cases hlt : k < n
    · obtain ⟨ad, rfl, hc⟩ := (HL.out.below HR.out.below).at_ (k : Int) (by omega) (by omega)
      rw [Int.toNat_natCast] at hc
      have hb := HRNG.out k hlt
      have hdrop : l.drop k = l.getD k 0 :: l.drop (k + 1) := by
        have hkl : k < l.length := by rw [HL.out.1]; exact hlt
        rw [List.drop_eq_getElem_cons hkl, List.getD_eq_getElem?_getD, List.getElem?_eq_getElem hkl]
        rfl
      have hrd : rd l (k : Int) = l.getD k 0 := by unfold rd; rw [Int.toNat_natCast]
      rw [hrd] at hc
      generalize l.getD k 0 = b at *
      have hput := wire_Put x _ (w.heap.size + 1) b wr HR.out.rep hb.1 hb.2 (HR.out.inv.fit b)
      have hrun := HR.out.run
      rw [hdrop, runW_cons] at hrun
      have hinv := @WS.put_inv x b HR.out.inv
      have hwh := @put_whole x b
      have HWH := Aside0.mk hwh
      clear hwh
      clear hdrop hrd
      generalize x.put b = p at *
      obtain ⟨⟨done, e0⟩, x1⟩ := p
      dsimp only at *
      by_cases he : e0 = 0
      · subst he
        cases done
        · simp only [ne_eq, not_true_eq_false, if_false, Bool.false_eq_true] at hrun
          have hi1 := hinv rfl rfl
          have HPUT := Aside0.mk hput
          clear hput
          have HI1 := Aside0.mk hi1
          clear hi1
          have HRUN := Aside0.mk hrun
          clear hrun
          clear hinv
          go_wp2_with (go_at_call 21; refine HPUT.out.mono ?_; rintro e w1 ⟨rfl, hr1, hs1⟩; have HR1 := Aside0.mk hr1; have HS1 := Aside0.mk hs1; clear hr1 hs1)
          go_roundw
          case rel =>
            refine ⟨k + 1, x1, by omega, by go_num, ⟨⟨HR1.out.mono (fun q hq => ?_), HI1.out, HRUN.out, HS1.out.blk HR.out.res (by simp), Below.step HR.out.below HS1.out (HR.out.below.size) (fun q hq => Nat.le_of_lt hq)⟩⟩⟩
            rcases hq with hq | hq
            · exact hq
            · exact Nat.lt_of_lt_of_le (blk_lt HR.out.res) hq
          case measure => simp [intOf]; omega
        · simp only [ne_eq, not_true_eq_false, if_false, if_true] at hrun
          have HPUT := Aside0.mk hput
          clear hput
          have HRUN := Aside0.mk hrun
          clear hrun
          clear hinv
          go_wp2_with (first | (go_at_call 21; refine HPUT.out.mono ?_; rintro e w1 ⟨rfl, hr1, hs1⟩; have HR1 := Aside0.mk hr1; have HS1 := Aside0.mk hs1; have HRES := Aside0.mk (hs1.blk HR.out.res (by simp)); clear hr1 hs1) | (go_at_call 24; refine (wire_Take x1 _ _ _ HR1.out (HWH.out (by simp))).mono ?_; rintro e w2 ⟨A2, c2, rfl, hr2, ho2, hs2⟩; have HO2 := Aside0.mk ho2; have HS2 := Aside0.mk hs2; have HRES2 := Aside0.mk (hs2.blk HRES.out (by simp)); have hres1 := HRES2.out; have hlt2 := blk_lt hres1; have r0 : w2.cell? ⟨w.heap.size, 0, none⟩ = some (.string ⟨#[]⟩) := blk_cell hres1 0; have r1 : w2.cell? ⟨w.heap.size, 1, none⟩ = some (.string ⟨#[]⟩) := blk_cell hres1 1; have r2 : w2.cell? ⟨w.heap.size, 2, none⟩ = some (.string ⟨#[]⟩) := blk_cell hres1 2; have r3 : w2.cell? ⟨w.heap.size, 3, none⟩ = some (.slice none 0 0) := blk_cell hres1 3; have rz : ∀ i, w2.frozen? ⟨w.heap.size, i, none⟩ = false := blk_frozen hres1; clear hr2 ho2 hs2 hres1))
          have hz := blk_lt HR.out.res
          have ho3 : Own w2 (fun q => w.heap.size < q) (.slice A2 x1.body.length c2) x1.body := HO2.out.mono (fun q hq => by
            rcases hq.1 with h | h
            · exact h
            · exact Nat.lt_of_lt_of_le hz h)
          have hb2 : Below w.heap.size w w2 := Below.step (Below.step HR.out.below HS1.out (HR.out.below.size) (fun q hq => Nat.le_of_lt hq)) HS2.out (Nat.le_trans HR.out.below.size HS1.out.size) (fun q hq => by omega)
          have hbF := res_block HRES2.out x1.f.method x1.f.target x1.f.token (.slice A2 x1.body.length c2) (.cells #[.string x1.f.method, .string x1.f.target, .string x1.f.token, .slice A2 x1.body.length c2] 26)
          have q0 := blk_cell hbF 0
          have q1 := blk_cell hbF 1
          have q2 := blk_cell hbF 2
          have q3 := blk_cell hbF 3
          refine bodyPost_ret (v := .tuple #[reqV x1.f.method x1.f.target x1.f.token (.slice A2 x1.body.length c2), .int .i64 ((k : Int) + 1), .int .i64 0]) (by simp [results, Try.results15, go_sem, q0, q1, q2, q3]) rfl (WholePost.some_ HRUN.out ⟨A2, c2, rfl, ?_⟩ ?_)
          · refine Own.alloc (Own.mono (S := fun q => w.heap.size < q) ?_ (fun q hq => Nat.le_of_lt hq)) _
            exact (((ho3.setR _ _).setR _ _).setR _ _).setR _ _
          · refine Below.alloc ?_ (by simp [World.setCell]; omega) _
            exact below_setR (below_setR (below_setR (below_setR hb2 _ _) _ _) _ _) _ _
      · simp only [ne_eq, he, not_false_eq_true, if_true] at hrun
        have HPUT := Aside0.mk hput
        clear hput
        have HRUN := Aside0.mk hrun
        clear hrun
        clear hinv
        have d1 : ((e0 : Int) != 0) = true := by simpa using he
        clear he
        go_wp2_with (go_at_call 21; refine HPUT.out.mono ?_; rintro e w1 ⟨rfl, hr1, hs1⟩; have HR1 := Aside0.mk hr1; have HS1 := Aside0.mk hs1; have HRES := Aside0.mk (hs1.blk HR.out.res (by simp)); have hres1 := HRES.out; have r0 : w1.cell? ⟨w.heap.size, 0, none⟩ = some (.string ⟨#[]⟩) := blk_cell hres1 0; have r1 : w1.cell? ⟨w.heap.size, 1, none⟩ = some (.string ⟨#[]⟩) := blk_cell hres1 1; have r2 : w1.cell? ⟨w.heap.size, 2, none⟩ = some (.string ⟨#[]⟩) := blk_cell hres1 2; have r3 : w1.cell? ⟨w.heap.size, 3, none⟩ = some (.slice none 0 0) := blk_cell hres1 3; have rz : ∀ i, w1.frozen? ⟨w.heap.size, i, none⟩ = false := blk_frozen hres1; clear hr1 hs1 hres1)
        exact bodyPost_ret (v := .tuple #[noReq, .int .i64 0, .int .i64 e0]) (by simp [results, Try.results15, go_sem, r0, r1, r2, r3, rz, noReq, reqV]) rfl (WholePost.none_ HRUN.out (by repeat (first | (with_reducible refine below_setR ?_ _ _) | exact Below.step HR.out.below HS1.out (HR.out.below.size) (fun q hq => Nat.le_of_lt hq))))
    · have hk2 : k = n := by omega
      have hrun := HR.out.run
      rw [List.drop_of_length_le (by rw [HL.out.1]; omega)] at hrun
      rw [show runW x [] k = (none, 0, 3) from rfl] at hrun
      have HRUN := Aside0.mk hrun
      clear hrun
      clear hk2
      have r0 : wr.cell? ⟨w.heap.size, 0, none⟩ = some (.string ⟨#[]⟩) := blk_cell hres 0
      have r1 : wr.cell? ⟨w.heap.size, 1, none⟩ = some (.string ⟨#[]⟩) := blk_cell hres 1
      have r2 : wr.cell? ⟨w.heap.size, 2, none⟩ = some (.string ⟨#[]⟩) := blk_cell hres 2
      have r3 : wr.cell? ⟨w.heap.size, 3, none⟩ = some (.slice none 0 0) := blk_cell hres 3
      have rz : ∀ i, wr.frozen? ⟨w.heap.size, i, none⟩ = false := blk_frozen hres
      clear hres
      go_wp2
      exact bodyPost_ret (v := .tuple #[noReq, .int .i64 0, .int .i64 3]) (by simp [results, Try.results15, go_sem, r0, r1, r2, r3, rz, noReq, reqV]) rfl (WholePost.none_ HRUN.out (by repeat (first | (with_reducible refine below_setR ?_ _ _) | exact HR.out.below)))
end Go.Proofs.Ytncpicfnlnkndaa.Wire
