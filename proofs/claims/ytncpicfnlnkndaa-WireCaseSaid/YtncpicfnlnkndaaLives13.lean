/- The walk of inquestlaw13.lives: one request is read. -/
import Derived.Test.YtncpicfnlnkndaaWireM
import Derived.Lib.SlBytesConst
import Derived.WalkKit
import Derived.Deep.QuietTactic
import Derived.BigQuiet
import Derived.WalkLawsBesides
import Derived.WalkSpells
import Derived.Lib.Hide
import Derived.Outline
set_option linter.unusedVariables false
set_option linter.unusedSimpArgs false
namespace Go.Proofs.Ytncpicfnlnkndaa.Wire
open Go.RowKit Go.Proofs.YtncpicfnlnkndaaW.PrintWords Go.Proofs.Ytncpicfnlnkndaa.Mem Go.Proofs.Ytncpicfnlnkndaa.PA

def livesL : List Int := [71, 69, 84, 32, 47, 97, 32, 72, 84, 84, 80, 47, 49, 46, 49, 13, 10, 13, 10]
theorem lives_run2 : (runW WS.fresh livesL 0).2 = (19, 0) := by decide +kernel
theorem lives_run1 : ((runW WS.fresh livesL 0).1.map fun y => y.f.target.data.toList) = some [47, 97] := by decide +kernel
theorem lives_run : ∃ y, runW WS.fresh livesL 0 = (some y, 19, 0) ∧ y.f.target = ⟨#[47, 97]⟩ := by
  have h1 := lives_run1
  have h2 := lives_run2
  rcases h : runW WS.fresh livesL 0 with ⟨_ | y, q⟩
  · rw [h] at h1
    cases h1
  · rw [h] at h1 h2
    simp only [Option.map_some, Option.some.injEq] at h1
    dsimp only at h2
    subst h2
    refine ⟨y, rfl, ?_⟩
    have h3 : y.f.target.toList = [47, 97] := by rw [ByteArray.toList_eq]; exact h1
    exact lit_of h3
theorem whole_some {A : Option Addr} {n c : Nat} {l : List Int} {w : World} {y : WS} {m : Int} (hl : ReadsInt w .u8 A n l) (hn : n ≤ 140737488351232) (hrng : ∀ j, j < n → 0 ≤ l.getD j 0 ∧ l.getD j 0 ≤ 255) (h : runW WS.fresh l 0 = (some y, m, 0)) :
    Calls Try.prog 15 #[.slice A n c] w fun e w' => WholeSome y m w e w' ∧ Below w.heap.size w w' :=
  (wire_Whole A n c l w hl hn hrng).mono fun e w' hp => by unfold WholePost at hp; rw [h] at hp; exact hp
theorem whole_none {A : Option Addr} {n c : Nat} {l : List Int} {w : World} {e0 : Int} (hl : ReadsInt w .u8 A n l) (hn : n ≤ 140737488351232) (hrng : ∀ j, j < n → 0 ≤ l.getD j 0 ∧ l.getD j 0 ≤ 255) (h : runW WS.fresh l 0 = (none, 0, e0)) :
    Calls Try.prog 15 #[.slice A n c] w fun e w' => e = .returned (.tuple #[noReq, .int .i64 0, .int .i64 e0]) ∧ Below w.heap.size w w' :=
  (wire_Whole A n c l w hl hn hrng).mono fun e w' hp => by unfold WholePost at hp; rw [h] at hp; exact hp
theorem lit_reads (w : World) (e : TypeId) (fr : Nat × Nat) (l : List Int) (hl : l.length ≤ 9223372036854775807) : ReadsInt (w.alloc (.cells (nums .u8 l).toArray e fr)) .u8 (some ⟨w.heap.size, 0, none⟩) l.length l := by
  refine ⟨rfl, hl, fun _ => ⟨_, rfl, fun j hj => ?_⟩⟩
  rw [add_plain, cell_of_row _ _ _ _ _ _ (heap_alloc_new w _)]
  simp [nums, hj, List.getD_eq_getElem?_getD]
theorem wire_lives (w : World) : Calls Try.prog 19 #[] w fun e w' => e = .returned (.bool true) ∧ Below w.heap.size w w' := by
  obtain ⟨y, hy, ht⟩ := lives_run
  have kc := fun (w : World) (C : Array Value) (n c : Nat) => Lib.run_convert_bytes_const (P := Try.prog) w 22 5 C n c Try.underlying22 Try.underlying5
  have hrd := Aside0.mk (lit_reads w 5 (19, 20) livesL (by decide))
  have hrng : Aside0 (∀ j, j < 19 → 0 ≤ livesL.getD j 0 ∧ livesL.getD j 0 ≤ 255) := ⟨by decide⟩
  have HY := Aside0.mk hy
  clear hy
  obtain ⟨⟨made, bad, whole, head, lines, method, target, token, s0, s1, s2, left, inBody⟩, line, body, ch⟩ := y
  dsimp only at ht
  subst ht
  go_enter Try.func19, Try.ntmps19
  go_wp2_with (go_at_call 15; refine (whole_some (m := 19) hrd.out (by decide) hrng.out HY.out).mono ?_; rintro e w1 ⟨⟨A2, c2, rfl, ho1⟩, hb1⟩; have HB1 := Aside0.mk hb1; clear ho1 hb1)
  go_ret
  exact ⟨rfl, ((below_alloc (Below.refl _ _) _).trans (HB1.out.mono (by simp))).alloc (Nat.le_trans (by simp) HB1.out.size) _⟩
end Go.Proofs.Ytncpicfnlnkndaa.Wire
