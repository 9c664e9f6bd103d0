/- The walk of inquestlaw13.WireNobody. -/
import Derived.Test.YtncpicfnlnkndaaLives13
import Derived.WalkKit
import Derived.Deep.QuietTactic
import Derived.BigQuiet
import Derived.WalkLawsBesides
import Derived.WalkSpells
import Derived.Lib.Hide
import Derived.Outline
set_option linter.unusedVariables false
set_option linter.unusedSimpArgs false
namespace Go.Proofs.Ytncpicfnlnkndaa.Wire
open Go.RowKit Go.Proofs.YtncpicfnlnkndaaW.PrintWords Go.Proofs.Ytncpicfnlnkndaa.Mem Go.Proofs.Ytncpicfnlnkndaa.PA

def WR.zero : WR := ⟨false, false, false, 0, 0, ⟨#[]⟩, ⟨#[]⟩, ⟨#[]⟩, false, false, false, 0, false⟩
set_option maxHeartbeats 4000000 in
theorem nobody_walk (b : Int) (w : World) (h0 : 0 ≤ b) (h1 : b ≤ 255) :
    Calls Try.prog 6 #[.int .u8 b] w fun e w' => e = .returned (.bool true) ∧ Below w.heap.size w w' := by
  have hbk : ∀ w1, Below (w.heap.size + 1) (w.alloc (.cells (WR.zero.cells (.slice none 0 0) (.slice none 0 0) (.pointer none)) 55)) w1 → WBlk w1 w.heap.size WR.zero (.slice none 0 0) (.slice none 0 0) (.pointer none) := fun w1 hb => (hb.block _ (by omega)).trans (heap_alloc_new w _)
  have HBK := Aside0.mk hbk
  clear hbk
  go_enter Try.func6, Try.ntmps6
  go_wp2_with (fail)
  refine (wire_Put_nil b _).mono ?_
  rintro e w1 ⟨rfl, rfl⟩
  go_wp2_with (fail)
  refine (wire_Put_plain _ _ b _ (HBK.out _ (Below.refl _ _)) rfl).mono ?_
  rintro e w1 ⟨rfl, rfl⟩
  go_wp2_with (fail)
  refine (wire_Take_nil _).mono ?_
  rintro e w2 ⟨rfl, hb2⟩
  have HB2 := Aside0.mk (hb2.mono (B' := w.heap.size + 1) (by simp))
  have hlt := hb2.size
  simp at hlt
  clear hb2
  go_wp2_with (fail)
  refine (wire_Take_no WR.zero w.heap.size _ _ _ _ (HBK.out _ (HB2.out.alloc hlt _)) rfl).mono ?_
  rintro e w3 ⟨rfl, hb3⟩
  have HB3 := Aside0.mk ((HB2.out.alloc hlt (.cells #[.string ⟨#[]⟩, .string ⟨#[]⟩, .string ⟨#[]⟩, .slice none 0 0] 26)).trans (hb3.mono (by simp; omega)))
  have hlt3 := hb3.size
  simp at hlt3
  have hlt4 : w.heap.size + 1 ≤ w3.heap.size := by omega
  clear hb3
  go_wp2_with (fail)
  refine (wire_Idle_nil _).mono ?_
  rintro e w4 ⟨rfl, rfl⟩
  go_wp2_with (fail)
  refine (wire_Idle w.heap.size _ 0 _ (HBK.out _ (HB3.out.alloc hlt4 _)) rfl).mono ?_
  rintro e w4 ⟨rfl, rfl⟩
  go_wp2_with (fail)
  refine (wire_lives _).mono ?_
  rintro e w5 ⟨rfl, hb5⟩
  have HB5 := Aside0.mk hb5
  clear hb5
  go_wp2_with (fail)
  go_ret
  refine ⟨rfl, ?_⟩
  have hb3 := HB3.out.mono (B' := w.heap.size) (by omega)
  exact (((below_alloc (Below.refl _ _) _).trans hb3).alloc (by omega) _).trans (HB5.out.mono (by simp; omega))
end Go.Proofs.Ytncpicfnlnkndaa.Wire
