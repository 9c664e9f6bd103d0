/- The walks of wire.small and wire.split: a line's name in small letters, and its value. -/
import Derived.Test.YtncpicfnlnkndaaChunkC
import Derived.Test.YtncpicfnlnkndaaSpec
import Derived.WalkKit
import Derived.Deep.QuietTactic
import Derived.BigQuiet
import Derived.WalkLawsBesides
import Derived.WalkSpells
import Derived.Lib.Hide
import Derived.Outline
set_option linter.unusedVariables false
set_option linter.unusedSimpArgs false
namespace Go.Proofs.Ytncpicfnlnkndaa.Wire
open Go.RowKit Go.Proofs.YtncpicfnlnkndaaW.PrintWords Go.Proofs.Ytncpicfnlnkndaa.Mem

/-- A row of bytes that a conversion made: its cells, and the mark behind them. -/
def Marked (W : World) (g : Nat) (xs : List Int) : Prop :=
  ∃ cs : Array Value, W.heap[g]? = some (.cells cs 5 (cs.size, cs.size + 1)) ∧ xs.length ≤ cs.size ∧ ∀ j, j < xs.length → cs[j]? = some (.int .u8 (xs.getD j 0))
theorem Marked.made (W : World) (s : ByteArray) : Marked (Lib.bytesWorld W 5 s) W.heap.size (bytesOf s) := by
  refine ⟨_, Lib.bytesWorld_at_new W _ s, by rw [bytesOf_length]; simp [Lib.bytesCells], fun j hj => ?_⟩
  rw [bytesOf_length] at hj
  have h1 := Lib.bytesWorld_cell W 5 s j hj
  rw [cell_of_row _ _ _ _ _ _ (Lib.bytesWorld_at_new W _ s)] at h1
  rw [h1]
  have h' : j < s.data.toList.length := by rw [data_length]; exact hj
  simp [bytesOf, List.getD_eq_getElem?_getD, List.getElem?_eq_getElem h']
theorem Marked.cell {W : World} {g : Nat} {xs : List Int} (h : Marked W g xs) (i : Nat) (hi : i < xs.length) : W.cell? ⟨g, i, none⟩ = some (.int .u8 (xs.getD i 0)) := by
  obtain ⟨cs, hb, hl, ht⟩ := h
  rw [cell_of_row _ _ _ _ _ _ hb]
  exact ht i hi
theorem Marked.frozen {W : World} {g : Nat} {xs : List Int} (h : Marked W g xs) (i : Nat) (hi : i < xs.length) : W.frozen? ⟨g, i, none⟩ = false := by
  obtain ⟨cs, hb, hl, ht⟩ := h
  simp [World.frozen?, hb]
  omega
theorem Marked.set_ {W : World} {g : Nat} {xs : List Int} (h : Marked W g xs) (i : Nat) (hi : i < xs.length) (x : Int) : Marked (W.setCell ⟨g, i, none⟩ (.int .u8 x)) g (xs.set i x) := by
  obtain ⟨cs, hb, hl, ht⟩ := h
  refine ⟨cs.setIfInBounds i (.int .u8 x), ?_, by simpa using hl, fun j hj => ?_⟩
  · simp [World.setCell, Array.getElem?_modify, hb]
  · simp only [List.length_set] at hj
    by_cases hij : i = j
    · subst hij
      rw [Array.getElem?_setIfInBounds_self_of_lt (by omega)]
      simp [List.getD_eq_getElem?_getD, hj]
    · rw [Array.getElem?_setIfInBounds_ne hij, ht j hj]
      simp [List.getD_eq_getElem?_getD, List.getElem?_set_ne hij]

/-- The letters ahead of i are small. -/
def lowered (l : List Int) (i : Nat) : List Int := (l.take i).map Spec.lower ++ l.drop i
theorem lowered_length (l : List Int) (i : Nat) : (lowered l i).length = l.length := by simp [lowered]; omega
theorem lowered_at (l : List Int) (i : Nat) (h : i < l.length) : (lowered l i).getD i 0 = l.getD i 0 := by
  simp [lowered, List.getD_eq_getElem?_getD, List.getElem?_append, Nat.min_eq_left (Nat.le_of_lt h)]
theorem lowered_succ (l : List Int) (i : Nat) (h : i < l.length) : lowered l (i + 1) = (lowered l i).set i (Spec.lower (l.getD i 0)) := by
  apply List.ext_getElem?
  intro j
  have hl : (l.take i).length = i := by simp; omega
  rcases Nat.lt_trichotomy j i with hj | hj | hj
  · rw [List.getElem?_set_ne (by omega)]
    simp [lowered, List.getElem?_append, List.getElem?_take, hj, show j < i + 1 by omega, show i ≤ l.length by omega, show i + 1 ≤ l.length by omega, Nat.min_eq_left]
  · subst hj
    rw [List.getElem?_set_self (by rw [lowered_length]; exact h)]
    simp [lowered, List.getElem?_append, List.getElem?_take, h, show j + 1 ≤ l.length by omega, Nat.min_eq_left]
  · rw [List.getElem?_set_ne (by omega)]
    simp [lowered, List.getElem?_append, List.getElem?_take, List.getElem?_drop, show ¬ j < i by omega, show ¬ j < i + 1 by omega, show i ≤ l.length by omega, show i + 1 ≤ l.length by omega, Nat.min_eq_left]
    congr 1
    omega
theorem lowered_same (l : List Int) (i : Nat) (h : i < l.length) (hs : Spec.lower (l.getD i 0) = l.getD i 0) : lowered l (i + 1) = lowered l i := by
  rw [lowered_succ l i h, hs]
  have h2 := lowered_at l i h
  rw [List.getD_eq_getElem?_getD, List.getElem?_eq_getElem (by rw [lowered_length]; exact h)] at h2
  simp only [Option.getD_some] at h2
  rw [← h2, List.set_getElem_self]
theorem lowered_all (l : List Int) : lowered l l.length = l.map Spec.lower := by simp [lowered]
theorem lowered_zero (l : List Int) : lowered l 0 = l := by simp [lowered]
theorem bytesOf_range (s : ByteArray) (i : Nat) : 0 ≤ (bytesOf s).getD i 0 ∧ (bytesOf s).getD i 0 ≤ 255 := by
  have h := rd_bytesOf s (i : Int)
  have h2 := bt_range s (i : Int)
  unfold rd at h
  rw [Int.toNat_natCast] at h
  rw [h]
  exact h2

/-- What holds at the head of small's loop. -/
def SmallRel (w wr : World) (s : ByteArray) (k : Nat) : Prop := Marked wr w.heap.size (lowered (bytesOf s) k) ∧ Below w.heap.size w wr

theorem wire_small (s : ByteArray) (w : World) (hs : s.size ≤ 140737488355328) :
    Calls Try.prog 107 #[.string s] w fun e w' => e = .returned (.string (Spec.small s)) ∧ Below w.heap.size w w' := by
  have kb := fun W => print_bytes (P := Try.prog) 9 22 5 Try.underlying9 Try.underlying22 Try.underlying5 s W
  have hlen := Aside0.mk (bytesOf_length s)
  have h00 : Aside0 (SmallRel w (Lib.bytesWorld w 5 s) s 0) := ⟨by rw [lowered_zero]; exact Marked.made w s, bytes_below (Below.refl _ _) (Nat.le_refl _) _ _⟩
  go_enter Try.func107, Try.ntmps107
  go_wp2
  go_loopw [10] (fun i wr => ∃ k : Nat, k ≤ s.size ∧ i = .int .i64 k ∧ Aside0 (SmallRel w wr s k)) (fun i _ => s.size - (intOf i).toNat)
  case atStart => exact ⟨0, Nat.zero_le _, rfl, h00⟩
  case round =>
    obtain ⟨k, hk, rfl, HR⟩ := hrel
    by_cases hlt : k < s.size
    · have hl1 : k < (lowered (bytesOf s) k).length := by rw [lowered_length, hlen.out]; exact hlt
      have hc := HR.out.1.cell k hl1
      have hf := HR.out.1.frozen k hl1
      rw [lowered_at _ _ (by rw [hlen.out]; exact hlt)] at hc
      have hr := bytesOf_range s k
      have hst := fun x => HR.out.1.set_ k hl1 x
      generalize hx : (bytesOf s).getD k 0 = c at *
      have HX := Aside0.mk hx
      clear hx
      have HST := Aside0.mk hst
      clear hst
      clear hl1
      by_cases hu : 65 ≤ c ∧ c ≤ 90
      · obtain ⟨hu1, hu2⟩ := hu
        go_wp2
        go_roundw
        case rel =>
          refine ⟨k + 1, by omega, by go_num, ⟨?_, HR.out.2.setCell (Nat.le_refl _) _⟩⟩
          rw [lowered_succ _ _ (by rw [hlen.out]; exact hlt), HX.out, show Spec.lower c = c + 32 from by unfold Spec.lower; rw [if_pos ⟨hu1, hu2⟩]]
          exact HST.out _
        case measure => simp [intOf]; omega
      · have hfin : lowered (bytesOf s) (k + 1) = lowered (bytesOf s) k := lowered_same _ _ (by rw [hlen.out]; exact hlt) (by rw [HX.out]; unfold Spec.lower; rw [if_neg hu])
        have HFIN := Aside0.mk hfin
        clear hfin
        by_cases hu1 : 65 ≤ c
        · have hu2 : ¬ c ≤ 90 := by omega
          clear hu
          go_wp2
          go_roundw
          case rel => exact ⟨k + 1, by omega, by go_num, ⟨by rw [HFIN.out]; exact HR.out.1, HR.out.2⟩⟩
          case measure => simp [intOf]; omega
        · clear hu
          go_wp2
          go_roundw
          case rel => exact ⟨k + 1, by omega, by go_num, ⟨by rw [HFIN.out]; exact HR.out.1, HR.out.2⟩⟩
          case measure => simp [intOf]; omega
    · obtain rfl : k = s.size := by omega
      have hcv : (convert 22 9 (.slice (some ⟨w.heap.size, 0, none⟩) s.size (grownCap w s.size 0 5))).run Try.prog wr = .ok (.string (Spec.small s)) wr := by
        refine run_convert_bytes_arg wr 22 5 Try.underlying22 Try.underlying5 w.heap.size 0 s.size _ ((bytesOf s).map Spec.lower) (by simp [hlen.out]) (fun i hi => ?_) 9 Try.underlying9
        have h1 := HR.out.1
        rw [← hlen.out, lowered_all] at h1
        have h2 := h1.cell i (by simpa [hlen.out] using hi)
        rw [Nat.zero_add]
        exact h2
      go_wp2
      go_ret
      exact ⟨rfl, HR.out.2⟩
end Go.Proofs.Ytncpicfnlnkndaa.Wire
