/- The walk of inquestlaw13.WireCase. -/
import Derived.Test.YtncpicfnlnkndaaLaw13
import Derived.Test.YtncpicfnlnkndaaCase
import Derived.Deep.CutBlock
import Derived.Deep.DeepCutAuto
import Derived.WalkKit
import Derived.Deep.QuietTactic
import Derived.BigQuiet
import Derived.WalkLawsBesides
import Derived.WalkSpells
import Derived.Lib.Hide
import Derived.Outline
set_option linter.unusedVariables false
set_option linter.unusedSimpArgs false
namespace Go.Proofs.Ytncpicfnlnkndaa.Wire
open Go.RowKit Go.Proofs.YtncpicfnlnkndaaW.PrintWords Go.Proofs.Ytncpicfnlnkndaa.Mem Go.Proofs.Ytncpicfnlnkndaa.PA

def prev (cur : List Int) (k d : Nat) : Int := if k < d then 0 else cur.getD (k - d) 0
def stopK (cur l : List Int) (k : Nat) : Prop := prev cur k 2 = 13 ∧ prev cur k 1 = 10 ∧ l.getD k 0 = 13 ∧ (l.drop (k + 1)).head? = some 10
structure CaseRel (w W : World) (v : Value) (l : List Int) (k : Nat) (cur : List Int) (ln : Int) (nm : Bool) : Prop where
  own : Own W (fun q => w.heap.size ≤ q) v cur
  len : cur.length = l.length
  rest : cur.drop k = l.drop k
  rng : ∀ j, 0 ≤ cur.getD j 0 ∧ cur.getD j 0 ≤ 255
  l0 : 0 ≤ ln
  l1 : ln ≤ k
  key : ∀ u, CaseR (prev cur k 2) (prev cur k 1) (decide (0 < ln)) nm (l.drop k) u → CaseR 0 0 false false l (cur.take k ++ u)
  below : Below w.heap.size w W
structure CaseDone (w W : World) (v : Value) (l cur : List Int) : Prop where
  own : Own W (fun q => w.heap.size ≤ q) v cur
  len : cur.length = l.length
  rng : ∀ j, 0 ≤ cur.getD j 0 ∧ cur.getD j 0 ≤ 255
  key : CaseR 0 0 false false l cur
  below : Below w.heap.size w W
theorem drop_getD (l : List Int) (k : Nat) (h : k < l.length) : l.drop k = l.getD k 0 :: l.drop (k + 1) := by
  rw [List.drop_eq_getElem_cons h, List.getD_eq_getElem?_getD, List.getElem?_eq_getElem h]
  rfl
theorem take_getD (l : List Int) (k : Nat) (h : k < l.length) : l.take (k + 1) = l.take k ++ [l.getD k 0] := by
  rw [List.take_add_one, List.getElem?_eq_getElem h, List.getD_eq_getElem?_getD, List.getElem?_eq_getElem h]
  rfl
theorem CaseRel.at_ {w W : World} {v : Value} {l cur : List Int} {k : Nat} {ln : Int} {nm : Bool} (h : CaseRel w W v l k cur ln nm) {j : Nat} (hj : k ≤ j) : cur.getD j 0 = l.getD j 0 := by
  have h1 := h.rest
  have h2 : (cur.drop k)[j - k]? = (l.drop k)[j - k]? := by rw [h1]
  rw [List.getElem?_drop, List.getElem?_drop, show k + (j - k) = j from by omega] at h2
  rw [List.getD_eq_getElem?_getD, List.getD_eq_getElem?_getD, h2]
theorem CaseRel.stop {w W : World} {v : Value} {l cur : List Int} {k : Nat} {ln : Int} {nm : Bool} (h : CaseRel w W v l k cur ln nm) (hk : k < l.length) (hs : stopK cur l k) : CaseR 0 0 false false l cur := by
  have := h.key (l.drop k) (by
    rw [drop_getD l k hk]
    unfold CaseR
    unfold stopK at hs
    rw [if_pos hs])
  rwa [← h.rest, List.take_append_drop] at this
theorem CaseRel.end_ {w W : World} {v : Value} {l cur : List Int} {k : Nat} {ln : Int} {nm : Bool} (h : CaseRel w W v l k cur ln nm) (hk : ¬ k < l.length) : CaseR 0 0 false false l cur := by
  have := h.key [] (by
    rw [List.drop_of_length_le (by omega)]
    simp [CaseR])
  rwa [List.append_nil, List.take_of_length_le (by rw [h.len]; omega)] at this
theorem prev_set {cur : List Int} {k : Nat} {c : Int} (hk : k < cur.length) : prev (cur.set k c) (k + 1) 1 = c := by
  unfold prev
  rw [if_neg (by omega), List.getD_eq_getElem?_getD]
  simp [hk]
theorem prev_set2 {cur : List Int} {k : Nat} {c : Int} : prev (cur.set k c) (k + 1) 2 = prev cur k 1 := by
  unfold prev
  by_cases h : k = 0
  · rw [if_pos (by omega), if_pos (by omega)]
  · rw [if_neg (by omega), if_neg (by omega), List.getD_eq_getElem?_getD, List.getD_eq_getElem?_getD, show k + 1 - 2 = k - 1 from by omega, List.getElem?_set_ne (by omega)]
theorem set_same {cur : List Int} {k : Nat} (hk : k < cur.length) : cur.set k (cur.getD k 0) = cur := by
  rw [List.getD_eq_getElem?_getD, List.getElem?_eq_getElem hk]
  simp
/-- One round that did not stop. -/
theorem CaseRel.next {w W W' : World} {v : Value} {l cur : List Int} {k : Nat} {ln ln' : Int} {nm nm' : Bool} {c : Int} (h : CaseRel w W v l k cur ln nm) (hk : k < l.length) (hs : ¬ stopK cur l k)
    (ho : Own W' (fun q => w.heap.size ≤ q) v (cur.set k c)) (hb : Below w.heap.size w W') (hc : 0 ≤ c ∧ c ≤ 255)
    (hstep : ∀ t u, (l.drop (k + 1)) = t → CaseR (prev cur k 1) c (decide (0 < ln')) nm' t u →
      (if l.getD k 0 = 10 then c = l.getD k 0 ∧ CaseR (prev cur k 1) c true true t u
       else if l.getD k 0 = 58 then c = l.getD k 0 ∧ CaseR (prev cur k 1) c (decide (0 < ln)) false t u
       else (c = l.getD k 0 ∨ (decide (0 < ln) = true ∧ nm = true ∧ letter (l.getD k 0) = true ∧ c = flip (l.getD k 0))) ∧ CaseR (prev cur k 1) c (decide (0 < ln)) nm t u))
    (h0 : 0 ≤ ln') (h1 : ln' ≤ k + 1) : CaseRel w W' v l (k + 1) (cur.set k c) ln' nm' := by
  have hk2 : k < cur.length := by rw [h.len]; exact hk
  refine ⟨ho, by simp [h.len], ?_, ?_, h0, by omega, ?_, hb⟩
  · have h2 := h.rest
    rw [drop_getD l k hk, drop_getD cur k hk2] at h2
    rw [List.drop_set_of_lt (by omega)]
    injection h2
  · intro j
    by_cases hj : j = k
    · subst hj
      rw [List.getD_eq_getElem?_getD]
      simpa [hk2] using hc
    · have := h.rng j
      rw [List.getD_eq_getElem?_getD] at this ⊢
      rwa [List.getElem?_set_ne (by omega)]
  · intro u hu
    rw [prev_set hk2, prev_set2] at hu
    have h2 := h.key (c :: u) (by
      rw [drop_getD l k hk]
      unfold CaseR
      unfold stopK at hs
      rw [if_neg hs]
      exact hstep _ u rfl hu)
    have e1 : (cur.set k c).take (k + 1) = cur.take k ++ [c] := by
      rw [take_getD _ k (by simpa using hk2), List.take_set_of_le (by omega)]
      congr 2
      rw [List.getD_eq_getElem?_getD]
      simp [hk2]
    rw [e1, List.append_assoc]
    exact h2

theorem xor_flip {a : Int} (h : letter a = true) : bits BinOp.xor IntKind.u8 a 32 = flip a := by
  rw [letter_iff] at h
  have h2 : a = ((a.toNat : Nat) : Int) := by omega
  have h3 : ∀ n : Nat, n < 123 → letter n = true → bits BinOp.xor IntKind.u8 n 32 = flip n := by decide
  rw [h2]
  exact h3 _ (by omega) (by rw [← h2, letter_iff]; exact h)
set_option maxHeartbeats 4000000 in
set_option maxRecDepth 100000 in
theorem case_walk (A : Option Addr) (n c : Nat) (l : List Int) (which : Int) (w : World) (hl : ReadsInt w .u8 A n l) (hn : n ≤ c) (hn2 : n ≤ 140737488351232) (hrng : ∀ j, 0 ≤ l.getD j 0 ∧ l.getD j 0 ≤ 255) (hw0 : 0 ≤ which) (hw1 : which ≤ 18446744073709551615) :
    Calls Try.prog 4 #[.slice A n c, .int .u64 which] w fun e w' => e = .returned (.bool true) ∧ Below w.heap.size w w' := by
  have HL := Aside0.mk (hl.take_ (min n 1500) (by omega))
  have hrng2 : Aside0 (∀ j, 0 ≤ (l.take (min n 1500)).getD j 0 ∧ (l.take (min n 1500)).getD j 0 ≤ 255) := by
    refine ⟨fun j => ?_⟩
    have := hrng j
    rw [List.getD_eq_getElem?_getD, List.getElem?_take]
    split
    · rwa [List.getD_eq_getElem?_getD] at this
    · simp
  have hcut := ref01_Cut A n c 1500 w hn (by omega)
  have HCUT := Aside0.mk hcut
  clear hcut
  have hN : min n 1500 ≤ 1500 := by omega
  have hNc : min n 1500 ≤ c := by omega
  clear hl hrng
  generalize l.take (min n 1500) = l1 at *
  generalize min n 1500 = N at *
  go_enter Try.func4, Try.ntmps4
  go_upto_block 0 with (first | (go_at_call 13; refine HCUT.out.mono ?_; rintro e w ⟨rfl, rfl⟩) | (go_at_call 14; refine (ref01_Copy A N c l1 _ HL.out (by omega)).mono ?_; rintro e w1 ⟨A1, c1, rfl, ho1, hb1⟩; have HO1 := Aside0.mk ho1; have HB1 := Aside0.mk hb1; clear ho1 hb1))
  go_cut [6, 7, 8, 9] (fun v6 v7 v8 v9 wx => ∃ cur, Aside0 (CaseDone w wx (.slice A1 N c1) l1 cur))
  case first =>
    have h0 : Aside0 (CaseRel w w1 (.slice A1 N c1) l1 0 l1 0 false) := by
      refine ⟨⟨HO1.out, rfl, rfl, hrng2.out, by omega, by omega, fun u hu => ?_, HB1.out⟩⟩
      simpa [prev] using hu
    clear HO1 HB1 HCUT
    go_wp2_with (fail)
    go_loopw [6, 7, 8] (fun v6 v7 v8 wr => ∃ (k : Nat) (cur : List Int) (ln : Int) (nm : Bool), k ≤ N ∧ v6 = .int .i64 ln ∧ v7 = .bool nm ∧ v8 = .int .i64 k ∧ Aside0 (CaseRel w wr (.slice A1 N c1) l1 k cur ln nm)) (fun _ _ v8 _ => N - (intOf v8).toNat)
    case atStart => exact ⟨0, l1, 0, false, Nat.zero_le _, rfl, rfl, rfl, h0⟩
    case round =>
      obtain ⟨k, cur, ln, nm, hk, rfl, rfl, rfl, HR⟩ := hrel
      clear h0
      by_cases hlt : k < N
      · have hlen : l1.length = N := HL.out.1
        obtain ⟨g, hg, hcell⟩ : ∃ g, A1 = some ⟨g, 0, none⟩ ∧ ∀ j, j < N → wr.cell? ⟨g, j, none⟩ = some (.int .u8 (cur.getD j 0)) := by
          obtain ⟨g, cc, e2, _, _⟩ := HR.out.own.2.form (by rw [HR.out.len]; omega)
          injection e2 with e2
          refine ⟨g, e2, fun j hj => ?_⟩
          obtain ⟨ad, e3, hc⟩ := (Own.reads HR.out.own).2.2 (by omega)
          rw [e2] at e3
          injection e3 with e3
          subst e3
          have := hc j hj
          rwa [add_plain] at this
        subst hg
        have HCELL := Aside0.mk hcell
        clear hcell
        have hstop : Aside0 (stopK cur l1 k ↔ (2 ≤ k ∧ k + 1 < N ∧ cur.getD (k - 2) 0 = 13 ∧ cur.getD (k - 1) 0 = 10 ∧ cur.getD k 0 = 13 ∧ cur.getD (k + 1) 0 = 10)) := ⟨by
          have hk0 := HR.out.at_ (Nat.le_refl k)
          have hk1 := HR.out.at_ (show k ≤ k + 1 by omega)
          unfold stopK prev
          rw [hk0, hk1, List.head?_drop]
          by_cases h1 : k < 2
          · rw [if_pos h1]
            constructor
            · intro h; have := h.1; omega
            · intro h; omega
          · rw [if_neg h1, if_neg (show ¬ k < 1 by omega)]
            by_cases h2 : k + 1 < N
            · rw [List.getElem?_eq_getElem (by omega), List.getD_eq_getElem?_getD (i := k + 1), List.getElem?_eq_getElem (by omega)]
              simp
              omega
            · rw [List.getElem?_eq_none (by omega)]
              constructor
              · intro h; simp at h
              · intro h; omega⟩
        go_upto_region 7 with (fail)
        go_cut [65] (fun v65 wc => ∃ b, v65 = .bool b ∧ Aside0 (b = true ↔ stopK cur l1 k) ∧ wc = wr)
        case first =>
          by_cases h2 : 2 ≤ k
          · obtain ⟨q, rfl⟩ : ∃ q, k = q + 2 := ⟨k - 2, by omega⟩
            have b2 : decide ((2 : Int) ≤ ((q + 2 : Nat) : Int)) = true := decide_eq_true (by omega)
            by_cases h3 : q + 2 + 1 < N
            · have b3 : decide ((((q + 2 : Nat) : Int) + 1) < (N : Int)) = true := decide_eq_true (by omega)
              have hc0 := HCELL.out q (by omega)
              have hc1 := HCELL.out (q + 1) (by omega)
              have hc2 := HCELL.out (q + 2) (by omega)
              have hc3 := HCELL.out (q + 2 + 1) (by omega)
              rw [show q + 2 - 2 = q from by omega, show q + 2 - 1 = q + 1 from by omega] at hstop
              generalize cur.getD q 0 = a0 at hc0 hstop
              generalize cur.getD (q + 1) 0 = a1 at hc1 hstop
              generalize cur.getD (q + 2) 0 = a2 at hc2 hstop
              generalize cur.getD (q + 2 + 1) 0 = a3 at hc3 hstop
              rcases Decidable.em (a0 = 13) with ha13 | ha13
              rotate_left
              · have hn13 : (a0 == 13) = false := beq_eq_false_iff_ne.mpr ha13
                have HA13 := Aside0.mk ha13
                clear ha13
                go_wp2_with (fail)
                go_meet
                case rel => exact ⟨_, rfl, ⟨iff_of_false (by simp) (fun h => by have := hstop.out.mp h; have := HA13.out; omega)⟩, rfl⟩
              have hn13 : (a0 == 13) = true := beq_iff_eq.mpr ha13
              have HA13 := Aside0.mk ha13
              clear ha13
              rcases Decidable.em (a1 = 10) with ha15 | ha15
              rotate_left
              · have hn15 : (a1 == 10) = false := beq_eq_false_iff_ne.mpr ha15
                have HA15 := Aside0.mk ha15
                clear ha15
                go_wp2_with (fail)
                go_meet
                case rel => exact ⟨_, rfl, ⟨iff_of_false (by simp) (fun h => by have := hstop.out.mp h; have := HA15.out; omega)⟩, rfl⟩
              have hn15 : (a1 == 10) = true := beq_iff_eq.mpr ha15
              have HA15 := Aside0.mk ha15
              clear ha15
              rcases Decidable.em (a2 = 13) with ha17 | ha17
              rotate_left
              · have hn17 : (a2 == 13) = false := beq_eq_false_iff_ne.mpr ha17
                have HA17 := Aside0.mk ha17
                clear ha17
                go_wp2_with (fail)
                go_meet
                case rel => exact ⟨_, rfl, ⟨iff_of_false (by simp) (fun h => by have := hstop.out.mp h; have := HA17.out; omega)⟩, rfl⟩
              have hn17 : (a2 == 13) = true := beq_iff_eq.mpr ha17
              have HA17 := Aside0.mk ha17
              clear ha17
              rcases Decidable.em (a3 = 10) with ha19 | ha19
              rotate_left
              · have hn19 : (a3 == 10) = false := beq_eq_false_iff_ne.mpr ha19
                have HA19 := Aside0.mk ha19
                clear ha19
                go_wp2_with (fail)
                go_meet
                case rel => exact ⟨_, rfl, ⟨iff_of_false (by simp) (fun h => by have := hstop.out.mp h; have := HA19.out; omega)⟩, rfl⟩
              have hn19 : (a3 == 10) = true := beq_iff_eq.mpr ha19
              have HA19 := Aside0.mk ha19
              clear ha19
              go_wp2_with (fail)
              go_meet
              case rel => exact ⟨_, rfl, ⟨iff_of_true rfl (hstop.out.mpr (by have := HA13.out; have := HA15.out; have := HA17.out; have := HA19.out; omega))⟩, rfl⟩
            · have b3 : decide ((((q + 2 : Nat) : Int) + 1) < (N : Int)) = false := decide_eq_false (by omega)
              go_wp2_with (fail)
              go_meet
              case rel => exact ⟨_, rfl, ⟨iff_of_false (by simp) (fun h => by have := hstop.out.mp h; omega)⟩, rfl⟩
          · have b2 : decide ((2 : Int) ≤ (k : Int)) = false := decide_eq_false (by omega)
            go_wp2_with (fail)
            go_meet
            case rel => exact ⟨_, rfl, ⟨iff_of_false (by simp) (fun h => by have := hstop.out.mp h; omega)⟩, rfl⟩
        case rest =>
          obtain ⟨b, rfl, hb, hwc⟩ := hcut
          subst wc
          clear hstop
          have hk1 : k < l1.length := by omega
          cases b
          · have hns : Aside0 (¬ stopK cur l1 k) := ⟨fun h => by have := hb.out.mpr h; cases this⟩
            have hck := HCELL.out k hlt
            have ha := HR.out.at_ (Nat.le_refl k)
            have hset := set_same (cur := cur) (k := k) (by rw [HR.out.len]; exact hk1)
            have har := HR.out.rng k
            rw [ha] at hck hset har
            have HSET := Aside0.mk hset
            clear hset
            have HA := Aside0.mk ha
            clear ha
            have HAR := Aside0.mk har
            clear har
            clear hb
            have hnext := fun (W' : World) (ln' : Int) (nm' : Bool) (c : Int) => HR.out.next (W' := W') (ln' := ln') (nm' := nm') (c := c) hk1 hns.out
            have HNEXT := Aside0.mk hnext
            clear hnext
            generalize hal : l1.getD k 0 = a at *
            have HAL := Aside0.mk hal
            clear hal
            go_upto_region 8 with (fail)
            go_cut [9] (fun v9 wc => v9 = .bool (letter a) ∧ wc = wr)
            case first =>
              by_cases g1 : 97 ≤ a
              · have d1 : decide ((97 : Int) ≤ a) = true := decide_eq_true g1
                by_cases g2 : a ≤ 122
                · have d2 : decide (a ≤ (122 : Int)) = true := decide_eq_true g2
                  have hlet : letter a = true := by
                    unfold letter
                    simp
                    omega
                  have HLET := Aside0.mk hlet
                  clear hlet
                  clear g1
                  try clear g2
                  try clear g3
                  go_wp2_with (fail)
                  go_meet
                  case rel => exact ⟨by rw [HLET.out], rfl⟩
                · have d2 : decide (a ≤ (122 : Int)) = false := decide_eq_false g2
                  have d3 : decide ((65 : Int) ≤ a) = true := decide_eq_true (by omega)
                  have d4 : decide (a ≤ (90 : Int)) = false := decide_eq_false (by omega)
                  have hlet : letter a = false := by
                    unfold letter
                    simp
                    omega
                  have HLET := Aside0.mk hlet
                  clear hlet
                  clear g1
                  try clear g2
                  try clear g3
                  go_wp2_with (fail)
                  go_meet
                  case rel => exact ⟨by rw [HLET.out], rfl⟩
              · have d1 : decide ((97 : Int) ≤ a) = false := decide_eq_false g1
                by_cases g2 : 65 ≤ a
                · have d3 : decide ((65 : Int) ≤ a) = true := decide_eq_true g2
                  by_cases g3 : a ≤ 90
                  · have d4 : decide (a ≤ (90 : Int)) = true := decide_eq_true g3
                    have hlet : letter a = true := by
                      unfold letter
                      simp
                      omega
                    have HLET := Aside0.mk hlet
                    clear hlet
                    clear g1
                    try clear g2
                    try clear g3
                    go_wp2_with (fail)
                    go_meet
                    case rel => exact ⟨by rw [HLET.out], rfl⟩
                  · have d4 : decide (a ≤ (90 : Int)) = false := decide_eq_false g3
                    have hlet : letter a = false := by
                      unfold letter
                      simp
                      omega
                    have HLET := Aside0.mk hlet
                    clear hlet
                    clear g1
                    try clear g2
                    try clear g3
                    go_wp2_with (fail)
                    go_meet
                    case rel => exact ⟨by rw [HLET.out], rfl⟩
                · have d3 : decide ((65 : Int) ≤ a) = false := decide_eq_false g2
                  have hlet : letter a = false := by
                    unfold letter
                    simp
                    omega
                  have HLET := Aside0.mk hlet
                  clear hlet
                  clear g1
                  try clear g2
                  try clear g3
                  go_wp2_with (fail)
                  go_meet
                  case rel => exact ⟨by rw [HLET.out], rfl⟩
            case rest =>
              obtain ⟨rfl, hwc⟩ := hcut
              subst wc
              by_cases h10 : a = 10
              · have d10 : (a == 10) = true := beq_iff_eq.mpr h10
                have hw1 : ln + 1 ≤ 9223372036854775807 := by have := HR.out.l1; omega
                have hw2 : -9223372036854775808 ≤ ln + 1 := by have := HR.out.l0; omega
                have H10 := Aside0.mk h10
                clear h10
                go_wp2_with (fail)
                go_roundw
                case rel => exact ⟨k + 1, cur.set k a, ln + 1, true, by omega, rfl, rfl, rfl, ⟨HNEXT.out _ (ln + 1) true a (by rw [HSET.out]; exact HR.out.own) HR.out.below HAR.out (fun t u _ hu => by
                  rw [if_pos H10.out]
                  refine ⟨rfl, ?_⟩
                  have h00 := HR.out.l0
                  rwa [show decide (0 < ln + 1) = true from decide_eq_true (by omega)] at hu) (by have := HR.out.l0; omega) (by have := HR.out.l1; omega)⟩⟩
                case measure => simp [intOf]; omega
              · have d10 : (a == 10) = false := beq_eq_false_iff_ne.mpr h10
                have H10 := Aside0.mk h10
                clear h10
                by_cases h58 : a = 58
                · have d58 : (a == 58) = true := beq_iff_eq.mpr h58
                  have H58 := Aside0.mk h58
                  clear h58
                  go_wp2_with (fail)
                  go_roundw
                  case rel => exact ⟨k + 1, cur.set k a, ln, false, by omega, rfl, rfl, rfl, ⟨HNEXT.out _ ln false a (by rw [HSET.out]; exact HR.out.own) HR.out.below HAR.out (fun t u _ hu => by
                    rw [if_neg H10.out, if_pos H58.out]
                    exact ⟨rfl, hu⟩) HR.out.l0 (by have := HR.out.l1; omega)⟩⟩
                  case measure => simp [intOf]; omega
                · have d58 : (a == 58) = false := beq_eq_false_iff_ne.mpr h58
                  have H58 := Aside0.mk h58
                  clear h58
                  go_upto_region 13 with (fail)
                  go_cut [9, 120] (fun v9 v120 wc => v9 = .bool (letter a) ∧ ∃ b, v120 = .bool b ∧ Aside0 (b = true → 0 < ln ∧ nm = true ∧ letter a = true) ∧ wc = wr)
                  case first =>
                    cases nm
                    · go_wp2_with (fail)
                      go_meet
                      case rel => exact ⟨rfl, _, rfl, ⟨fun h => by cases h⟩, rfl⟩
                    · by_cases hln : 0 < ln
                      · have d1 : decide (0 < ln) = true := decide_eq_true hln
                        have HLN := Aside0.mk hln
                        clear hln
                        generalize hlt : letter a = lt
                        have HLT := Aside0.mk hlt
                        clear hlt
                        cases lt
                        · go_wp2_with (fail)
                          go_meet
                          case rel => exact ⟨by rw [HLT.out], _, rfl, ⟨fun h => by cases h⟩, rfl⟩
                        · go_wp2_with (fail)
                          go_meet
                          case rel => exact ⟨by rw [HLT.out], _, rfl, ⟨fun _ => ⟨HLN.out, by simp, by simp [HLT.out]⟩⟩, rfl⟩
                      · have d1 : decide (0 < ln) = false := decide_eq_false hln
                        clear hln
                        go_wp2_with (fail)
                        go_meet
                        case rel => exact ⟨rfl, _, rfl, ⟨fun h => by cases h⟩, rfl⟩
                  case rest =>
                    obtain ⟨rfl, b, rfl, hb, hwc⟩ := hcut
                    subst wc
                    cases b
                    · go_wp2_with (fail)
                      go_roundw
                      case rel => exact ⟨k + 1, cur.set k a, ln, nm, by omega, rfl, rfl, rfl, ⟨HNEXT.out _ ln nm a (by rw [HSET.out]; exact HR.out.own) HR.out.below HAR.out (fun t u _ hu => by
                        rw [if_neg H10.out, if_neg H58.out]
                        exact ⟨.inl rfl, hu⟩) HR.out.l0 (by have := HR.out.l1; omega)⟩⟩
                      case measure => simp [intOf]; omega
                    · have hbb := hb.out rfl
                      have hx := xor_flip hbb.2.2
                      have hown : wr.ownsRow 0 5 1 (.slice (some ⟨g, 0, none⟩) N c1) N (nums .u8 cur) := by
                        have h := HR.out.own.2
                        rwa [HR.out.len, hlen] at h
                      have hfz : wr.frozen? ⟨g, k, none⟩ = false := by
                        have h := (own_at hown k (by omega) (by omega)).2
                        rwa [Int.toNat_natCast] at h
                      have HOWN := Aside0.mk hown
                      clear hown
                      have HBB := Aside0.mk hbb
                      clear hbb
                      have HX := Aside0.mk hx
                      clear hx
                      go_wp2_with (fail)
                      go_roundw
                      case rel =>
                        have hso := own_store HOWN.out k (flip a)
                        rw [Int.toNat_natCast] at hso
                        rw [HX.out]
                        have hfr := LC.range (p := True) (.inr ⟨HBB.out.2.2, rfl, trivial⟩) HAR.out
                        exact ⟨k + 1, cur.set k (flip a), ln, nm, by omega, rfl, rfl, rfl, ⟨HNEXT.out _ ln nm (flip a) ⟨HR.out.own.1, by rw [List.length_set, HR.out.len, hlen]; exact hso.1⟩ (HR.out.below.setCell (HR.out.own.1 g rfl) _) hfr (fun t u _ hu => by
                          rw [if_neg H10.out, if_neg H58.out]
                          exact ⟨.inr ⟨decide_eq_true HBB.out.1, HBB.out.2.1, HBB.out.2.2, rfl⟩, hu⟩) HR.out.l0 (by have := HR.out.l1; omega)⟩⟩
                      case measure => simp [intOf]; omega
          · have hsy := HR.out.stop hk1 (hb.out.mp rfl)
            have HSY := Aside0.mk hsy
            clear hsy
            go_wp2_with (fail)
            go_meet
            case rel => exact ⟨cur, ⟨⟨HR.out.own, HR.out.len, HR.out.rng, HSY.out, HR.out.below⟩⟩⟩
      · have hlen : l1.length = N := HL.out.1
        have hlt2 : ¬ k < l1.length := by omega
        go_wp2_with (fail)
        go_meet
        case rel => exact ⟨cur, ⟨⟨HR.out.own, HR.out.len, HR.out.rng, HR.out.end_ hlt2, HR.out.below⟩⟩⟩
  case rest =>
    obtain ⟨cur, HD⟩ := hcut
    clear HO1 HB1
    have hcase := case_whole l1 cur HD.out.key (by
      intro z hz
      obtain ⟨j, hj, rfl⟩ := List.getElem_of_mem hz
      have := hrng2.out j
      rwa [List.getD_eq_getElem?_getD, List.getElem?_eq_getElem hj] at this)
    obtain ⟨o, m, f, hrun⟩ : ∃ o m f, runW WS.fresh l1 0 = (o, m, f) := ⟨_, _, _, rfl⟩
    obtain ⟨m1, t1, k1, bd, hp⟩ : ∃ m1 t1 k1 bd, parts o = (m1, t1, k1, bd) := ⟨_, _, _, _, rfl⟩
    rw [hrun] at hcase
    have hsz : w.heap.size ≤ wc.heap.size := HD.out.below.size
    have HRUN := Aside0.mk hrun
    clear hrun
    have HCASE := Aside0.mk hcase
    clear hcase
    have HP := Aside0.mk hp
    clear hp
    have hown := HD.out.own
    have hcl := HD.out.len
    have HOWN := Aside0.mk hown
    clear hown
    have HBC := Aside0.mk HD.out.below
    have HRC := Aside0.mk HD.out.rng
    have HLB := Aside0.mk (HL.out.below HD.out.below)
    clear HD
    go_wp2_with (first
      | (go_at_call 15; refine (whole_any A N c l1 _ HLB.out (by omega) hrng2.out HRUN.out HP.out).mono ?_; rintro e w1 ⟨A2, c2, rfl, ho2, hb2⟩; have HO2 := Aside0.mk ho2; have HB2 := Aside0.mk hb2; clear ho2 hb2 HLB)
      | (go_at_call 15; refine (whole_any A1 N c1 cur _ (Own.reads ((HOWN.out.below HB2.out).alloc _)) (by omega) HRC.out HCASE.out HP.out).mono ?_; rintro e w3 ⟨A3, c3, rfl, ho3, hb3⟩; have HO3 := Aside0.mk ho3; have HB3 := Aside0.mk hb3; have hx := ((hb3.block w1.heap.size (by simp)).trans (heap_alloc_new w1 _)); have x0 := blk_cell hx 0; have x1 := blk_cell hx 1; have x2 := blk_cell hx 2; have x3 := blk_cell hx 3; have hlt3 := blk_lt hx; clear ho3 hb3 hx HCASE)
      | (go_at_call 17; refine (ref13_Same m1 t1 k1 m1 t1 k1 A2 bd.length c2 bd A3 bd.length c3 bd _ (Own.reads (((HO2.out.alloc _).below HB3.out).alloc _)) (Own.reads (HO3.out.alloc _)) HO2.out.cap HO3.out.cap HO2.out.len).mono ?_; rintro e w4 ⟨he, hb4⟩; simp only [decide_true, Bool.and_self] at he; subst he; have HB4 := Aside0.mk hb4; clear hb4)
      | (go_at_call 19; refine (wire_lives _).mono ?_; rintro e w5 ⟨rfl, hb5⟩; have HB5 := Aside0.mk hb5; clear hb5))
    go_ret
    have e1 : w.heap.size ≤ w1.heap.size := Nat.le_trans hsz HB2.out.size
    have b1 : Below w.heap.size w w1 := HBC.out.trans (HB2.out.mono hsz)
    have b3 : Below w.heap.size w w3 := (b1.alloc e1 _).trans (HB3.out.mono (by simp; omega))
    have b4 : Below w.heap.size w w4 := (b3.alloc (by omega) _).trans (HB4.out.mono (by simp; omega))
    have e4 := HB4.out.size
    simp at e4
    exact ⟨rfl, b4.trans (HB5.out.mono (by omega))⟩
end Go.Proofs.Ytncpicfnlnkndaa.Wire
