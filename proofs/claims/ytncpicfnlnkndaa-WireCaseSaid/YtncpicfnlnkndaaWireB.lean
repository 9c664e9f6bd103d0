/- The walk of wire.split: a line's name in small letters, and its value. -/
import Derived.Test.YtncpicfnlnkndaaWireA
import Derived.Deep.RegionWith
import Derived.WalkKit
import Derived.Deep.QuietTactic
import Derived.BigQuiet
import Derived.WalkLawsBesides
import Derived.WalkSpells
import Derived.Lib.Hide
import Derived.Outline
set_option linter.unusedVariables false
set_option linter.unusedSimpArgs false
namespace Go.Proofs.Ytncpicfnlnkndaa.Wire
open Go.RowKit Go.Proofs.YtncpicfnlnkndaaW.PrintWords Go.Proofs.Ytncpicfnlnkndaa.Mem

/-- What split answers, and that nothing that was there has turned. -/
def SplitPost (s : ByteArray) (w : World) (e : Ending) (w' : World) : Prop :=
  (match Spec.colon s with
   | some i => e = .returned (.tuple #[.string (Spec.small (s.extract 0 i)), .string (s.extract (i + 2) s.size), .bool true])
   | none => e = .returned (.tuple #[.string ⟨#[]⟩, .string ⟨#[]⟩, .bool false])) ∧ Below w.heap.size w w'
theorem SplitPost.no {s : ByteArray} {w w' : World} {e : Ending} (h : Spec.colon s = none) (he : e = .returned (.tuple #[.string ⟨#[]⟩, .string ⟨#[]⟩, .bool false])) (hb : Below w.heap.size w w') : SplitPost s w e w' := by
  unfold SplitPost
  rw [h]
  exact ⟨he, hb⟩
theorem SplitPost.yes {s : ByteArray} {w w' : World} {e : Ending} {i : Nat} (h : Spec.colon s = some i) (he : e = .returned (.tuple #[.string (Spec.small (s.extract 0 i)), .string (s.extract (i + 2) s.size), .bool true])) (hb : Below w.heap.size w w') : SplitPost s w e w' := by
  unfold SplitPost
  rw [h]
  exact ⟨he, hb⟩

theorem colonFrom_here {s : ByteArray} {k : Nat} (h : k < s.size) (hc : bt s k = 58) : Spec.colonFrom s (s.size - k) k = some k := by
  obtain ⟨n, hn⟩ : ∃ n, s.size - k = n + 1 := ⟨s.size - k - 1, by omega⟩
  rw [hn, Spec.colonFrom, if_pos hc]
theorem colonFrom_stop {s : ByteArray} {k : Nat} (h : k < s.size) (hc : bt s k ≠ 58) (hn : Spec.nameCh (bt s k) = false) : Spec.colonFrom s (s.size - k) k = none := by
  obtain ⟨n, hn'⟩ : ∃ n, s.size - k = n + 1 := ⟨s.size - k - 1, by omega⟩
  rw [hn', Spec.colonFrom, if_neg hc, if_neg (by rw [hn]; simp)]
theorem colonFrom_next {s : ByteArray} {k : Nat} (h : k < s.size) (hc : bt s k ≠ 58) (hn : Spec.nameCh (bt s k) = true) : Spec.colonFrom s (s.size - k) k = Spec.colonFrom s (s.size - (k + 1)) (k + 1) := by
  obtain ⟨n, hn'⟩ : ∃ n, s.size - k = n + 1 := ⟨s.size - k - 1, by omega⟩
  rw [hn', Spec.colonFrom, if_neg hc, if_pos hn]
  congr 1
  omega

def SplitRel (s : ByteArray) (k : Nat) : Prop := Spec.colonFrom s s.size 0 = Spec.colonFrom s (s.size - k) k
set_option maxHeartbeats 4000000 in
theorem wire_split (s : ByteArray) (w : World) (hs : s.size ≤ 140737488355328) :
    Calls Try.prog 96 #[.string s] w (SplitPost s w) := by
  go_enter Try.func96, Try.ntmps96
  go_wp2
  go_loop [10] (fun i => ∃ k : Nat, k ≤ s.size ∧ i = .int .i64 k ∧ Aside0 (SplitRel s k)) (fun i => s.size - (intOf i).toNat)
  case atStart => exact ⟨0, Nat.zero_le _, rfl, ⟨rfl⟩⟩
  case round =>
    obtain ⟨k, hk, rfl, HR⟩ := hrel
    by_cases hlt : k < s.size
    · have hr := bt_range s k
      have hbt := bt_at s k
      rw [Int.toNat_natCast] at hbt
      generalize hx : bt s k = c at *
      have HX := Aside0.mk hx
      clear hx
      by_cases c58 : c = 58
      · have hco := colonFrom_here hlt (by rw [HX.out]; exact c58)
        have hc1 : Spec.colon s = if 0 < k ∧ k ≤ 32 ∧ k + 1 < s.size ∧ bt s ((k : Int) + 1) = 32 then some k else none := by unfold Spec.colon; rw [HR.out, hco]
        subst c58
        by_cases hcond : 0 < k ∧ k ≤ 32 ∧ k + 1 < s.size ∧ bt s ((k : Int) + 1) = 32
        · rw [if_pos hcond] at hc1
          have HC := Aside0.mk hc1
          clear hc1
          have HCO := Aside0.mk hco
          clear hco
          obtain ⟨h1, h2, h3, h4⟩ := hcond
          have hb2 := bt_at s ((k : Int) + 1)
          rw [show ((k : Int) + 1).toNat = k + 1 from by omega] at hb2
          have hb3 : ∀ h : k + 1 < s.size, (((s[k + 1]'h).toNat : Int) == 32) = true := fun h => by rw [hb2 h, h4]; rfl
          clear h4 hb2
          go_wp2_with (fail)
          have q1 : IntKind.i64.wrap ((k : Int) + 2) = (k : Int) + 2 := IntWalk.i64_in _ (by omega)
          have q2 : (0 : Int) ≤ (k : Int) + 2 := by omega
          have q3 : ((k : Int) + 2).toNat = k + 2 := by omega
          have q4 : k + 2 ≤ s.size := by omega
          have q5 : ((k : Int) + 2) ≤ (s.size : Int) := by omega
          have hsz : (s.extract 0 k).size ≤ 140737488355328 := by simp; omega
          go_region_with (go_at_call 107; refine (wire_small _ _ hsz).mono ?_; rintro e w1 ⟨rfl, hb1⟩; have HB1 := Aside0.mk hb1; clear hb1)
          all_goals
            go_wp2
            go_ret3
            exact SplitPost.yes HC.out rfl ((Below.drew (Below.refl _ _)).trans HB1.out)
        · rw [if_neg hcond] at hc1
          have HC := Aside0.mk hc1
          clear hc1
          clear hco
          by_cases h1 : 0 < k
          · by_cases h2 : k ≤ 32
            · by_cases h3 : k + 1 < s.size
              · have hb2 := bt_at s ((k : Int) + 1)
                rw [show ((k : Int) + 1).toNat = k + 1 from by omega] at hb2
                have hb3 : ∀ h : k + 1 < s.size, (((s[k + 1]'h).toNat : Int) == 32) = false := fun h => by
                  rw [hb2 h]
                  simp only [beq_eq_false_iff_ne, ne_eq]
                  exact fun h4 => hcond ⟨h1, h2, h3, h4⟩
                clear hcond hb2
                go_wp2
                go_ret3
                exact SplitPost.no HC.out rfl (Below.refl _ _)
              · clear hcond
                go_wp2
                go_ret3
                exact SplitPost.no HC.out rfl (Below.refl _ _)
            · clear hcond
              go_wp2
              go_ret3
              exact SplitPost.no HC.out rfl (Below.refl _ _)
          · clear hcond
            go_wp2
            go_ret3
            exact SplitPost.no HC.out rfl (Below.refl _ _)
      · by_cases hn : Spec.nameCh c = true
        · have hco := colonFrom_next hlt (by rw [HX.out]; exact c58) (by rw [HX.out]; exact hn)
          have HN : Aside0 (SplitRel s (k + 1)) := ⟨HR.out.trans hco⟩
          clear hco
          have d58 : ((c : Int) == 58) = false := by simpa using c58
          clear c58
          unfold Spec.nameCh at hn
          simp only [Bool.or_eq_true, decide_eq_true_eq] at hn
          rcases hn with (⟨a1, a2⟩ | ⟨a1, a2⟩) | rfl
          · go_wp2
            all_goals first | (exfalso; omega) | (go_round; (case rel => exact ⟨k + 1, by omega, by go_num, HN⟩); (case measure => simp [intOf]; omega))
          · by_cases a3 : 97 ≤ c
            · exact absurd a3 (by omega)
            · go_wp2
              all_goals first | (exfalso; omega) | (go_round; (case rel => exact ⟨k + 1, by omega, by go_num, HN⟩); (case measure => simp [intOf]; omega))
          · go_wp2
            all_goals first | (exfalso; omega) | (go_round; (case rel => exact ⟨k + 1, by omega, by go_num, HN⟩); (case measure => simp [intOf]; omega))
        · have hn' : Spec.nameCh c = false := by simpa using hn
          have hco := colonFrom_stop hlt (by rw [HX.out]; exact c58) (by rw [HX.out]; exact hn')
          have hc1 : Spec.colon s = none := by unfold Spec.colon; rw [HR.out, hco]
          have HC := Aside0.mk hc1
          clear hc1
          clear hco
          have d58 : ((c : Int) == 58) = false := by simpa using c58
          clear c58 hn
          unfold Spec.nameCh at hn'
          simp only [Bool.or_eq_false_iff, decide_eq_false_iff_not] at hn'
          obtain ⟨⟨n1, n2⟩, n3⟩ := hn'
          have d45 : ((c : Int) == 45) = false := by simpa using n3
          have e45 : ((c : Int) != 45) = true := by simpa using n3
          clear n3
          by_cases a1 : 97 ≤ c
          · have a2 : 122 < c := by omega
            clear n1 n2
            go_wp2
            go_ret3
            exact SplitPost.no HC.out rfl (Below.refl _ _)
          · by_cases a3 : 65 ≤ c
            · have a4 : 90 < c := by omega
              clear n1 n2
              go_wp2
              go_ret3
              exact SplitPost.no HC.out rfl (Below.refl _ _)
            · clear n1 n2
              go_wp2
              go_ret3
              exact SplitPost.no HC.out rfl (Below.refl _ _)
    · have hk2 : k = s.size := by omega
      have hco : Spec.colon s = none := by unfold Spec.colon; rw [HR.out, hk2, Nat.sub_self]; rfl
      have HC := Aside0.mk hco
      clear hco
      clear hk2
      go_wp2
      go_ret3
      exact SplitPost.no HC.out rfl (Below.refl _ _)
end Go.Proofs.Ytncpicfnlnkndaa.Wire
