/- What the laws of layer 13 share: Cut, Copy, Same of rows of bytes. -/
import Derived.Test.YtncpicfnlnkndaaLives13
import Derived.Test.YtncpicfnlnkndaaPAx4
import Derived.WalkKit
import Derived.Deep.QuietTactic
import Derived.BigQuiet
import Derived.WalkLawsBesides
import Derived.WalkSpells
import Derived.Lib.Hide
import Derived.Outline
set_option linter.unusedVariables false
set_option linter.unusedSimpArgs false
namespace Go.Proofs.Ytncpicfnlnkndaa.Wire
open Go.RowKit Go.Proofs.YtncpicfnlnkndaaW.PrintWords Go.Proofs.Ytncpicfnlnkndaa.Mem Go.Proofs.Ytncpicfnlnkndaa.PA

theorem ref01_Cut (A : Option Addr) (n c m : Nat) (w : World) (hn : n ≤ c) (hm : m ≤ 140737488351232) :
    Calls Try.prog 13 #[.slice A n c, .int .i64 m] w fun e w' => e = .returned (.slice A (min n m) c) ∧ w' = w := by
  by_cases h : m < n
  · have d1 : decide ((m : Int) < (n : Int)) = true := by simpa using h
    have e1 : min n m = m := by omega
    have d2 : (m : Int) ≤ c := by omega
    have d3 : (0 : Int) ≤ m := by omega
    go_enter Try.func13, Try.ntmps13
    go_wp2
    go_ret
    rw [e1]
    simp
  · have d1 : decide ((m : Int) < (n : Int)) = false := by simpa using h
    have e1 : min n m = n := by omega
    go_enter Try.func13, Try.ntmps13
    go_wp2
    go_ret
    rw [e1]
    exact ⟨rfl, rfl⟩
theorem ref01_Copy (A : Option Addr) (n c : Nat) (xs : List Int) (w : World) (hr : ReadsInt w .u8 A n xs) (hn : n ≤ 140737488355328) :
    Calls Try.prog 14 #[.slice A n c] w fun e w' => ∃ A' c', e = .returned (.slice A' n c') ∧ Own w' (fun k => w.heap.size ≤ k) (.slice A' n c') xs ∧ Below w.heap.size w w' := by
  have HR := Aside0.mk hr
  have hlen := hr.1
  have HL := Aside0.mk hlen
  clear hlen
  clear hr
  go_enter Try.func14, Try.ntmps14
  go_wp2_with (at_builtin; refine mem_append_row rfl (.tmp 4) (.tmp 5) 22 5 .u8 1 rfl Try.underlying22 info_u8 (by omega) (.slice none 0 0) [] xs _ n _ rfl rfl (own_nil _ _ _ _) HR.out (by simp; omega) ?_; intro A1 c1 w1 ho1 hg1 hat1; rw [show ([] : List Int).length + n = n from by simp] at ho1 hat1 ⊢; have HO1 := Aside0.mk ho1; have HG1 := Aside0.mk hg1; have HA1 := Aside0.mk hat1; clear ho1 hg1 hat1)
  go_ret
  have hlen := HL.out
  have ho := HO1.out
  refine ⟨A1, c1, rfl, ⟨fun k hk => ?_, by subst hlen; exact ho⟩, ?_⟩
  · rcases HA1.out with h | ⟨b, h, hb⟩
    · rw [h] at hk
      simp [Value.ownBlock] at hk
    · rw [h] at hk
      injection hk with hk
      omega
  · exact (Below.refl _ _).grown HG1.out (by simp) (fun k hk => by simp [Value.ownBlock] at hk)

theorem wrap_suc {i : Nat} (h : i < 9223372036854775807) : wrap64 ((i : Int) + 1) = ((i + 1 : Nat) : Int) := by
  unfold wrap64
  omega
theorem same_l0 (a b : List Int) (hab : a.length = b.length) (hs : a.length ≤ 9223372036854775807) : ∀ (n i k : Nat), i + n = a.length → n + 1 ≤ k →
    inquestref01_Same.l0 k a b i = some (decide (a.drop i = b.drop i)) := by
  intro n
  induction n with
  | zero =>
    intro i k hi hk
    obtain ⟨k, rfl⟩ : ∃ m, k = m + 1 := ⟨k - 1, by omega⟩
    simp only [inquestref01_Same.l0]
    rw [if_neg (by omega), List.drop_of_length_le (by omega), List.drop_of_length_le (by omega)]
    rfl
  | succ n ih =>
    intro i k hi hk
    obtain ⟨k, rfl⟩ : ∃ m, k = m + 1 := ⟨k - 1, by omega⟩
    have IH := ih (i + 1) k (by omega) (by omega)
    have ha : a.drop i = rd a i :: a.drop (i + 1) := by
      rw [List.drop_eq_getElem_cons (show i < a.length by omega)]
      unfold rd
      rw [Int.toNat_natCast, List.getD_eq_getElem?_getD, List.getElem?_eq_getElem (show i < a.length by omega)]
      rfl
    have hb : b.drop i = rd b i :: b.drop (i + 1) := by
      rw [List.drop_eq_getElem_cons (show i < b.length by omega)]
      unfold rd
      rw [Int.toNat_natCast, List.getD_eq_getElem?_getD, List.getElem?_eq_getElem (show i < b.length by omega)]
      rfl
    simp only [inquestref01_Same.l0]
    rw [ha, hb]
    by_cases h1 : rd a i = rd b i
    · simp only [h1, if_pos, wrap_suc (show i < 9223372036854775807 by omega)]
      rw [if_pos (by omega), if_pos (by omega), if_pos (by omega)]
      simpa using IH
    · simp only [h1, if_neg, not_false_eq_true]
      rw [if_pos (by omega), if_pos (by omega), if_pos (by omega)]
      simp [h1]
theorem same_f (a b : List Int) (hs : a.length ≤ 9223372036854775807) : inquestref01_Same.f (a.length + 1) a b = some (decide (a = b)) := by
  unfold inquestref01_Same.f
  by_cases h : a.length = b.length
  · rw [if_pos (by omega)]
    simpa using same_l0 a b h hs a.length 0 (a.length + 1) (by omega) (by omega)
  · rw [if_neg (by omega)]
    have : ¬ a = b := fun h2 => h (by rw [h2])
    simp [this]
theorem ref01_Same (A1 : Option Addr) (n1 c1 : Nat) (l1 : List Int) (A2 : Option Addr) (n2 c2 : Nat) (l2 : List Int) (w : World) (h1 : ReadsInt w .u8 A1 n1 l1) (h2 : ReadsInt w .u8 A2 n2 l2) (hc1 : n1 ≤ c1) (hc2 : n2 ≤ c2) (hs : n1 ≤ 9223372036854775807) :
    Calls Try.prog 18 #[.slice A1 n1 c1, .slice A2 n2 c2] w fun e w' => e = .returned (.bool (decide (l1 = l2))) ∧ Drawn0 w w' := by
  have e1 := h1.1
  have e2 := h2.1
  subst e1
  subst e2
  exact inquestref01_Same.calls _ A1 c1 l1 A2 c2 l2 _ w (Kd.C_of_reads (d := 0) h1) hc1 (Kd.C_of_reads (d := 0) h2) hc2 (same_f l1 l2 hs)
theorem ref13_Same (m1 t1 k1 m2 t2 k2 : ByteArray) (A1 : Option Addr) (n1 c1 : Nat) (l1 : List Int) (A2 : Option Addr) (n2 c2 : Nat) (l2 : List Int) (w : World) (h1 : ReadsInt w .u8 A1 n1 l1) (h2 : ReadsInt w .u8 A2 n2 l2) (hc1 : n1 ≤ c1) (hc2 : n2 ≤ c2) (hs : n1 ≤ 9223372036854775807) :
    Calls Try.prog 17 #[reqV m1 t1 k1 (.slice A1 n1 c1), reqV m2 t2 k2 (.slice A2 n2 c2)] w fun e w' => e = .returned (.bool (decide (m1.toList = m2.toList) && decide (t1.toList = t2.toList) && decide (k1.toList = k2.toList) && decide (l1 = l2))) ∧ Below w.heap.size w w' := by
  have e1 := h1.1
  have e2 := h2.1
  subst e1
  subst e2
  refine inquestref13_Same.calls (l1.length + 1) m1 t1 k1 A1 c1 l1 m2 t2 k2 A2 c2 l2 _ w (Kd.C_of_reads (d := 0) h1) hc1 (Kd.C_of_reads (d := 0) h2) hc2 ?_
  unfold inquestref13_Same.f
  rw [same_f l1 l2 hs]
  by_cases g1 : m1.toList = m2.toList <;> by_cases g2 : t1.toList = t2.toList <;> by_cases g3 : k1.toList = k2.toList <;> simp [g1, g2, g3]

def parts : Option WS → ByteArray × ByteArray × ByteArray × List Int
  | none => (⟨#[]⟩, ⟨#[]⟩, ⟨#[]⟩, [])
  | some y => (y.f.method, y.f.target, y.f.token, y.body)
theorem runW_none : ∀ (l : List Int) (x : WS) (i : Nat), (runW x l i).1 = none → (runW x l i).2.1 = 0
  | [], x, i, _ => rfl
  | b :: t, x, i, h => by
    rw [runW_cons] at h ⊢
    split
    · rfl
    · rename_i h1
      rw [if_neg h1] at h
      split
      · rename_i h2
        rw [if_pos h2] at h
        cases h
      · rename_i h2
        rw [if_neg h2] at h
        exact runW_none t _ _ h
theorem runW_some : ∀ (l : List Int) (x : WS) (i : Nat) (y : WS), (runW x l i).1 = some y → (runW x l i).2.2 = 0
  | [], x, i, y, h => by cases h
  | b :: t, x, i, y, h => by
    rw [runW_cons] at h ⊢
    split
    · rename_i h1
      rw [if_pos h1] at h
      cases h
    · rename_i h1
      rw [if_neg h1] at h
      split
      · rfl
      · rename_i h2
        rw [if_neg h2] at h
        exact runW_some t _ _ _ h
theorem _root_.Go.Proofs.Ytncpicfnlnkndaa.Mem.Own.len {w : World} {S : Nat → Prop} {v : Value} {xs : List Int} (h : Own w S v xs) : xs.length ≤ 9223372036854775807 := by
  have h := h.2
  rcases h.2 with ⟨_, h1⟩ | ⟨g', cap', cur, he, _, _, h1, h2, _⟩
  · omega
  · simp only [maxLen] at h2
    omega
theorem _root_.Go.Proofs.Ytncpicfnlnkndaa.Mem.Own.cap {w : World} {S : Nat → Prop} {A : Option Addr} {n c : Nat} {xs : List Int} (h : Own w S (.slice A n c) xs) : n ≤ c := by
  have h := h.2
  rcases h.2 with ⟨h0, h1⟩ | ⟨g', cap', cur, he, _, _, h1, h2, _⟩
  · injection h0; omega
  · injection he; omega
/-- What wire.Whole answers, in one form. -/
theorem whole_any (A : Option Addr) (n c : Nat) (l : List Int) (w : World) (hl : ReadsInt w .u8 A n l) (hn : n ≤ 140737488351232) (hrng : ∀ j, 0 ≤ l.getD j 0 ∧ l.getD j 0 ≤ 255) {o : Option WS} {m f : Int} (hrun : runW WS.fresh l 0 = (o, m, f)) {m1 t1 k1 : ByteArray} {bd : List Int} (hp : parts o = (m1, t1, k1, bd)) :
    Calls Try.prog 15 #[.slice A n c] w fun e w' => ∃ A' c', e = .returned (.tuple #[reqV m1 t1 k1 (.slice A' bd.length c'), .int .i64 m, .int .i64 f]) ∧ Own w' (fun k => w.heap.size ≤ k) (.slice A' bd.length c') bd ∧ Below w.heap.size w w' := by
  refine (wire_Whole A n c l w hl hn (fun j _ => hrng j)).mono fun e w' hw => ?_
  unfold WholePost at hw
  rcases o with _ | y
  · have h1 := runW_none l WS.fresh 0 (by rw [hrun])
    rw [hrun] at hw h1
    obtain ⟨he, hb⟩ := hw
    dsimp only at h1 he
    subst h1
    simp only [parts, Prod.mk.injEq] at hp
    obtain ⟨rfl, rfl, rfl, rfl⟩ := hp
    exact ⟨none, 0, he, Own.nil _ _, hb⟩
  · have h1 := runW_some l WS.fresh 0 y (by rw [hrun])
    rw [hrun] at hw h1
    dsimp only at h1
    subst h1
    obtain ⟨⟨A', c', he, ho⟩, hb⟩ := hw
    simp only [parts, Prod.mk.injEq] at hp
    obtain ⟨rfl, rfl, rfl, rfl⟩ := hp
    exact ⟨A', c', he, ho, hb⟩
end Go.Proofs.Ytncpicfnlnkndaa.Wire
