/- What the printed functions text.Fields, text.ReadDec and wire.target answer, in the words of the specification. -/
import Derived.Test.YtncpicfnlnkndaaSpec
import Derived.Test.YtncpicfnlnkndaaPAx1
import Derived.Test.YtncpicfnlnkndaaPAx3
set_option linter.unusedVariables false
set_option linter.unusedSimpArgs false
namespace Go.Proofs.Ytncpicfnlnkndaa.Plain
open Go.RowKit Go.Proofs.YtncpicfnlnkndaaW.PrintWords Go.Proofs.Ytncpicfnlnkndaa.Spec Go.Proofs.Ytncpicfnlnkndaa.PA

theorem wrap_add1 {n : Nat} (h : n ≤ 140737488355328) : wrap64 ((n : Int) + 1) = ((n + 1 : Nat) : Int) := by unfold wrap64; omega

theorem fields_l0 (s : ByteArray) (d : Int) (most : Nat) (hm : most < 8796093022208) (hs : s.size ≤ 140737488351232) : ∀ (n i b : Nat) (out : List ByteArray) (k : Nat), i + n = s.size → b ≤ i → 2 * n + 3 ≤ k → out.length ≤ most →
    text_Fields.l0 k s d most out b i = some (if out.length + (piecesFrom s d n b i).length > most then ([], false) else (out ++ piecesFrom s d n b i, true)) := by
  intro n
  induction n with
  | zero =>
    intro i b out k hi hb hk ho
    obtain ⟨k, rfl⟩ : ∃ m, k = m + 3 := ⟨k - 3, by omega⟩
    simp only [text_Fields.l0]
    rw [if_pos (by omega), if_neg (by omega)]
    simp only [text_Fields.j1]
    rw [if_neg (by simp)]
    by_cases hc : out.length ≥ most
    · rw [if_pos (by omega), if_pos (by simp [piecesFrom]; omega)]
    · rw [if_neg (by omega), if_pos (by omega), if_pos (by omega), if_pos (by omega), if_pos (by omega), wrap_add1 (by omega)]
      simp only [text_Fields.l0]
      rw [if_neg (by omega), if_neg (by simp [piecesFrom]; omega)]
      simp [piecesFrom]
  | succ n ih =>
    intro i b out k hi hb hk ho
    obtain ⟨k, rfl⟩ : ∃ m, k = m + 2 := ⟨k - 2, by omega⟩
    simp only [text_Fields.l0]
    rw [if_pos (by omega), if_pos (by omega), if_pos (by omega)]
    simp only [text_Fields.j1]
    by_cases hd : bt s i = d
    · rw [if_neg (by simp [hd])]
      by_cases hc : out.length ≥ most
      · rw [if_pos (by omega), if_pos (by simp only [piecesFrom, if_pos hd, List.length_cons]; omega)]
      · rw [if_neg (by omega), if_pos (by omega), if_pos (by omega), if_pos (by omega), if_pos (by omega), wrap_add1 (by omega)]
        rw [ih (i + 1) (i + 1) _ k (by omega) (by omega) (by omega) (by simp; omega)]
        simp only [piecesFrom, if_pos hd, List.length_append, List.length_cons, List.length_nil, Int.toNat_natCast, List.append_assoc, List.singleton_append]
        have e : out.length + (0 + 1) + (piecesFrom s d n (i + 1) (i + 1)).length = out.length + ((piecesFrom s d n (i + 1) (i + 1)).length + 1) := by omega
        rw [e]
    · rw [if_pos (by simpa using hd), wrap_add1 (by omega)]
      rw [ih (i + 1) b out k (by omega) (by omega) (by omega) ho]
      simp only [piecesFrom, if_neg hd]

theorem text_Fields_f (s : ByteArray) (d : Int) (most : Nat) (hm : most < 8796093022208) (hs : s.size ≤ 140737488351232) :
    text_Fields.f (2 * s.size + 3) s d most = some (if (pieces s d).length > most then ([], false) else (pieces s d, true)) := by
  have := fields_l0 s d most hm hs s.size 0 0 [] (2 * s.size + 3) (by omega) (by omega) (by omega) (by simp)
  unfold text_Fields.f pieces
  simpa using this

theorem all_drop_succ (s : ByteArray) (p : Int → Bool) (i : Nat) (h : i < s.size) : ((bytesOf s).drop i).all p = (p (bt s i) && ((bytesOf s).drop (i + 1)).all p) := by
  have hl : i < (bytesOf s).length := by rw [bytesOf_length]; exact h
  rw [List.drop_eq_getElem_cons hl, List.all_cons]
  have := rd_bytesOf s i
  unfold rd at this
  rw [Int.toNat_natCast, List.getD_eq_getElem?_getD, List.getElem?_eq_getElem hl] at this
  simp only [Option.getD_some] at this
  rw [this]

theorem target_l0 (s : ByteArray) (hs : s.size ≤ 140737488351232) : ∀ (n i k : Nat), i + n = s.size → n + 1 ≤ k → wire_target.l0 k s s.size i = some (((bytesOf s).drop i).all targetCh) := by
  intro n
  induction n with
  | zero =>
    intro i k hi hk
    obtain ⟨k, rfl⟩ : ∃ m, k = m + 1 := ⟨k - 1, by omega⟩
    simp only [wire_target.l0]
    rw [if_neg (by omega), List.drop_of_length_le (by rw [bytesOf_length]; omega)]
    rfl
  | succ n ih =>
    intro i k hi hk
    obtain ⟨k, rfl⟩ : ∃ m, k = m + 1 := ⟨k - 1, by omega⟩
    have IH := ih (i + 1) k (by omega) (by omega)
    rw [all_drop_succ s _ i (by omega)]
    simp only [wire_target.l0]
    rw [if_pos (by omega), if_pos (by omega), if_pos (by omega), wrap_add1 (by omega), IH]
    generalize bt s i = c
    generalize ((bytesOf s).drop (i + 1)).all targetCh = q
    unfold targetCh
    repeat' split
    all_goals first | (exfalso; omega) | (congr 1; symm; simp; omega) | (congr 1; simp; omega)

theorem toList_nil {s : ByteArray} : s.toList = [] ↔ s.size = 0 := by
  rw [ByteArray.toList_eq, ← data_length, List.length_eq_zero_iff]

theorem wire_target_f (s : ByteArray) (hs : s.size ≤ 140737488351232) : wire_target.f (s.size + 2) s = some (isTarget s) := by
  have h0 := target_l0 s hs s.size 0 (s.size + 1) (by omega) (by omega)
  simp only [List.drop_zero] at h0
  have h0' : wire_target.l0 (s.size + 1) s s.size 0 = some ((bytesOf s).all targetCh) := h0
  unfold wire_target.f isTarget
  by_cases he : s.size = 0
  · rw [if_pos (toList_nil.2 he)]
    simp [wire_target.j0, he]
  · rw [if_neg (fun h => he (toList_nil.1 h)), if_pos (by omega)]
    by_cases h47 : bt s 0 = 47
    · rw [if_pos h47]
      simp only [wire_target.j0]
      by_cases h64 : (s.size : Int) > 64
      · rw [if_pos (by simpa using h64)]
        have : ¬ s.size ≤ 64 := by omega
        simp [this]
      · rw [if_neg (by simpa using h64), h0']
        have : s.size ≤ 64 := by omega
        simp [he, h47, this]
    · rw [if_neg h47]
      simp [wire_target.j0, h47]

theorem all_isDig_false {s : ByteArray} {i : Nat} (h : i < s.size) (hd : isDig (bt s i) = false) : (bytesOf s).all isDig = false := by
  rw [List.all_eq_false]
  refine ⟨bt s i, ?_, by rw [hd]; simp⟩
  have hl : i < (bytesOf s).length := by rw [bytesOf_length]; exact h
  have := rd_bytesOf s i
  unfold rd at this
  rw [Int.toNat_natCast, List.getD_eq_getElem?_getD, List.getElem?_eq_getElem hl] at this
  simp only [Option.getD_some] at this
  rw [← this]
  exact List.getElem_mem hl

theorem decVal_snoc (l : List Int) (c : Int) : decVal (l ++ [c]) = 10 * decVal l + (c - 48) := by simp [decVal]
theorem take_bt (s : ByteArray) (i : Nat) (h : i < s.size) : (bytesOf s).take (i + 1) = (bytesOf s).take i ++ [bt s i] := by
  have hl : i < (bytesOf s).length := by rw [bytesOf_length]; exact h
  rw [List.take_succ_eq_append_getElem hl]
  have := rd_bytesOf s i
  unfold rd at this
  rw [Int.toNat_natCast, List.getD_eq_getElem?_getD, List.getElem?_eq_getElem hl] at this
  simp only [Option.getD_some] at this
  rw [this]
theorem all_snoc {p : Int → Bool} {l : List Int} {c : Int} (h : l.all p = true) (hc : p c = true) : (l ++ [c]).all p = true := by simp [h, hc]
theorem list_snoc {α : Type} {P : List α → Prop} (h0 : P []) (h1 : ∀ l c, P l → P (l ++ [c])) : ∀ l, P l := by
  have h : ∀ l : List α, P l.reverse := by
    intro l
    induction l with
    | nil => exact h0
    | cons a l ih => rw [List.reverse_cons]; exact h1 _ _ ih
  intro l
  have h2 := h l.reverse
  rwa [List.reverse_reverse] at h2
theorem decVal_bound : ∀ (l : List Int), l.all isDig = true → 0 ≤ decVal l ∧ decVal l < 10 ^ l.length := by
  intro l
  induction l using list_snoc with
  | h0 => intro _; simp [decVal]
  | h1 l c ih =>
    intro h
    simp only [List.all_append, List.all_cons, List.all_nil, Bool.and_true, Bool.and_eq_true] at h
    obtain ⟨h1, h2⟩ := h
    obtain ⟨i1, i2⟩ := ih h1
    unfold isDig at h2
    simp only [decide_eq_true_eq] at h2
    rw [decVal_snoc, List.length_append, List.length_singleton, Int.pow_succ]
    omega

theorem readDec_l0 (s : ByteArray) (hs : s.size ≤ 19) : ∀ (n i k : Nat), i + n = s.size → n + 1 ≤ k → ((bytesOf s).take i).all isDig = true →
    text_ReadDec.l0 k s (decVal ((bytesOf s).take i)) s.size i = some (if (bytesOf s).all isDig = true then (if decVal (bytesOf s) > 9223372036854775807 then (0, false) else (decVal (bytesOf s), true)) else (0, false)) := by
  intro n
  induction n with
  | zero =>
    intro i k hi hk hd
    obtain ⟨k, rfl⟩ : ∃ m, k = m + 1 := ⟨k - 1, by omega⟩
    have ht : (bytesOf s).take i = bytesOf s := List.take_of_length_le (by rw [bytesOf_length]; omega)
    rw [ht] at hd ⊢
    simp only [text_ReadDec.l0]
    rw [if_neg (by omega), if_pos hd]
    have hb := decVal_bound _ hd
    split
    · rfl
    · rw [show wrap64 (decVal (bytesOf s)) = decVal (bytesOf s) from by unfold wrap64; omega]
  | succ n ih =>
    intro i k hi hk hd
    obtain ⟨k, rfl⟩ : ∃ m, k = m + 1 := ⟨k - 1, by omega⟩
    simp only [text_ReadDec.l0]
    rw [if_pos (by omega), if_pos (by omega), if_pos (by omega)]
    by_cases h1 : bt s i < 48
    · rw [if_pos h1, if_neg]
      rw [all_isDig_false (i := i) (by omega) (by unfold isDig; simp; omega)]
      simp
    · rw [if_neg h1]
      by_cases h2 : bt s i > 57
      · rw [if_pos h2, if_neg]
        rw [all_isDig_false (i := i) (by omega) (by unfold isDig; simp; omega)]
        simp
      · rw [if_neg h2, wrap_add1 (by omega)]
        have hb := decVal_bound _ hd
        have hl : ((bytesOf s).take i).length = i := by simp [bytesOf_length]; omega
        rw [hl] at hb
        have hp : (10 : Int) ^ i ≤ 10 ^ 18 := by
          have : (10 : Nat) ^ i ≤ 10 ^ 18 := Nat.pow_le_pow_right (by omega) (by omega)
          exact_mod_cast this
        have hu1 : IntKind.u64.wrap (10 * decVal ((bytesOf s).take i)) = 10 * decVal ((bytesOf s).take i) := by
          rw [IntKind.wrap_u64]; omega
        have hu2 : IntKind.u64.wrap (10 * decVal ((bytesOf s).take i) + (bt s i - 48) % 256) = decVal ((bytesOf s).take (i + 1)) := by
          rw [IntKind.wrap_u64, take_bt s i (by omega), decVal_snoc]; omega
        rw [hu1, hu2]
        exact ih (i + 1) k (by omega) (by omega) (by rw [take_bt s i (by omega)]; exact all_snoc hd (by unfold isDig; simp; omega))

theorem text_ReadDec_f (s : ByteArray) : text_ReadDec.f (s.size + 3) s = some (match readDec s with | none => (0, false) | some n => (n, true)) := by
  unfold text_ReadDec.f readDec
  by_cases h0 : s.size = 0
  · rw [if_pos (toList_nil.2 h0), if_pos (.inl h0)]
    simp [text_ReadDec.j0]
  · rw [if_neg (fun h => h0 (toList_nil.1 h))]
    by_cases h1 : (s.size : Int) > 19
    · rw [if_pos h1, if_pos (.inr (.inl (by omega)))]
      simp [text_ReadDec.j0]
    · rw [if_neg h1, if_pos (by omega)]
      have hl := readDec_l0 s (by omega) s.size 0 (s.size + 2) (by omega) (by omega) (by simp)
      simp only [List.take_zero] at hl
      have hl' : text_ReadDec.l0 (s.size + 2) s 0 s.size 0 = _ := hl
      by_cases h2 : bt s 0 = 48
      · rw [if_pos h2]
        by_cases h3 : (s.size : Int) > 1
        · rw [if_pos (.inr (.inr ⟨h2, by omega⟩))]
          simp [text_ReadDec.j0, h3]
        · rw [if_neg (by omega)]
          simp only [text_ReadDec.j0]
          rw [if_neg (by simp; omega), hl']
          split
          · split <;> rfl
          · rfl
      · rw [if_neg h2, if_neg (by omega)]
        simp only [text_ReadDec.j0]
        rw [if_neg (by simp), hl']
        split
        · split <;> rfl
        · rfl
theorem readDec_range {s : ByteArray} {n : Int} (h : readDec s = some n) : 0 ≤ n ∧ n ≤ 9223372036854775807 := by
  unfold readDec at h
  split at h
  · cases h
  · split at h
    · rename_i hd
      have := decVal_bound _ hd
      split at h
      · cases h
      · injection h with h
        omega
    · cases h
end Go.Proofs.Ytncpicfnlnkndaa.Plain
