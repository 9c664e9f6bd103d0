/- In whatever letters the names of lines are written the same is read: in plain lists, no program is named. -/
import Derived.Test.YtncpicfnlnkndaaWireM
set_option linter.unusedVariables false
set_option linter.unusedSimpArgs false
namespace Go.Proofs.Ytncpicfnlnkndaa.Wire
open Go.RowKit Go.Proofs.YtncpicfnlnkndaaW.PrintWords Go.Proofs.Ytncpicfnlnkndaa.Mem

def letter (c : Int) : Bool := decide (97 ≤ c ∧ c ≤ 122) || decide (65 ≤ c ∧ c ≤ 90)
def flip (c : Int) : Int := if c ≤ 90 then c + 32 else c - 32
theorem letter_iff {c : Int} : letter c = true ↔ (97 ≤ c ∧ c ≤ 122) ∨ (65 ≤ c ∧ c ≤ 90) := by simp [letter]
theorem flip_iff {c : Int} (h : letter c = true) : (65 ≤ c ∧ c ≤ 90 ∧ flip c = c + 32) ∨ (97 ≤ c ∧ c ≤ 122 ∧ flip c = c - 32) := by
  rw [letter_iff] at h
  unfold flip
  split <;> omega
/-- One byte and what may stand for it. -/
def LC (p : Prop) (b c : Int) : Prop := c = b ∨ (letter b = true ∧ c = flip b ∧ p)
theorem LC.range {p : Prop} {b c : Int} (h : LC p b c) (h0 : 0 ≤ b ∧ b ≤ 255) : 0 ≤ c ∧ c ≤ 255 := by
  rcases h with rfl | ⟨h1, rfl, _⟩
  · exact h0
  · have := flip_iff h1; omega
theorem LC.lower {p : Prop} {b c : Int} (h : LC p b c) : Spec.lower c = Spec.lower b := by
  rcases h with rfl | ⟨h1, rfl, _⟩
  · rfl
  · have := flip_iff h1
    unfold Spec.lower
    split <;> split <;> omega
theorem LC.nameCh {p : Prop} {b c : Int} (h : LC p b c) : Spec.nameCh c = Spec.nameCh b := by
  rcases h with rfl | ⟨h1, rfl, _⟩
  · rfl
  · have := flip_iff h1
    have e1 : Spec.nameCh b = true := by simp [Spec.nameCh]; omega
    have e2 : Spec.nameCh (flip b) = true := by simp [Spec.nameCh]; omega
    rw [e1, e2]
theorem LC.eq_iff {p : Prop} {b c : Int} (h : LC p b c) {z : Int} (hz : letter z = false) : c = z ↔ b = z := by
  rcases h with rfl | ⟨h1, rfl, _⟩
  · rfl
  · have := flip_iff h1
    have hz' : ¬ (letter z = true) := by rw [hz]; simp
    rw [letter_iff] at hz'
    omega

/-! ### Texts -/
def SR (s t : ByteArray) : Prop := t.size = s.size ∧ ∀ j : Nat, LC (∀ q : Nat, q < j → bt s q ≠ 58) (bt s j) (bt t j)
theorem SR.colonFrom {s t : ByteArray} (h : SR s t) : ∀ n i, Spec.colonFrom t n i = Spec.colonFrom s n i := by
  intro n
  induction n with
  | zero => intro i; rfl
  | succ n ih =>
    intro i
    unfold Spec.colonFrom
    rw [(h.2 i).nameCh, ih]
    have := (h.2 i).eq_iff (z := 58) (by decide)
    by_cases h1 : bt s i = 58
    · rw [if_pos (this.mpr h1), if_pos h1]
    · rw [if_neg (fun h2 => h1 (this.mp h2)), if_neg h1]
theorem colonFrom_58 {s : ByteArray} : ∀ (n i j : Nat), Spec.colonFrom s n i = some j → bt s j = 58 := by
  intro n
  induction n with
  | zero => intro i j h; simp [Spec.colonFrom] at h
  | succ n ih =>
    intro i j h
    unfold Spec.colonFrom at h
    split at h
    · injection h with h; subst h; assumption
    · split at h
      · exact ih _ _ h
      · cases h
theorem SR.colon {s t : ByteArray} (h : SR s t) : Spec.colon t = Spec.colon s := by
  unfold Spec.colon
  rw [h.1, h.colonFrom]
  split
  · rename_i i hi
    have := (h.2 (i + 1)).eq_iff (z := 32) (by decide)
    rw [show ((i + 1 : Nat) : Int) = (i : Int) + 1 from by omega] at this
    by_cases h1 : bt s ((i : Int) + 1) = 32
    · simp only [h1, this.mpr h1]
    · have h2 : ¬ bt t ((i : Int) + 1) = 32 := fun h2 => h1 (this.mp h2)
      simp only [h1, h2]
  · rfl
theorem colon_58 {s : ByteArray} {i : Nat} (h : Spec.colon s = some i) : bt s i = 58 := by
  unfold Spec.colon at h
  split at h
  · rename_i j hj
    split at h
    · injection h with h; subst h
      exact colonFrom_58 _ _ _ hj
    · cases h
  · cases h
theorem bt_ext {s t : ByteArray} (h : t.size = s.size) (hb : ∀ j : Nat, j < s.size → bt t j = bt s j) : t = s := by
  apply ByteArray.ext
  apply Array.ext
  · exact h
  · intro i h1 h2
    have := hb i h2
    unfold bt at this
    rw [Int.toNat_natCast, dif_pos (show i < t.size from h1), dif_pos (show i < s.size from h2)] at this
    have h3 : (t[i]'h1).toNat = (s[i]'h2).toNat := by omega
    exact UInt8.toNat_inj.mp h3
theorem bt_extract (s : ByteArray) (a b j : Nat) (h : j < (s.extract a b).size) : bt (s.extract a b) j = bt s ((a + j : Nat) : Int) := by
  have h' := h
  rw [ByteArray.size_extract] at h'
  unfold bt
  rw [Int.toNat_natCast, Int.toNat_natCast, dif_pos h, dif_pos (by omega)]
  simp only [ByteArray.getElem_eq_getElem_data, ByteArray.data_extract, Array.getElem_extract]
theorem small_eq {s t : ByteArray} (h : t.size = s.size) (hb : ∀ j : Nat, j < s.size → Spec.lower (bt t j) = Spec.lower (bt s j)) : Spec.small t = Spec.small s := by
  unfold Spec.small
  congr 1
  apply List.ext_getElem
  · simp [bytesOf_length, h]
  · intro i h1 h2
    simp only [List.length_map, bytesOf_length] at h1 h2
    simp only [List.getElem_map]
    have := hb i h2
    rw [← rd_bytesOf, ← rd_bytesOf] at this
    unfold rd at this
    rw [Int.toNat_natCast, List.getD_eq_getElem?_getD, List.getD_eq_getElem?_getD, List.getElem?_eq_getElem (by rw [bytesOf_length]; exact h1), List.getElem?_eq_getElem (by rw [bytesOf_length]; exact h2)] at this
    exact this
theorem SR.further {s t : ByteArray} (h : SR s t) (r : WR) : r.further t = r.further s := by
  unfold WR.further
  rw [h.colon]
  rcases hc : Spec.colon s with _ | i
  · rfl
  · dsimp only
    have h58 := colon_58 hc
    have hi := Spec.colon_some hc
    have e1 : Spec.small (t.extract 0 i) = Spec.small (s.extract 0 i) := by
      apply small_eq
      · rw [ByteArray.size_extract, ByteArray.size_extract, h.1]
      · intro j hj
        have hj2 : j < (t.extract 0 i).size := by rw [ByteArray.size_extract, h.1]; rw [ByteArray.size_extract] at hj; exact hj
        rw [bt_extract _ _ _ _ hj, bt_extract _ _ _ _ hj2]
        exact (h.2 _).lower
    have e2 : t.extract (i + 2) t.size = s.extract (i + 2) s.size := by
      apply bt_ext
      · rw [ByteArray.size_extract, ByteArray.size_extract, h.1]
      · intro j hj
        have hj2 : j < (t.extract (i + 2) t.size).size := by rw [ByteArray.size_extract, h.1]; rw [ByteArray.size_extract] at hj; exact hj
        rw [bt_extract _ _ _ _ hj, bt_extract _ _ _ _ hj2]
        rcases h.2 (i + 2 + j) with h3 | ⟨_, _, h3⟩
        · exact h3
        · exact absurd h58 (h3 i (by omega))
    rw [e1, e2]

/-! ### Lines -/
def LR (a d : List Int) : Prop := d.length = a.length ∧ ∀ j, LC (∀ q, q < j → a.getD q 0 ≠ 58) (a.getD j 0) (d.getD j 0)
theorem LR.refl (a : List Int) : LR a a := ⟨rfl, fun j => .inl rfl⟩
theorem LR.snoc {a d : List Int} {b c : Int} (h : LR a d) (hc : LC (∀ q, q < a.length → a.getD q 0 ≠ 58) b c) : LR (a ++ [b]) (d ++ [c]) := by
  refine ⟨by simp [h.1], fun j => ?_⟩
  by_cases h1 : j < a.length
  · have e1 : ∀ q, q < a.length → (a ++ [b]).getD q 0 = a.getD q 0 := fun q hq => by simp [List.getD_eq_getElem?_getD, List.getElem?_append_left hq]
    have e2 : (d ++ [c]).getD j 0 = d.getD j 0 := by simp [List.getD_eq_getElem?_getD, List.getElem?_append_left (show j < d.length by rw [h.1]; exact h1)]
    rw [e1 j h1, e2]
    rcases h.2 j with h2 | ⟨h2, h3, h4⟩
    · exact .inl h2
    · exact .inr ⟨h2, h3, fun q hq => by rw [e1 q (by omega)]; exact h4 q hq⟩
  · by_cases h2 : j = a.length
    · subst h2
      have e1 : (a ++ [b]).getD a.length 0 = b := by simp [List.getD_eq_getElem?_getD]
      have e2 : (d ++ [c]).getD a.length 0 = c := by rw [← h.1]; simp [List.getD_eq_getElem?_getD]
      rw [e1, e2]
      rcases hc with h3 | ⟨h3, h4, h5⟩
      · exact .inl h3
      · exact .inr ⟨h3, h4, fun q hq => by
          have := h5 q hq
          simpa [List.getD_eq_getElem?_getD, List.getElem?_append_left hq] using this⟩
    · refine .inl ?_
      have e1 : (a ++ [b]).getD j 0 = 0 := by rw [List.getD_eq_getElem?_getD, List.getElem?_eq_none (by simp; omega)]; rfl
      have e2 : (d ++ [c]).getD j 0 = 0 := by rw [List.getD_eq_getElem?_getD, List.getElem?_eq_none (by simp [h.1]; omega)]; rfl
      rw [e1, e2]
theorem getD_dropLast (a : List Int) (j : Nat) : a.dropLast.getD j 0 = if j + 1 < a.length then a.getD j 0 else 0 := by
  rw [List.getD_eq_getElem?_getD, List.getElem?_dropLast]
  by_cases h : j < a.length - 1
  · rw [if_pos h, if_pos (by omega), List.getD_eq_getElem?_getD]
  · rw [if_neg h, if_neg (by omega)]; rfl
theorem LR.dropLast {a d : List Int} (h : LR a d) : LR a.dropLast d.dropLast := by
  refine ⟨by simp [h.1], fun j => ?_⟩
  rw [getD_dropLast, getD_dropLast, h.1]
  split
  · rename_i hj
    rcases h.2 j with h2 | ⟨h2, h3, h4⟩
    · exact .inl h2
    · exact .inr ⟨h2, h3, fun q hq => by rw [getD_dropLast, if_pos (by omega)]; exact h4 q hq⟩
  · exact .inl rfl
theorem bt_strOfNums (l : List Int) (hr : ∀ j, 0 ≤ l.getD j 0 ∧ l.getD j 0 ≤ 255) (j : Nat) : bt (strOfNums l) j = l.getD j 0 := by
  unfold bt
  rw [Int.toNat_natCast]
  by_cases h : j < l.length
  · have hj := hr j
    rw [List.getD_eq_getElem?_getD, List.getElem?_eq_getElem h] at hj ⊢
    dsimp only [Option.getD_some] at hj ⊢
    rw [dif_pos (by rw [strOfNums_size]; exact h)]
    have : ((strOfNums l)[j]'(by rw [strOfNums_size]; exact h)) = UInt8.ofNat (l[j]).toNat := by
      simp [strOfNums, ByteArray.getElem_eq_getElem_data]
    rw [this]
    simp only [UInt8.toNat_ofNat']
    omega
  · rw [dif_neg (by rw [strOfNums_size]; exact h), List.getD_eq_getElem?_getD, List.getElem?_eq_none (by omega)]
    rfl
theorem LR.text {a d : List Int} (h : LR a d) (hr : ∀ j, 0 ≤ a.getD j 0 ∧ a.getD j 0 ≤ 255) : SR (strOfNums a) (strOfNums d) := by
  refine ⟨by rw [strOfNums_size, strOfNums_size, h.1], fun j => ?_⟩
  rw [bt_strOfNums a hr, bt_strOfNums d (fun j => (h.2 j).range (hr j))]
  rcases h.2 j with h2 | ⟨h2, h3, h4⟩
  · exact .inl h2
  · exact .inr ⟨h2, h3, fun q hq => by rw [bt_strOfNums a hr]; exact h4 q hq⟩

/-! ### The reader -/
def CaseR : Int → Int → Bool → Bool → List Int → List Int → Prop
  | _, _, _, _, [], u => u = []
  | _, _, _, _, _ :: _, [] => False
  | p2, p1, lf, nm, b :: t, c :: u =>
    if p2 = 13 ∧ p1 = 10 ∧ b = 13 ∧ t.head? = some 10 then c :: u = b :: t
    else if b = 10 then c = b ∧ CaseR p1 c true true t u
    else if b = 58 then c = b ∧ CaseR p1 c lf false t u
    else (c = b ∨ (lf = true ∧ nm = true ∧ letter b = true ∧ c = flip b)) ∧ CaseR p1 c lf nm t u

/-- What holds of the two readers ahead of the rest t, where p2 and p1 were the last two bytes of the second. -/
structure Sim (p2 p1 : Int) (lf nm : Bool) (t : List Int) (x y : WS) : Prop where
  f : y.f = x.f
  body : y.body = x.body
  ch : y.ch = x.ch
  line : LR x.line y.line
  rng : ∀ j, 0 ≤ x.line.getD j 0 ∧ x.line.getD j 0 ≤ 255
  inb : x.f.inBody = false
  whole : x.f.whole = false
  l0 : 0 ≤ x.f.lines
  lf0 : lf = true ↔ 0 < x.f.lines
  same : lf = false → y.line = x.line
  nm0 : nm = true → ∀ q, q < x.line.length → x.line.getD q 0 ≠ 58
  emp : x.line = [] → lf = true → p1 = 10 ∧ p2 = 13
  ten : p1 = 10 → x.line = []
  last : x.line ≠ [] → y.line.getLast? = some p1
  cr : x.line = [13] → lf = true → t.head? ≠ some 10

theorem LR.beh {a d : List Int} (h : LR a d) : behind d = behind a := by
  unfold behind
  rw [List.getLast?_eq_getElem?, List.getLast?_eq_getElem?, h.1]
  by_cases h0 : a.length = 0
  · rw [List.getElem?_eq_none (by rw [h.1]; omega), List.getElem?_eq_none (by omega)]
  · have := (h.2 (a.length - 1)).eq_iff (z := 13) (by decide)
    rw [List.getD_eq_getElem?_getD, List.getD_eq_getElem?_getD] at this
    rw [List.getElem?_eq_getElem (show a.length - 1 < d.length by rw [h.1]; omega), List.getElem?_eq_getElem (show a.length - 1 < a.length by omega)] at this ⊢
    simp only [Option.getD_some] at this
    by_cases h1 : a[a.length - 1] = 13
    · rw [h1, this.mpr h1]
    · have h2 : ¬ d[a.length - 1]'(by rw [h.1]; omega) = 13 := fun h2 => h1 (this.mp h2)
      have e1 : (d[a.length - 1]'(by rw [h.1]; omega) == 13) = false := by simpa using h2
      have e2 : (a[a.length - 1] == 13) = false := by simpa using h1
      simpa using e1.trans e2.symm
theorem behind_snoc {a : List Int} (h : behind a = true) : ∃ l, a = l ++ [13] := by
  unfold behind at h
  rw [beq_iff_eq] at h
  obtain ⟨l, hl⟩ := List.getLast?_eq_some_iff.mp h
  exact ⟨l, hl⟩

theorem further_keeps (r : WR) (s : ByteArray) : (r.further s).2.inBody = r.inBody ∧ (r.further s).2.whole = r.whole ∧ (r.further s).2.lines = r.lines := by
  unfold WR.further
  split
  · exact ⟨rfl, rfl, rfl⟩
  · unfold WR.field
    repeat' split
    all_goals exact ⟨rfl, rfl, rfl⟩
theorem WS.ext_ {x y : WS} (h1 : y.f = x.f) (h2 : y.line = x.line) (h3 : y.body = x.body) (h4 : y.ch = x.ch) : y = x := by
  cases x; cases y; simp_all
def nextNm (b : Int) (nm : Bool) : Bool := if b = 10 then true else if b = 58 then false else nm
theorem sim_heads {p2 p1 b c : Int} {lf nm : Bool} {t : List Int} {x y : WS} (h : Sim p2 p1 lf nm (b :: t) x y) (hb : 0 ≤ b ∧ b ≤ 255)
    (hns : ¬ (p2 = 13 ∧ p1 = 10 ∧ b = 13 ∧ t.head? = some 10)) (hbc : c = b ∨ (lf = true ∧ nm = true ∧ letter b = true ∧ c = flip b)) :
    (y.heads c).1 = (x.heads b).1 ∧ ((x.heads b).1 = 0 → ∀ bd, Sim p1 c (lf || b == 10) (nextNm b nm) t { (x.heads b).2 with f := { (x.heads b).2.f with bad := bd } } { (y.heads c).2 with f := { (y.heads c).2.f with bad := bd } }) ∧ (x.heads b).2.f.whole = false ∧ (y.heads c).2.f.whole = false ∧ ((y.heads c).2.f = (x.heads b).2.f) := by
  have hlc : LC (∀ q, q < x.line.length → x.line.getD q 0 ≠ 58) b c := by
    rcases hbc with h1 | ⟨h1, h2, h3, h4⟩
    · exact .inl h1
    · exact .inr ⟨h3, h4, h.nm0 h2⟩
  have e10 := hlc.eq_iff (z := 10) (by decide)
  have e13 := hlc.eq_iff (z := 13) (by decide)
  have hcr := hlc.range hb
  have ebad : (c ≠ 13 ∧ c ≠ 10 ∧ (c < 32 ∨ c > 126)) ↔ (b ≠ 13 ∧ b ≠ 10 ∧ (b < 32 ∨ b > 126)) := by
    rcases hlc with rfl | ⟨h1, rfl, _⟩
    · rfl
    · have := flip_iff h1; omega
  have ed : decide (c = 10) = decide (b = 10) := by
    by_cases h1 : b = 10
    · simp [h1, e10.mpr h1]
    · rw [decide_eq_false h1, decide_eq_false (fun h2 => h1 (e10.mp h2))]
  by_cases c1 : x.f.head ≥ 1024
  · have ex : x.heads b = (5, x) := by unfold WS.heads; rw [if_pos c1]
    have ey : y.heads c = (5, y) := by unfold WS.heads; rw [h.f, if_pos c1]
    rw [ex, ey]
    exact ⟨rfl, fun h1 => by simp at h1, h.whole, by rw [h.f]; exact h.whole, h.f⟩
  · by_cases c2 : behind x.line ≠ decide (b = 10) ∨ (b ≠ 13 ∧ b ≠ 10 ∧ (b < 32 ∨ b > 126))
    · have ex : x.heads b = (4, { x with f := { x.f with head := x.f.head + 1 } }) := by unfold WS.heads; rw [if_neg c1, if_pos c2]
      have ey : y.heads c = (4, { y with f := { y.f with head := y.f.head + 1 } }) := by
        unfold WS.heads
        rw [h.f, if_neg c1, if_pos (by rw [h.line.beh, ed, ebad]; exact c2)]
      rw [ex, ey]
      exact ⟨rfl, fun h1 => by simp at h1, h.whole, by dsimp only; rw [h.f]; exact h.whole, by dsimp only; rw [h.f]⟩
    · by_cases c3 : b = 10
      · have hc3 := e10.mpr c3
        subst c3
        subst hc3
        have hbeh : behind x.line = true := by
          rcases hq : behind x.line with _ | _
          · exact absurd (.inl (by rw [hq]; simp)) c2
          · rfl
        obtain ⟨l, hl⟩ := behind_snoc hbeh
        have hne : x.line ≠ [] := by rw [hl]; simp
        have hyb := h.line.beh
        rw [hbeh] at hyb
        obtain ⟨l2, hl2⟩ := behind_snoc hyb
        have hp1 : p1 = 13 := by
          have := h.last hne
          rw [hl2] at this
          simp at this
          exact this.symm
        have ex : x.heads 10 = WS.ended { x with f := { x.f with head := x.f.head + 1, lines := x.f.lines + 1 }, line := [] } (strOfNums l) := heads_end c1 hl
        have ey : y.heads 10 = WS.ended { y with f := { y.f with head := y.f.head + 1, lines := y.f.lines + 1 }, line := [] } (strOfNums l2) := heads_end (by rw [h.f]; exact c1) hl2
        have hl0 := h.l0
        have hwh := h.whole
        have hin := h.inb
        have hsim : ∀ (f' : WR) (bd : Bool), f'.inBody = false → f'.whole = false → 0 < f'.lines → Sim p1 10 (lf || (10 : Int) == 10) (nextNm 10 nm) t ⟨{ f' with bad := bd }, [], x.body, x.ch⟩ ⟨{ f' with bad := bd }, [], y.body, y.ch⟩ := by
          intro f' bd h1 h2 h3
          exact ⟨rfl, h.body, h.ch, LR.refl _, by simp, h1, h2, by dsimp only; omega, by simp; exact h3, fun h4 => by simp at h4, by simp, fun _ _ => ⟨rfl, hp1⟩, fun _ => rfl, by simp, by simp⟩
        have hls : LR l l2 := by
          have := h.line.dropLast
          rw [hl, hl2] at this
          simpa using this
        have hlr : ∀ j, 0 ≤ l.getD j 0 ∧ l.getD j 0 ≤ 255 := by
          intro j
          have := h.rng j
          rw [hl] at this
          by_cases hj : j < l.length
          · simpa [List.getD_eq_getElem?_getD, List.getElem?_append_left hj] using this
          · rw [List.getD_eq_getElem?_getD, List.getElem?_eq_none (by omega)]; simp
        by_cases c4 : x.f.lines = 0
        · have hlf : lf = false := by
            rcases hq : lf with _ | _
            · rfl
            · have := h.lf0.mp hq; omega
          have hyx : y.line = x.line := h.same hlf
          have hl12 : l2 = l := by
            rw [hl, hl2] at hyx
            simpa using hyx
          subst hl12
          rw [ex, ey]
          unfold WS.ended
          dsimp only
          rw [h.f, if_pos (by omega), if_pos (by omega)]
          rcases hfs : Spec.first (strOfNums l2) with _ | ⟨m, tg⟩
          · dsimp only
            exact ⟨rfl, fun h1 => by simp at h1, hwh, hwh, rfl⟩
          · dsimp only
            exact ⟨rfl, fun _ bd => hsim { x.f with head := x.f.head + 1, lines := x.f.lines + 1, method := m, target := tg } bd hin hwh (by dsimp only; omega), hwh, hwh, rfl⟩
        · have hlf : lf = true := h.lf0.mpr (by omega)
          have hl1 : l ≠ [] := by
            intro h1
            subst h1
            exact h.cr hl hlf rfl
          have hsz : (strOfNums l).size ≠ 0 := by rw [strOfNums_size]; intro h1; exact hl1 (List.length_eq_zero_iff.mp h1)
          have hsz2 : (strOfNums l2).size ≠ 0 := by rw [strOfNums_size, hls.1, ← strOfNums_size]; exact hsz
          rw [ex, ey]
          unfold WS.ended
          dsimp only
          simp only [h.f, if_neg (show ¬ x.f.lines + 1 = 1 by omega), if_neg hsz, if_neg hsz2]
          by_cases c5 : x.f.lines + 1 > 17
          · simp only [if_pos c5]
            exact ⟨trivial, fun h1 => by simp at h1, hwh, hwh, trivial⟩
          · simp only [if_neg c5, (hls.text hlr).further]
            have hk := further_keeps { x.f with head := x.f.head + 1, lines := x.f.lines + 1 } (strOfNums l)
            refine ⟨trivial, fun _ bd => hsim _ bd (by rw [hk.1]; exact hin) (by rw [hk.2.1]; exact hwh) (by rw [hk.2.2]; dsimp only; omega), by rw [hk.2.1]; exact hwh, by rw [hk.2.1]; exact hwh, trivial⟩
      · have ex : x.heads b = (0, { x with f := { x.f with head := x.f.head + 1 }, line := x.line ++ [b] }) := by unfold WS.heads; rw [if_neg c1, if_neg c2, if_pos c3]
        have ey : y.heads c = (0, { y with f := { y.f with head := y.f.head + 1 }, line := y.line ++ [c] }) := by
          unfold WS.heads
          rw [h.f, if_neg c1, if_neg (by rw [h.line.beh, ed, ebad]; exact c2), if_pos (fun h1 => c3 (e10.mp h1))]
        rw [ex, ey]
        refine ⟨rfl, fun _ bd => ?_, h.whole, by dsimp only; rw [h.f]; exact h.whole, by dsimp only; rw [h.f]⟩
        have e1 : (lf || b == 10) = lf := by simp [c3]
        rw [e1]
        refine ⟨by dsimp only; rw [h.f], h.body, h.ch, h.line.snoc hlc, ?_, h.inb, h.whole, h.l0, h.lf0, ?_, ?_, by simp, fun h1 => absurd (e10.mp h1) c3, by simp, ?_⟩
        · intro j
          dsimp only
          by_cases hj : j < x.line.length
          · have := h.rng j
            simpa [List.getD_eq_getElem?_getD, List.getElem?_append_left hj] using this
          · by_cases hj2 : j = x.line.length
            · subst hj2
              simpa [List.getD_eq_getElem?_getD] using hb
            · rw [List.getD_eq_getElem?_getD, List.getElem?_eq_none (by simp; omega)]; simp
        · intro h1
          dsimp only
          rw [h.same h1]
          rcases hbc with h2 | ⟨h2, _⟩
          · rw [h2]
          · rw [h1] at h2; cases h2
        · intro h1 q hq
          dsimp only at hq ⊢
          unfold nextNm at h1
          rw [if_neg c3] at h1
          by_cases h58 : b = 58
          · rw [if_pos h58] at h1; cases h1
          · rw [if_neg h58] at h1
            by_cases hj : q < x.line.length
            · have := h.nm0 h1 q hj
              simpa [List.getD_eq_getElem?_getD, List.getElem?_append_left hj] using this
            · have hq2 : q = x.line.length := by simp at hq; omega
              subst hq2
              simpa [List.getD_eq_getElem?_getD] using h58
        · intro h1 h2 h3
          dsimp only at h1
          have hx : x.line = [] := by
            rcases hq : x.line with _ | ⟨a, l⟩
            · rfl
            · rw [hq] at h1; simp at h1
          rw [hx] at h1
          simp at h1
          have := h.emp hx h2
          exact hns ⟨this.2, this.1, h1, h3⟩
theorem sim_put {p2 p1 b c : Int} {lf nm : Bool} {t : List Int} {x y : WS} (h : Sim p2 p1 lf nm (b :: t) x y) (hb : 0 ≤ b ∧ b ≤ 255)
    (hns : ¬ (p2 = 13 ∧ p1 = 10 ∧ b = 13 ∧ t.head? = some 10)) (hbc : c = b ∨ (lf = true ∧ nm = true ∧ letter b = true ∧ c = flip b)) :
    (y.put c).1 = (x.put b).1 ∧ ((x.put b).1.2 = 0 → (x.put b).1.1 = false ∧ Sim p1 c (lf || b == 10) (nextNm b nm) t (x.put b).2 (y.put c).2) := by
  have hh := sim_heads h hb hns hbc
  unfold WS.put
  rw [h.f]
  by_cases c1 : x.f.bad = true ∨ x.f.whole = true
  · rw [if_pos c1, if_pos c1]
    exact ⟨rfl, fun h1 => by simp at h1⟩
  · rw [if_neg c1, if_neg c1, if_neg (by rw [h.inb]; simp), if_neg (by rw [h.inb]; simp)]
    refine ⟨?_, fun h1 => ⟨hh.2.2.1, ?_⟩⟩
    · dsimp only
      rw [hh.1, hh.2.2.1, hh.2.2.2.1]
    · have h2 := hh.2.1 h1 ((x.heads b).1 != 0)
      rw [hh.1]
      exact h2
theorem case_run : ∀ (l u : List Int) (x y : WS) (p2 p1 : Int) (lf nm : Bool) (i : Nat), Sim p2 p1 lf nm l x y → CaseR p2 p1 lf nm l u → (∀ z ∈ l, 0 ≤ z ∧ z ≤ 255) → runW y u i = runW x l i := by
  intro l
  induction l with
  | nil =>
    intro u x y p2 p1 lf nm i h hc _
    simp only [CaseR] at hc
    subst hc
    rfl
  | cons b t ih =>
    intro u x y p2 p1 lf nm i h hc hr
    rcases u with _ | ⟨c, u⟩
    · exact absurd hc (by simp [CaseR])
    unfold CaseR at hc
    by_cases hs : p2 = 13 ∧ p1 = 10 ∧ b = 13 ∧ t.head? = some 10
    · rw [if_pos hs] at hc
      rw [hc]
      have hx := h.ten hs.2.1
      have hy : y.line = [] := List.length_eq_zero_iff.mp (by rw [h.line.1, hx]; rfl)
      rw [WS.ext_ h.f (by rw [hx, hy]) h.body h.ch]
    · rw [if_neg hs] at hc
      have key : (c = b ∨ (lf = true ∧ nm = true ∧ letter b = true ∧ c = flip b)) ∧ CaseR p1 c (lf || b == 10) (nextNm b nm) t u := by
        by_cases h10 : b = 10
        · rw [if_pos h10] at hc
          refine ⟨.inl hc.1, ?_⟩
          have e1 : (lf || b == 10) = true := by simp [h10]
          have e2 : nextNm b nm = true := by simp [nextNm, h10]
          rw [e1, e2]
          exact hc.2
        · rw [if_neg h10] at hc
          have e1 : (lf || b == 10) = lf := by simp [h10]
          rw [e1]
          by_cases h58 : b = 58
          · rw [if_pos h58] at hc
            refine ⟨.inl hc.1, ?_⟩
            have e2 : nextNm b nm = false := by simp [nextNm, h10, h58]
            rw [e2]
            exact hc.2
          · rw [if_neg h58] at hc
            have e2 : nextNm b nm = nm := by simp [nextNm, h10, h58]
            rw [e2]
            exact hc
      have hp := sim_put h (hr b (by simp)) hs key.1
      rw [runW_cons, runW_cons, hp.1]
      by_cases he : (x.put b).1.2 = 0
      · have h2 := hp.2 he
        have h3 : ¬ ((x.put b).1.2 ≠ 0) := by rw [he]; simp
        have h4 : ¬ ((x.put b).1.1 = true) := by rw [h2.1]; simp
        rw [if_neg h3, if_neg h3, if_neg h4, if_neg h4]
        exact ih u _ _ _ _ _ _ _ h2.2 key.2 (fun z hz => hr z (by simp [hz]))
      · rw [if_pos he, if_pos he]
theorem case_whole (l u : List Int) (hc : CaseR 0 0 false false l u) (hr : ∀ z ∈ l, 0 ≤ z ∧ z ≤ 255) : runW WS.fresh u 0 = runW WS.fresh l 0 :=
  case_run l u _ _ 0 0 false false 0 ⟨rfl, rfl, rfl, LR.refl _, by simp [WS.fresh], rfl, rfl, by simp [WS.fresh, WR.fresh], by simp [WS.fresh, WR.fresh], fun _ => rfl, by simp, by simp, by simp, by simp [WS.fresh], by simp [WS.fresh]⟩ hc hr
end Go.Proofs.Ytncpicfnlnkndaa.Wire
