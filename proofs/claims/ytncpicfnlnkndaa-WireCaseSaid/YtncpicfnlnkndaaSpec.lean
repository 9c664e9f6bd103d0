/- What the texts of package wire's head say, in plain lists: small letters, the colon of a line, pieces, targets, numbers. No program is named. -/
import Derived.Test.YtncpicfnlnkndaaMem
set_option linter.unusedVariables false
set_option linter.unusedSimpArgs false
namespace Go.Proofs.Ytncpicfnlnkndaa.Spec
open Go.RowKit Go.Proofs.YtncpicfnlnkndaaW.PrintWords

def lower (c : Int) : Int := if 65 ≤ c ∧ c ≤ 90 then c + 32 else c
def small (s : ByteArray) : ByteArray := strOfNums ((bytesOf s).map lower)

/-- A letter or '-'. -/
def nameCh (c : Int) : Bool := decide (97 ≤ c ∧ c ≤ 122) || decide (65 ≤ c ∧ c ≤ 90) || decide (c = 45)
/-- The place of the first colon, if all ahead of it are letters or '-'; from i on, n bytes are left. -/
def colonFrom (s : ByteArray) : Nat → Nat → Option Nat
  | 0, _ => none
  | n + 1, i => if bt s i = 58 then some i else if nameCh (bt s i) = true then colonFrom s n (i + 1) else none
def colon (s : ByteArray) : Option Nat :=
  match colonFrom s s.size 0 with
  | some i => if 0 < i ∧ i ≤ 32 ∧ i + 1 < s.size ∧ bt s ((i : Int) + 1) = 32 then some i else none
  | none => none

/-- The pieces of a text: 'from' is where the piece under way begins, i where one looks, n how many are left. -/
def piecesFrom (s : ByteArray) (d : Int) : Nat → Nat → Nat → List ByteArray
  | 0, b, i => [s.extract b i]
  | n + 1, b, i => if bt s i = d then s.extract b i :: piecesFrom s d n (i + 1) (i + 1) else piecesFrom s d n b (i + 1)
def pieces (s : ByteArray) (d : Int) : List ByteArray := piecesFrom s d s.size 0 0

def targetCh (c : Int) : Bool := decide (97 ≤ c ∧ c ≤ 122) || decide (48 ≤ c ∧ c ≤ 57) || decide (c = 45) || decide (c = 47)
def isTarget (s : ByteArray) : Bool := decide (s.size ≠ 0) && decide (bt s 0 = 47) && decide (s.size ≤ 64) && (bytesOf s).all targetCh

def httpL : List UInt8 := [72, 84, 84, 80, 47, 49, 46, 49]
def getL : List UInt8 := [71, 69, 84]
def putL : List UInt8 := [80, 85, 84]
def postL : List UInt8 := [80, 79, 83, 84]
def authL : List UInt8 := [97, 117, 116, 104, 111, 114, 105, 122, 97, 116, 105, 111, 110]
def lenL : List UInt8 := [99, 111, 110, 116, 101, 110, 116, 45, 108, 101, 110, 103, 116, 104]
def encL : List UInt8 := [116, 114, 97, 110, 115, 102, 101, 114, 45, 101, 110, 99, 111, 100, 105, 110, 103]
def bearerL : List UInt8 := [66, 101, 97, 114, 101, 114, 32]
def chunkedL : List UInt8 := [99, 104, 117, 110, 107, 101, 100]

/-- A request's first line. -/
def first (s : ByteArray) : Option (ByteArray × ByteArray) :=
  match pieces s 32 with
  | [m, t, v] => if v.toList = httpL ∧ (m.toList = getL ∨ m.toList = putL ∨ m.toList = postL) ∧ isTarget t = true then some (m, t) else none
  | _ => none

/-- The number that decimal digits are. -/
def decVal (l : List Int) : Int := l.foldl (fun u c => 10 * u + (c - 48)) 0
def isDig (c : Int) : Bool := decide (48 ≤ c ∧ c ≤ 57)
def readDec (s : ByteArray) : Option Int :=
  if s.size = 0 ∨ 19 < s.size ∨ (bt s 0 = 48 ∧ 1 < s.size) then none
  else if (bytesOf s).all isDig = true then (if decVal (bytesOf s) > 9223372036854775807 then none else some (decVal (bytesOf s))) else none

theorem lower_range {c : Int} (h0 : 0 ≤ c) (h1 : c ≤ 255) : 0 ≤ lower c ∧ lower c ≤ 255 := by unfold lower; split <;> omega
theorem colonFrom_lt {s : ByteArray} : ∀ (n i j : Nat), colonFrom s n i = some j → i ≤ j ∧ j < i + n := by
  intro n
  induction n with
  | zero => intro i j h; simp [colonFrom] at h
  | succ n ih =>
    intro i j h
    unfold colonFrom at h
    split at h
    · injection h with h; omega
    · split at h
      · have := ih (i + 1) j h; omega
      · cases h
theorem colon_some {s : ByteArray} {i : Nat} (h : colon s = some i) : 0 < i ∧ i ≤ 32 ∧ i + 1 < s.size := by
  unfold colon at h
  split at h
  · split at h
    · injection h with h
      subst h
      omega
    · cases h
  · cases h
end Go.Proofs.Ytncpicfnlnkndaa.Spec
