/- The reference's list of tokens: plain words. -/
import Derived.Test.YtphejmchkmciaaaGreatDoorTf
set_option maxRecDepth 100000
set_option linter.unusedVariables false
namespace Go.Proofs.Cf
open Go.WF

/-- A token of the reference: its kind, its place, its text. -/
structure TK where
  k : Int
  a : Nat
  v : ByteArray

/-- The reference's token for what is read next. -/
def tkOf (s : ByteArray) : LR → TK
  | .tok k a v _ => ⟨k + 2, a, v⟩
  | .fin true _ => ⟨0, s.size, bs []⟩
  | .fin false pos => ⟨1, pos, bs []⟩

/-- All tokens from a place on. -/
def toks (s : ByteArray) : Nat → Nat → List TK
  | 0, _ => []
  | n + 1, p => match lexS s p with
    | .tok k a v q => ⟨k + 2, a, v⟩ :: toks s n q
    | l => [tkOf s l]

abbrev tkC (t : TK) : List Value := [.int .i64 t.k, .int .i64 (t.a : Int), .string t.v]

def tksC (l : List TK) : List Value := l.flatMap tkC

theorem tksC_snoc (l : List TK) (t : TK) : tksC (l ++ [t]) = tksC l ++ tkC t := by
  simp [tksC, List.flatMap_append]

theorem tksC_length (l : List TK) : (tksC l).length = l.length * 3 := by
  induction l with
  | nil => rfl
  | cons t l ih =>
    show (tkC t ++ tksC l).length = _
    rw [List.length_append, ih]
    show 3 + l.length * 3 = (l.length + 1) * 3
    omega

end Go.Proofs.Cf
