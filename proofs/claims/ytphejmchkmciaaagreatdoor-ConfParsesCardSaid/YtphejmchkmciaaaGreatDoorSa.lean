/- The plain words of a resource file's reading: characters, tokens, keys, the whole text. Plain functions of bytes and numbers; no program in sight. -/
import Derived.Test.YtphejmchkmciaaaGreatDoorFa
import Derived.Lib.Bytealg
namespace Go.Proofs.Cf
open Go.WF

/-- The byte at a place. -/
def bt (s : ByteArray) (i : Nat) : Int := (s.data.getD i 0).toNat

theorem bt_lo (s : ByteArray) (i : Nat) : 0 ≤ bt s i ∧ bt s i ≤ 255 := by
  have := (s.data.getD i 0).toNat_lt
  unfold bt
  omega

theorem byteAt_bt (s : ByteArray) (i : Nat) : byteAt s (i : Int) = bt s i := rfl

def isDig (c : Int) : Bool := decide (48 ≤ c) && decide (c ≤ 57)
def isLet (c : Int) : Bool := (decide (65 ≤ c) && decide (c ≤ 90)) || (decide (97 ≤ c) && decide (c ≤ 122))
def isWd (c : Int) : Bool := isLet c || isDig c || c == 45 || c == 95 || c == 46
def isBlank (c : Int) : Bool := c == 32 || c == 9 || c == 10 || c == 13

/-- The first such byte from a place on (or the end). -/
def findB (s : ByteArray) (i : Nat) (c : Int) : Nat :=
  if h : i < s.size then (if bt s i = c then i else findB s (i + 1) c) else i
termination_by s.size - i

theorem findB_ge (s : ByteArray) (i : Nat) (c : Int) : i ≤ findB s i c := by
  induction h : s.size - i using Nat.strongRecOn generalizing i with
  | _ n ih =>
    rw [findB]
    split
    · split
      · exact Nat.le_refl _
      · have := ih (s.size - (i + 1)) (by omega) (i + 1) rfl
        omega
    · exact Nat.le_refl _

theorem findB_le (s : ByteArray) (i : Nat) (c : Int) (hi : i ≤ s.size) : findB s i c ≤ s.size := by
  induction h : s.size - i using Nat.strongRecOn generalizing i with
  | _ n ih =>
    rw [findB]
    split
    · split
      · exact hi
      · exact ih (s.size - (i + 1)) (by omega) (i + 1) (by omega) rfl
    · exact hi

theorem tailL (s : ByteArray) (i : Nat) : (s.extract i s.size).data.toList = s.data.toList.drop i := by
  rw [ByteArray.data_extract, Array.toList_extract, List.extract_eq_take_drop]
  rw [List.take_of_length_le]
  rw [List.length_drop]
  exact Nat.le_refl _

theorem indexByte_find (s : ByteArray) (c : Nat) (hc : c < 256) (i : Nat) : Lib.indexByte (s.extract i s.size).data.toList (UInt8.ofNat c) = if findB s i c < s.size then ((findB s i c : Nat) : Int) - i else -1 := by
  rw [tailL]
  induction h : s.size - i using Nat.strongRecOn generalizing i with
  | _ n ih =>
    by_cases hlt : i < s.size
    · have hl : i < s.data.toList.length := by simpa using hlt
      rw [List.drop_eq_getElem_cons hl, findB, dif_pos hlt]
      have hb : bt s i = (s.data.toList[i].toNat : Int) := by
        simp [bt, Array.getD, hlt]
      have hge := findB_ge s (i + 1) c
      simp only [Lib.indexByte]
      by_cases he : bt s i = c
      · have : (s.data.toList[i] == UInt8.ofNat c) = true := by
          rw [beq_iff_eq]
          apply UInt8.toNat_inj.1
          rw [UInt8.toNat_ofNat']
          rw [hb] at he
          omega
        rw [if_pos this, if_pos he, if_pos hlt]
        omega
      · have : (s.data.toList[i] == UInt8.ofNat c) = false := by
          rw [beq_eq_false_iff_ne]
          intro h'
          apply he
          rw [hb, h', UInt8.toNat_ofNat']
          omega
        rw [this, if_neg (by simp), if_neg he, ih (s.size - (i + 1)) (by omega) (i + 1) rfl]
        by_cases hin : findB s (i + 1) c < s.size
        · rw [if_pos hin, if_pos hin]
          have : ((((findB s (i + 1) c : Nat) : Int) - ((i + 1 : Nat) : Int)) == -1) = false := by
            rw [beq_eq_false_iff_ne]; omega
          rw [this, if_neg (by simp)]
          omega
        · rw [if_neg hin, if_neg hin]
          simp
    · rw [List.drop_eq_nil_of_le (by simpa using Nat.le_of_not_lt hlt), findB, dif_neg hlt, if_neg hlt]
      rfl

/-- The end of the line. -/
abbrev lineEnd (s : ByteArray) (i : Nat) : Nat := findB s i 10

theorem lineEnd_ge (s : ByteArray) (i : Nat) : i ≤ lineEnd s i := findB_ge s i 10

theorem lineEnd_le (s : ByteArray) (i : Nat) (hi : i ≤ s.size) : lineEnd s i ≤ s.size := findB_le s i 10 hi

/-- Behind blanks and comments. -/
def blankTo (s : ByteArray) (i : Nat) : Nat :=
  if h : i < s.size then
    if isBlank (bt s i) then blankTo s (i + 1)
    else if bt s i = 35 then blankTo s (lineEnd s (i + 1))
    else i
  else i
termination_by s.size - i
decreasing_by
  · omega
  · have := lineEnd_ge s (i + 1); omega

theorem blankTo_ge (s : ByteArray) (i : Nat) : i ≤ blankTo s i := by
  induction h : s.size - i using Nat.strongRecOn generalizing i with
  | _ n ih =>
    rw [blankTo]
    split
    · split
      · have := ih (s.size - (i + 1)) (by omega) (i + 1) rfl; omega
      · split
        · have h1 := lineEnd_ge s (i + 1)
          have := ih (s.size - lineEnd s (i + 1)) (by omega) (lineEnd s (i + 1)) rfl; omega
        · exact Nat.le_refl _
    · exact Nat.le_refl _

def wordEnd (s : ByteArray) (i : Nat) : Nat :=
  if h : i < s.size then (if isWd (bt s i) then wordEnd s (i + 1) else i) else i
termination_by s.size - i

theorem wordEnd_ge (s : ByteArray) (i : Nat) : i ≤ wordEnd s i := by
  induction h : s.size - i using Nat.strongRecOn generalizing i with
  | _ n ih =>
    rw [wordEnd]
    split
    · split
      · have := ih (s.size - (i + 1)) (by omega) (i + 1) rfl; omega
      · exact Nat.le_refl _
    · exact Nat.le_refl _

def isNm (c : Int) : Bool := isLet c || isDig c || c == 45 || c == 95

def nameRest (s : ByteArray) (i : Nat) : Bool :=
  if h : i < s.size then isNm (bt s i) && nameRest s (i + 1) else true
termination_by s.size - i

/-- Is it a resource's name? -/
def nameOk (s : ByteArray) : Bool := decide (1 ≤ s.size) && decide (s.size ≤ 31) && isLet (bt s 0) && nameRest s 1

/-- Is it a character's number? -/
def scalar (n : Int) : Bool := decide (0 ≤ n) && decide (n ≤ 1114111) && (decide (n < 55296) || decide (57343 < n))

def hexv (c : Int) : Int :=
  if isDig c then c - 48 else if 97 ≤ c ∧ c ≤ 102 then c - 87 else if 65 ≤ c ∧ c ≤ 70 then c - 55 else -1

/-- A character's bytes. -/
def utf (n : Int) : List UInt8 := (Utf8.encode n).data.toList

/-- The well-formed character at a place: its number and how many bytes it has. -/
def chr (s : ByteArray) (i : Nat) : Option (Int × Nat) :=
  let d := Utf8.decode s i
  if d.1 = 65533 ∧ ¬ (i + 3 ≤ s.size ∧ bt s i = 239 ∧ bt s (i + 1) = 191 ∧ bt s (i + 2) = 189) then none else some ((d.1 : Int), d.2)

/-- The value of hexadecimal digits from a place on, k of them, onto n. none: one is no digit. -/
def hexVal (s : ByteArray) (j : Nat) (n : Int) : Nat → Option Int
  | 0 => some n
  | k + 1 => if hexv (bt s j) < 0 then none else hexVal s (j + 1) (16 * n + hexv (bt s j)) k

/-- The escape at a place: its character and how many bytes it has. -/
def esc (s : ByteArray) (i : Nat) : Option (Int × Nat) :=
  if i + 1 < s.size then
    if bt s (i + 1) = 34 ∨ bt s (i + 1) = 92 then some (bt s (i + 1), 2)
    else if bt s (i + 1) = 110 then some (10, 2)
    else if bt s (i + 1) = 116 then some (9, 2)
    else if bt s (i + 1) = 117 then
      let e := findB s i 125
      if i + 2 < s.size ∧ bt s (i + 2) = 123 ∧ e < s.size ∧ 4 ≤ e - i ∧ e - i ≤ 9 then
        match hexVal s (i + 3) 0 (e - i - 3) with
        | some n => if scalar n then some (n, e - i + 1) else none
        | none => none
      else none
    else none
  else none

/-- A string token from behind its first quotation mark on, acc so far: its value and the place behind it; or the place of the fault. -/
def strTok (s : ByteArray) (i : Nat) (acc : List UInt8) : Except Nat (List UInt8 × Nat) :=
  if _h : i < s.size then
    if bt s i = 34 then .ok (acc, i + 1)
    else if bt s i = 92 then
      match esc s i with
      | some (n, w) => if _hw : 0 < w then strTok s (i + w) (acc ++ utf n) else .error i
      | none => .error i
    else
      match chr s i with
      | some (n, w) => if n < 32 ∨ n = 127 then .error i else if _hw : 0 < w then strTok s (i + w) (acc ++ utf n) else .error i
      | none => .error i
  else .error s.size
termination_by s.size - i

/-- What is read next: the end or a fault (whether it is the end, and the place), or a token (0: a word, 1: a mark, 2: a string), its place, its value, the place behind it. -/
inductive LR where
  | fin (e : Bool) (pos : Nat)
  | tok (k : Int) (a : Nat) (v : ByteArray) (p : Nat)

def lexS (s : ByteArray) (p : Nat) : LR :=
  let q := blankTo s p
  if q < s.size then
    if isWd (bt s q) then .tok 0 q (s.extract q (wordEnd s q)) (wordEnd s q)
    else if bt s q = 123 ∨ bt s q = 125 ∨ bt s q = 59 then .tok 1 q (s.extract q (q + 1)) (q + 1)
    else if bt s q = 34 then
      match strTok s (q + 1) [] with
      | .ok (v, e) => .tok 2 q ⟨v.toArray⟩ e
      | .error pos => .fin false pos
    else .fin false q
  else .fin true s.size

end Go.Proofs.Cf
