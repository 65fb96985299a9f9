/- The program's escapes and appended characters. -/
import Derived.Test.YtphejmchkmciaaaGreatDoorSc
import Derived.Test.YtphejmchkmciaaaGreatDoorFj
set_option maxRecDepth 100000
namespace Go.Proofs.Cf
open Go.WF

/-! ### Bytes behind a place -/
theorem bt_ext {s : ByteArray} {a : Nat} (j : Nat) : bt (s.extract a s.size) j = bt s (a + j) := by
  simp only [bt, ByteArray.data_extract, Array.getD_eq_getD_getElem?, Array.getElem?_extract]
  split
  · rfl
  · rename_i h
    have : s.data.size ≤ a + j := by
      simp only [ByteArray.size, Nat.min_self] at h
      omega
    rw [Array.getElem?_eq_none this]

theorem size_ext {s : ByteArray} {a : Nat} : (s.extract a s.size).size = s.size - a := by
  simp

theorem findB_ext {s : ByteArray} {a : Nat} (ha : a ≤ s.size) (c : Int) (j : Nat) : findB (s.extract a s.size) j c + a = findB s (a + j) c := by
  induction h : s.size - (a + j) using Nat.strongRecOn generalizing j with
  | _ n ih =>
    rw [findB.eq_def (s.extract a s.size) j, findB.eq_def s (a + j)]
    by_cases hlt : a + j < s.size
    · rw [dif_pos (by rw [size_ext]; omega), dif_pos hlt, bt_ext]
      by_cases hc : bt s (a + j) = c
      · rw [if_pos hc, if_pos hc]; omega
      · rw [if_neg hc, if_neg hc, ih (s.size - (a + (j + 1))) (by omega) (j + 1) rfl]
        rfl
    · rw [dif_neg (by rw [size_ext]; omega), dif_neg hlt]; omega

theorem hexVal_ext {s : ByteArray} {a : Nat} : ∀ (k j : Nat) (n : Int), hexVal (s.extract a s.size) j n k = hexVal s (a + j) n k
  | 0, _, _ => rfl
  | k + 1, j, n => by
    simp only [hexVal, bt_ext]
    split
    · rfl
    · rw [hexVal_ext k (j + 1)]; rfl

theorem esc_ext {s : ByteArray} {a : Nat} (ha : a ≤ s.size) : esc (s.extract a s.size) 0 = esc s a := by
  unfold esc
  have hf := findB_ext ha 125 0
  simp only [Nat.add_zero] at hf
  simp only [bt_ext, size_ext, hexVal_ext, Nat.zero_add, Nat.sub_zero, ← hf]
  have e1 : (1 < s.size - a) ↔ (a + 1 < s.size) := by omega
  have e2 : (2 < s.size - a) ↔ (a + 2 < s.size) := by omega
  have e3 : (findB (s.extract a s.size) 0 125 < s.size - a) ↔ (findB (s.extract a s.size) 0 125 + a < s.size) := by omega
  have e4 : findB (s.extract a s.size) 0 125 + a - a = findB (s.extract a s.size) 0 125 := by omega
  simp only [e1, e2, e3, e4]

/-- Do three bytes stand at the beginning? -/
def pre3 (s : ByteArray) (x y z : Int) : Bool := decide (3 ≤ s.size) && (decide (bt s 0 = x) && (decide (bt s 1 = y) && decide (bt s 2 = z)))

theorem ext3 (s : ByteArray) (x y z : UInt8) (h : 3 ≤ s.size) : ((s.extract 0 3).toList == (bs [x, y, z]).toList) = (decide (bt s 0 = x.toNat) && (decide (bt s 1 = y.toNat) && decide (bt s 2 = z.toNat))) := by
  obtain ⟨⟨l⟩⟩ := s
  rw [str_eq]
  match l, h with
  | a :: b :: c :: l, _ =>
    have e : (ByteArray.mk ⟨a :: b :: c :: l⟩).extract 0 3 = bs [a, b, c] := by
      apply ByteArray.ext
      rw [ByteArray.data_extract]
      apply Array.ext'
      rw [Array.toList_extract, List.extract_eq_take_drop]
      rfl
    rw [e]
    have hb : ∀ (u v : UInt8), ((u.toNat : Int) = v.toNat) ↔ u = v := fun u v => by
      rw [← UInt8.toNat_inj]
      omega
    simp only [bt, Array.getD, List.size_toArray, List.length_cons]
    simp [hb]
  | [], h => simp [ByteArray.size] at h
  | [_], h => simp [ByteArray.size] at h
  | [_, _], h => simp [ByteArray.size] at h

theorem hasPrefix_c (s : ByteArray) (x y z : UInt8) : Gives 47 [.string s, .string (bs [x, y, z])] [.bool (pre3 s x.toNat y.toNat z.toNat)] := by
  intro w
  refine calls_tree hm Tryz.func47 (d47_ok _ _) ?_
  unfold d47
  have h73 : Gives 73 [.string s, .string (bs [x, y, z])] [.bool (pre3 s x.toNat y.toNat z.toNat)] := by
    intro w
    refine calls_tree hm Tryz.func73 (d73_ok _ _) ?_
    unfold d73
    have hz : ((bs [x, y, z]).size : Int) = 3 := rfl
    rw [hz]
    refine wBlk (wIf (fun h => ?_) (fun h => ?_))
    · simp only [decide_eq_true_eq] at h
      refine wChk (by simp; omega) ?_
      refine wJump (_, ()) rfl (wRet ⟨?_, rfl⟩)
      show Ending.returned (tupOf [.bool ((s.extract 0 3).toList == (bs [x, y, z]).toList)]) = _
      rw [ext3 s x y z (by omega)]
      simp [pre3, show 3 ≤ s.size by omega]
    · simp only [decide_eq_false_iff_not] at h
      refine wJump (_, ()) rfl (wRet ⟨tb ?_, rfl⟩)
      simp [pre3, show ¬ 3 ≤ s.size by omega]
  refine wG h73 (_, ()) rfl (wRet ⟨rfl, rfl⟩)

theorem validRune_c (n : Int) : Gives 80 [.int .i32 n] [.bool (scalar n)] := by
  intro w
  refine calls_tree hm Tryz.func80 (d80_ok _) ?_
  unfold d80
  refine wBlk ?_
  repeat' first
    | refine wIf (fun _ => ?_) (fun _ => ?_)
    | refine wJump (_, ()) rfl ?_
    | refine wBlk ?_
    | refine wRet ⟨tb ?_, rfl⟩
  all_goals
    simp_all [scalar]
    try omega

theorem wrap32 {n : Int} (h0 : -2147483648 ≤ n) (h1 : n ≤ 2147483647) : IntKind.wrap .i32 n = n := by
  simp only [IntKind.wrap, IntKind.bits, IntKind.signed]
  simp
  omega

theorem hexv_hi (c : Int) : hexv c ≤ 15 := by
  unfold hexv
  split
  · rename_i h
    simp only [isDig, Bool.and_eq_true, decide_eq_true_eq] at h
    omega
  · split
    · omega
    · split <;> omega

/-- What an escape comes to: its character. -/
def esc1 : Option (Int × Nat) → Int
  | some (n, _) => n
  | none => 0

/-- .. and its length. -/
def esc2 : Option (Int × Nat) → Int
  | some (_, k) => (k : Int)
  | none => 0

/-- A numbered escape at the beginning. -/
def numS (s : ByteArray) : Option (Int × Nat) :=
  if 2 < s.size ∧ bt s 0 = 92 ∧ bt s 1 = 117 ∧ bt s 2 = 123 ∧ findB s 0 125 < s.size ∧ 4 ≤ findB s 0 125 ∧ findB s 0 125 ≤ 9 then
    match hexVal s 3 0 (findB s 0 125 - 3) with
    | some n => if scalar n then some (n, findB s 0 125 + 1) else none
    | none => none
  else none

theorem numbered_c (s : ByteArray) (hs : s.size < 2 ^ 62) : Gives 71 [.string s] [.int .i32 (esc1 (numS s)), .int .i64 (esc2 (numS s))] := by
  intro w
  refine calls_tree hm Tryz.func71 (d71_ok _) ?_
  unfold d71
  refine wCall (Tryz.strings_IndexByte _ _ _) ?_
  rintro x w1 ⟨rfl, rfl⟩
  refine ⟨(_, ()), rfl, ?_⟩
  have e0 : s.extract 0 s.size = s := by
    apply ByteArray.ext
    rw [ByteArray.data_extract]
    show s.data.extract 0 s.data.size = s.data
    simp
  have hix := indexByte_find s 125 (by omega) 0
  rw [e0] at hix
  have e3 : Lib.indexByte s.data.toList (125 : Int).toNat.toUInt8 = if findB s 0 125 < s.size then ((findB s 0 125 : Nat) : Int) else -1 := by
    have h' : Lib.indexByte s.data.toList (UInt8.ofNat 125) = if findB s 0 125 < s.size then ((findB s 0 125 : Nat) : Int) - ((0 : Nat) : Int) else -1 := hix
    refine Eq.trans h' ?_
    simp
  rw [e3]
  have hpre : pre3 s 92 117 123 = decide (2 < s.size ∧ bt s 0 = 92 ∧ bt s 1 = 117 ∧ bt s 2 = 123) := by
    rw [Bool.eq_iff_iff]
    simp only [pre3, Bool.and_eq_true, decide_eq_true_eq]
    omega
  refine wBlkK (fun xs w' => w' = w1 ∧ xs.1 = !(decide (2 < s.size ∧ bt s 0 = 92 ∧ bt s 1 = 117 ∧ bt s 2 = 123 ∧ findB s 0 125 < s.size ∧ 4 ≤ findB s 0 125 ∧ findB s 0 125 ≤ 9))) ?_ (fun rest => ?_)
  · rintro ⟨b, ⟨⟩⟩ w' ⟨rfl, hb⟩
    simp only [] at hb
    subst hb
    refine wIf (fun h => wRet ⟨?_, rfl⟩) (fun h => ?_)
    · have h' : ¬ (2 < s.size ∧ bt s 0 = 92 ∧ bt s 1 = 117 ∧ bt s 2 = 123 ∧ findB s 0 125 < s.size ∧ 4 ≤ findB s 0 125 ∧ findB s 0 125 ≤ 9) := by
        rw [Bool.not_eq_true'] at h
        exact of_decide_eq_false h
      simp only [numS, h', if_false]
      rfl
    · have h' : 2 < s.size ∧ bt s 0 = 92 ∧ bt s 1 = 117 ∧ bt s 2 = 123 ∧ findB s 0 125 < s.size ∧ 4 ≤ findB s 0 125 ∧ findB s 0 125 ≤ 9 := by
        rw [Bool.not_eq_false'] at h
        exact of_decide_eq_true h
      rw [if_pos h'.2.2.2.2.1]
      have hnum : numS s = match hexVal s 3 0 (findB s 0 125 - 3) with
          | some n => if scalar n then some (n, findB s 0 125 + 1) else none
          | none => none := by simp only [numS, h', and_self, if_true]
      obtain ⟨_, _, _, _, hlt, h4, h9⟩ := h'
      generalize hE : findB s 0 125 = E at *
      refine wLoop (fun n xs w'' => ∃ i : Nat, xs.2.1 = (i : Int) ∧ 3 ≤ i ∧ i ≤ E ∧ n = E - i ∧ w'' = w' ∧ 0 ≤ xs.1 ∧ xs.1 < 16 ^ (i - 3) ∧ hexVal s 3 0 (E - 3) = hexVal s i xs.1 (E - i)) (E - 3) (0, 3, ()) rfl ⟨3, rfl, by omega, by omega, rfl, rfl, by simp, by simp, rfl⟩ ?_
      rintro n ⟨(x : Int), _, ⟨⟩⟩ w'' ⟨i, rfl, hi3, hiE, rfl, rfl, hx0, hx1, hv⟩
      replace hx0 : (0 : Int) ≤ x := hx0
      replace hx1 : x < (16 : Int) ^ (i - 3) := hx1
      replace hv : hexVal s 3 0 (E - 3) = hexVal s i x (E - i) := hv
      have hp : (16 : Int) ^ (i - 3) ≤ 16 ^ 6 := by
        have : (16 : Nat) ^ (i - 3) ≤ 16 ^ 6 := Nat.pow_le_pow_right (by omega) (by omega)
        exact_mod_cast this
      have hp6 : (16 : Int) ^ 6 = 16777216 := by decide
      refine wIf (fun hlt' => ?_) (fun hge => ?_)
      · have hiE' : i < E := by simp at hlt'; omega
        refine wChk (by simp; omega) ?_
        have eb : byteAt s (i : Int) = bt s i := rfl
        rw [eb]
        refine wG (hexa_c _ (bt_lo s i).1 (bt_lo s i).2) (_, ()) rfl ?_
        have hstep : hexVal s i x (E - i) = if hexv (bt s i) < 0 then none else hexVal s (i + 1) (16 * x + hexv (bt s i)) (E - (i + 1)) := by
          rw [show E - i = (E - (i + 1)) + 1 from by omega]
          rfl
        refine wIf (fun hneg => wRet ⟨?_, rfl⟩) (fun hpos => ?_)
        · have hneg' : hexv (bt s i) < 0 := by simpa using hneg
          rw [hnum, hv, hstep, if_pos hneg']
          rfl
        · have hpos' : ¬ hexv (bt s i) < 0 := by simpa using hpos
          have hhi := hexv_hi (bt s i)
          have hpow : (16 : Int) ^ (i + 1 - 3) = 16 * 16 ^ (i - 3) := by
            rw [show i + 1 - 3 = (i - 3) + 1 from by omega, Int.pow_succ]
            omega
          have hp' : (16 : Int) ^ (i - 3) ≤ 16 ^ 5 := by
            have : (16 : Nat) ^ (i - 3) ≤ 16 ^ 5 := Nat.pow_le_pow_right (by omega) (by omega)
            exact_mod_cast this
          have hp5 : (16 : Int) ^ 5 = 1048576 := by decide
          refine wJump (16 * x + hexv (bt s i), ((i + 1 : Nat) : Int), ()) ?_ ⟨E - (i + 1), by omega, i + 1, rfl, by omega, by omega, rfl, rfl, ?_, ?_, ?_⟩
          · have h1 : IntKind.wrap .i32 (16 * x) = 16 * x := wrap32 (by omega) (by omega)
            have h2 : IntKind.wrap .i32 (16 * x + hexv (bt s i)) = 16 * x + hexv (bt s i) := wrap32 (by omega) (by omega)
            have h3 : IntKind.wrap .i64 ((i : Int) + 1) = ((i + 1 : Nat) : Int) := by rw [wrap64 (by omega) (by omega)]; rfl
            rw [h1, h2, h3]
            rfl
          · show 0 ≤ 16 * x + hexv (bt s i)
            omega
          · show 16 * x + hexv (bt s i) < 16 ^ (i + 1 - 3)
            omega
          · show _ = hexVal s (i + 1) (16 * x + hexv (bt s i)) (E - (i + 1))
            rw [hv, hstep, if_neg hpos']
      · have hiE' : i = E := by simp at hge; omega
        subst hiE'
        rw [Nat.sub_self] at hv
        have hv' : hexVal s 3 0 (i - 3) = some x := hv
        refine wG (validRune_c _) (_, ()) rfl ?_
        rw [hv'] at hnum
        simp only [] at hnum
        refine wIf (fun hn => wRet ⟨?_, rfl⟩) (fun hy => wRet ⟨?_, rfl⟩)
        · have hn' : scalar x = false := by simpa using hn
          rw [hnum, hn']
          rfl
        · have hy' : scalar x = true := by simpa using hy
          rw [hnum, hy']
          have h3 : IntKind.wrap .i64 ((i : Int) + 1) = ((i + 1 : Nat) : Int) := by rw [wrap64 (by omega) (by omega)]; rfl
          rw [h3]
          rfl
  · refine wG (hasPrefix_c s 92 117 123) (_, ()) rfl ?_
    have hp : pre3 s (92 : UInt8).toNat (117 : UInt8).toNat (123 : UInt8).toNat = decide (2 < s.size ∧ bt s 0 = 92 ∧ bt s 1 = 117 ∧ bt s 2 = 123) := hpre
    rw [hp]
    refine wIf (fun h => wJump (_, ()) rfl (rest _ _ ⟨rfl, ?_⟩)) (fun h => ?_)
    · simp only [Bool.not_eq_true', decide_eq_false_iff_not] at h
      show true = !(decide _)
      rw [decide_eq_false (fun hh => h ⟨hh.1, hh.2.1, hh.2.2.1, hh.2.2.2.1⟩)]
      rfl
    · simp only [Bool.not_eq_false', decide_eq_true_eq] at h
      refine wIf (fun h2 => wJump (_, ()) rfl (rest _ _ ⟨rfl, ?_⟩)) (fun h2 => wJump (_, ()) rfl (rest _ _ ⟨rfl, ?_⟩))
      · show true = !(decide _)
        rw [decide_eq_false (fun hh => ?_)]
        · rfl
        · rw [if_pos hh.2.2.2.2.1] at h2
          simp at h2
          omega
      · by_cases hl : findB s 0 125 < s.size
        · rw [if_pos hl] at h2 ⊢
          simp only [decide_eq_false_iff_not] at h2
          show decide _ = !(decide _)
          rw [← decide_not]
          apply decide_eq_decide.2
          omega
        · rw [if_neg hl] at h2
          simp at h2

theorem esc_num (s : ByteArray) (h : 1 < s.size) (h0 : bt s 0 = 92) (h1 : bt s 1 = 117) : esc s 0 = numS s := by
  unfold esc numS
  rw [if_pos (by omega)]
  simp only [Nat.zero_add, h1, h0, Nat.sub_zero]
  rw [if_neg (by omega), if_neg (by omega), if_neg (by omega), if_pos trivial]
  by_cases hc : 2 < s.size ∧ bt s 2 = 123 ∧ findB s 0 125 < s.size ∧ 4 ≤ findB s 0 125 ∧ findB s 0 125 ≤ 9
  · rw [if_pos hc, if_pos ⟨hc.1, trivial, trivial, hc.2⟩]
    rfl
  · rw [if_neg hc, if_neg (fun hh => hc ⟨hh.1, hh.2.2.2⟩)]

theorem escape_c (s : ByteArray) (hs : s.size < 2 ^ 62) (h0 : bt s 0 = 92) : Gives 45 [.string s] [.int .i32 (esc1 (esc s 0)), .int .i64 (esc2 (esc s 0))] := by
  intro w
  refine calls_tree hm Tryz.func45 (d45_ok _) ?_
  unfold d45
  have eb : byteAt s 1 = bt s 1 := rfl
  rw [eb]
  have hb := bt_lo s 1
  refine wIf (fun h => wRet ⟨?_, rfl⟩) (fun h => ?_)
  · simp only [decide_eq_true_eq] at h
    unfold esc
    rw [if_neg (by omega)]
    rfl
  simp only [decide_eq_false_iff_not] at h
  have h2 : 1 < s.size := by omega
  have hesc : esc s 0 = if bt s 1 = 34 ∨ bt s 1 = 92 then some (bt s 1, 2) else if bt s 1 = 110 then some (10, 2) else if bt s 1 = 116 then some (9, 2) else if bt s 1 = 117 then numS s else none := by
    by_cases h117 : bt s 1 = 117
    · rw [esc_num s h2 h0 h117, h117]
      simp
    · unfold esc
      rw [if_pos (by omega)]
      simp only [Nat.zero_add, if_neg h117]
  rw [hesc]
  refine wChk (by simp; omega) ?_
  refine wBlkK (fun xs w' => w' = w ∧ xs.1 = decide (bt s 1 = 34 ∨ bt s 1 = 92)) ?_ (fun rest => ?_)
  · rintro ⟨b, ⟨⟩⟩ w' ⟨rfl, hb'⟩
    simp only [] at hb'
    subst hb'
    refine wIf (fun h3 => ?_) (fun h3 => ?_)
    · simp only [decide_eq_true_eq] at h3
      refine wChk (by simp; omega) (wRet ⟨?_, rfl⟩)
      rw [if_pos h3, wrap32 (by omega) (by omega)]
      rfl
    simp only [decide_eq_false_iff_not] at h3
    rw [if_neg h3]
    refine wIf (fun h4 => wRet ⟨?_, rfl⟩) (fun h4 => ?_)
    · rw [if_pos (by simpa using h4)]; rfl
    rw [if_neg (by simpa using h4)]
    refine wIf (fun h5 => wRet ⟨?_, rfl⟩) (fun h5 => ?_)
    · rw [if_pos (by simpa using h5)]; rfl
    rw [if_neg (by simpa using h5)]
    refine wIf (fun h6 => ?_) (fun h6 => wRet ⟨?_, rfl⟩)
    · rw [if_pos (by simpa using h6)]
      refine wG (numbered_c s hs) (_, _, ()) rfl (wRet ⟨rfl, rfl⟩)
    · rw [if_neg (by simpa using h6)]; rfl
  · refine wIf (fun h3 => wJump (_, ()) rfl (rest _ _ ⟨rfl, ?_⟩)) (fun h3 => wJump (_, ()) rfl (rest _ _ ⟨rfl, ?_⟩))
    · simp only [beq_iff_eq] at h3
      simp [h3]
    · simp only [beq_eq_false_iff_ne] at h3
      rw [Bool.eq_iff_iff]
      simp [h3]

end Go.Proofs.Cf
