/- The reference's small functions compute the plain words. -/
import Derived.Test.YtphejmchkmciaaaGreatDoorSq
import Derived.Test.YtphejmchkmciaaaGreatDoorDb
set_option maxRecDepth 100000
set_option linter.unusedVariables false
namespace Go.Proofs.Cf
open Go.WF

theorem wordy_c (c : Int) : Gives 23 [.int .u8 c] [.bool (isWd c)] := by
  intro w
  refine calls_tree hm Tryz.func23 (d23_ok c) ?_
  unfold d23
  refine wBlk ?_
  repeat' first
    | refine wIf (fun _ => ?_) (fun _ => ?_)
    | refine wJump (_, ()) rfl (wRet ⟨tb ?_, rfl⟩)
  all_goals
    simp only [decide_eq_true_eq, decide_eq_false_iff_not, beq_iff_eq, beq_eq_false_iff_ne, ne_eq] at *
    simp only [isWd, isLet, isDig, Bool.or_eq_true, Bool.and_eq_true, decide_eq_true_eq, beq_iff_eq, true_iff]
    omega

theorem scalar_c (n : Int) : Gives 67 [.int .i64 n] [.bool (scalar n)] := by
  intro w
  refine calls_tree hm Tryz.func67 (d67_ok n) ?_
  unfold d67
  refine wBlk ?_
  repeat' first
    | refine wIf (fun _ => ?_) (fun _ => ?_)
    | refine wJump (_, ()) rfl (wRet ⟨tb ?_, rfl⟩)
  all_goals
    simp only [decide_eq_true_eq, decide_eq_false_iff_not] at *
    simp only [scalar, Bool.or_eq_true, Bool.and_eq_true, decide_eq_true_eq, true_iff, Bool.false_eq_true, false_iff]
    omega

theorem hexed_c (c : Int) (h0 : 0 ≤ c) (h1 : c ≤ 255) : Gives 68 [.int .u8 c] [.int .i64 (hexv c)] := by
  intro w
  refine calls_tree hm Tryz.func68 (d68_ok c) ?_
  unfold d68
  have w8 : ∀ k : Int, k ≤ c → 0 ≤ k → IntKind.wrap .u8 (c - k) = c - k := fun k hk hk0 => by rw [wrap8]; omega
  have fin : ∀ x : Int, x = hexv c → (T.ret [.int .i64 x]).wp Tryz.prog (fun e w' => e = .returned (tupOf [.int .i64 (hexv c)]) ∧ w' = w) w := fun x hx => wRet ⟨by rw [hx], rfl⟩
  refine wBlkK (fun xs w' => w' = w ∧ xs.1 = isDig c) ?_ (fun rest => ?_)
  · rintro ⟨b, ⟨⟩⟩ w' ⟨rfl, hb⟩
    simp only [] at hb
    subst hb
    refine wIf (fun hd => fin _ ?_) (fun hd => ?_)
    · have hd' : isDig c = true := hd
      have hd2 := hd'
      simp only [isDig, Bool.and_eq_true, decide_eq_true_eq] at hd2
      rw [w8 48 (by omega) (by omega), wrap64 (by omega) (by omega)]
      simp [hexv, hd']
    · have hd' : isDig c = false := hd
      have hx : hexv c = if 97 ≤ c ∧ c ≤ 102 then c - 87 else if 65 ≤ c ∧ c ≤ 70 then c - 55 else -1 := by simp [hexv, hd']
      refine wBlkK (fun xs w'' => w'' = w' ∧ xs.1 = decide (97 ≤ c ∧ c ≤ 102)) ?_ (fun rest => ?_)
      · rintro ⟨b, ⟨⟩⟩ w'' ⟨rfl, hb⟩
        simp only [] at hb
        subst hb
        refine wIf (fun h2 => fin _ ?_) (fun h2 => ?_)
        · have h2' := of_decide_eq_true h2
          rw [w8 97 (by omega) (by omega), wrap64 (n := c - 97) (by omega) (by omega), wrap64 (by omega) (by omega), hx, if_pos h2']
          omega
        · have h2' := of_decide_eq_false h2
          rw [if_neg h2'] at hx
          refine wBlkK (fun xs w3 => w3 = w'' ∧ xs.1 = decide (65 ≤ c ∧ c ≤ 70)) ?_ (fun rest => ?_)
          · rintro ⟨b, ⟨⟩⟩ w3 ⟨rfl, hb⟩
            simp only [] at hb
            subst hb
            refine wIf (fun h3 => fin _ ?_) (fun h3 => fin _ ?_)
            · have h3' := of_decide_eq_true h3
              rw [w8 65 (by omega) (by omega), wrap64 (n := c - 65) (by omega) (by omega), wrap64 (by omega) (by omega), hx, if_pos h3']
              omega
            · have h3' := of_decide_eq_false h3
              rw [hx, if_neg h3']
          · refine wIf (fun h3 => wJump (_, ()) rfl (rest _ _ ⟨rfl, ?_⟩)) (fun h3 => wJump (_, ()) rfl (rest _ _ ⟨rfl, ?_⟩))
            · have h3' := of_decide_eq_true h3
              show decide _ = decide _
              apply decide_eq_decide.2
              omega
            · have h3' := of_decide_eq_false h3
              show false = decide _
              rw [decide_eq_false (by omega)]
      · refine wIf (fun h3 => wJump (_, ()) rfl (rest _ _ ⟨rfl, ?_⟩)) (fun h3 => wJump (_, ()) rfl (rest _ _ ⟨rfl, ?_⟩))
        · have h3' := of_decide_eq_true h3
          show decide _ = decide _
          apply decide_eq_decide.2
          omega
        · have h3' := of_decide_eq_false h3
          show false = decide _
          rw [decide_eq_false (by omega)]
  · refine wIf (fun h3 => wJump (_, ()) rfl (rest _ _ ⟨rfl, ?_⟩)) (fun h3 => wJump (_, ()) rfl (rest _ _ ⟨rfl, ?_⟩))
    · have h3' := of_decide_eq_true h3
      show decide _ = isDig c
      rw [Bool.eq_iff_iff]
      simp only [isDig, Bool.and_eq_true, decide_eq_true_eq]
      omega
    · have h3' := of_decide_eq_false h3
      show false = isDig c
      rw [Bool.eq_iff_iff]
      simp only [isDig, Bool.and_eq_true, decide_eq_true_eq, Bool.false_eq_true, false_iff]
      omega

theorem blank_c {s : ByteArray} (hs : s.size ≤ 4096) {i : Nat} (hi : i ≤ s.size) : Gives 22 [.string s, .int .i64 (i : Int)] [.int .i64 ((blankTo s i : Nat) : Int)] := by
  intro w
  refine calls_tree hm Tryz.func22 (d22_ok s (i : Int)) ?_
  unfold d22
  refine wLoop (fun n xs w' => ∃ q : Nat, xs = ((q : Int), ()) ∧ q ≤ s.size ∧ n = s.size - q ∧ blankTo s i = blankTo s q ∧ w' = w) (s.size - i) ((i : Int), ()) rfl ⟨i, rfl, hi, rfl, rfl, rfl⟩ ?_
  rintro _ _ w' ⟨q, rfl, hq, rfl, hbl, rfl⟩
  have done : blankTo s q = q → (T.ret [.int .i64 (q : Int)]).wp Tryz.prog (fun e w'' => e = .returned (tupOf [.int .i64 ((blankTo s i : Nat) : Int)]) ∧ w'' = w') w' := fun h => wRet ⟨by rw [hbl, h], rfl⟩
  refine wIf (fun h => ?_) (fun h => done ?_)
  · have hlt : q < s.size := by
      have h' : (q : Int) < (s.size : Int) := of_decide_eq_true h
      omega
    refine wChk (by simp; omega) ?_
    have eb : byteAt s (q : Int) = bt s q := rfl
    refine wBlkK (fun xs w'' => w'' = w' ∧ xs.1 = isBlank (bt s q)) ?_ (fun rest => ?_)
    · rintro ⟨b, ⟨⟩⟩ w'' ⟨rfl, hb⟩
      simp only [] at hb
      subst hb
      refine wIf (fun h1 => ?_) (fun h1 => ?_)
      · have h1' : isBlank (bt s q) = true := h1
        have e3 : IntKind.wrap .i64 ((q : Int) + 1) = ((q + 1 : Nat) : Int) := by rw [wrap64 (by omega) (by omega)]; rfl
        refine wJump (((q + 1 : Nat) : Int), ()) ?_ ⟨s.size - (q + 1), by omega, q + 1, rfl, by omega, rfl, ?_, rfl⟩
        · show [Value.int .i64 (IntKind.wrap .i64 ((q : Int) + 1))] = _
          rw [e3]; rfl
        · rw [hbl, blankTo, dif_pos hlt, if_pos h1']
      · have h1' : isBlank (bt s q) = false := h1
        refine wIf (fun h2 => ?_) (fun h2 => done ?_)
        · have h35 : bt s q = 35 := by
            rw [← eb]
            exact (beq_iff_eq).1 h2
          have hstep : blankTo s q = blankTo s (lineEnd s (q + 1)) := by
            rw [blankTo, dif_pos hlt, if_neg (by rw [h1']; simp), if_pos h35]
          have hl1 : lineEnd s q = lineEnd s (q + 1) := by
            show findB s q 10 = findB s (q + 1) 10
            rw [findB, dif_pos hlt, if_neg (by rw [h35]; decide)]
          refine wLoop (fun n xs w2 => ∃ k : Nat, xs = ((k : Int), ()) ∧ q ≤ k ∧ k ≤ s.size ∧ n = s.size - k ∧ lineEnd s q = lineEnd s k ∧ w2 = w'') (s.size - q) ((q : Int), ()) rfl ⟨q, rfl, Nat.le_refl _, hq, rfl, rfl, rfl⟩ ?_
          rintro _ _ w2 ⟨k, rfl, hqk, hk, rfl, hln, rfl⟩
          refine wBlkK (fun xs w3 => w3 = w2 ∧ xs.1 = decide (k < s.size ∧ bt s k ≠ 10)) ?_ (fun rest2 => ?_)
          · rintro ⟨b, ⟨⟩⟩ w3 ⟨rfl, hb⟩
            simp only [] at hb
            subst hb
            refine wIf (fun h3 => ?_) (fun h3 => ?_)
            · have h3' := of_decide_eq_true h3
              have e3 : IntKind.wrap .i64 ((k : Int) + 1) = ((k + 1 : Nat) : Int) := by rw [wrap64 (by omega) (by omega)]; rfl
              refine wJump (((k + 1 : Nat) : Int), ()) ?_ ⟨s.size - (k + 1), by omega, k + 1, rfl, by omega, by omega, rfl, ?_, rfl⟩
              · show [Value.int .i64 (IntKind.wrap .i64 ((k : Int) + 1))] = _
                rw [e3]; rfl
              · rw [hln]
                show findB s k 10 = findB s (k + 1) 10
                rw [findB, dif_pos h3'.1, if_neg h3'.2]
            · have h3' := of_decide_eq_false h3
              have hend : lineEnd s k = k := by
                show findB s k 10 = k
                rw [findB]
                by_cases hk2 : k < s.size
                · have h10 : bt s k = 10 := by
                    by_cases h10 : bt s k = 10
                    · exact h10
                    · exact absurd ⟨hk2, h10⟩ h3'
                  rw [dif_pos hk2, if_pos h10]
                · rw [dif_neg hk2]
              have hkq : q < k := by
                by_cases hkq : q < k
                · exact hkq
                · have : k = q := by omega
                  subst this
                  have hge := lineEnd_ge s (k + 1)
                  rw [← hl1, hend] at hge
                  omega
              refine wJump ((k : Int), ()) rfl ⟨s.size - k, by omega, k, rfl, hk, rfl, ?_, rfl⟩
              rw [hbl, hstep, ← hl1, hln, hend]
          · refine wIf (fun h3 => ?_) (fun h3 => wJump (_, ()) rfl (rest2 _ _ ⟨rfl, ?_⟩))
            · have h3' : (k : Int) < (s.size : Int) := of_decide_eq_true h3
              refine wChk (by simp; omega) ?_
              refine wJump (_, ()) rfl (rest2 _ _ ⟨rfl, ?_⟩)
              show (bt s k != 10) = decide _
              rw [Bool.eq_iff_iff]
              simp only [bne_iff_ne, decide_eq_true_eq]
              exact ⟨fun h => ⟨by omega, h⟩, fun h => h.2⟩
            · have h3' : ¬ (k : Int) < (s.size : Int) := of_decide_eq_false h3
              show false = decide _
              rw [decide_eq_false (by omega)]
        · have h2' : bt s q ≠ 35 := by
            rw [← eb]
            exact (beq_eq_false_iff_ne).1 h2
          rw [blankTo, dif_pos hlt, if_neg (by rw [h1']; simp), if_neg h2']
    · rw [eb]
      refine wIf (fun h1 => wJump (_, ()) rfl (rest _ _ ⟨rfl, ?_⟩)) (fun h1 => ?_)
      · have : bt s q = 32 := by simpa using h1
        simp [isBlank, this]
      refine wIf (fun h2 => wJump (_, ()) rfl (rest _ _ ⟨rfl, ?_⟩)) (fun h2 => ?_)
      · have : bt s q = 9 := by simpa using h2
        simp [isBlank, this]
      refine wIf (fun h3 => wJump (_, ()) rfl (rest _ _ ⟨rfl, ?_⟩)) (fun h3 => wJump (_, ()) rfl (rest _ _ ⟨rfl, ?_⟩))
      · have : bt s q = 10 := by simpa using h3
        simp [isBlank, this]
      · simp [isBlank, h1, h2, h3]
  · have h' : ¬ (q : Int) < (s.size : Int) := of_decide_eq_false h
    rw [blankTo, dif_neg (by omega)]

end Go.Proofs.Cf
