/- The reference's escapes. -/
import Derived.Test.YtphejmchkmciaaaGreatDoorTd
set_option maxRecDepth 100000
set_option linter.unusedVariables false
namespace Go.Proofs.Cf
open Go.WF

/-- An escape, as the reference hands it back. -/
def escR (o : Option (Int × Nat)) : List Value := [.int .i64 (esc2 o), .int .i64 (esc1 o)]

theorem findB_first {s : ByteArray} {i : Nat} {c : Int} : ∀ j, i ≤ j → j < findB s i c → bt s j ≠ c := by
  induction hn : s.size - i using Nat.strongRecOn generalizing i with
  | _ n ih =>
    intro j hj hlt
    by_cases h : i < s.size
    · by_cases hc : bt s i = c
      · rw [findB, dif_pos h, if_pos hc] at hlt
        omega
      · have e : findB s i c = findB s (i + 1) c := by rw [findB, dif_pos h, if_neg hc]
        by_cases hji : j = i
        · subst hji; exact hc
        · exact ih (s.size - (i + 1)) (by omega) rfl j (by omega) (by rw [← e]; exact hlt)
    · rw [findB, dif_neg h] at hlt
      omega

theorem hexv_close : hexv 125 = -1 := by decide

theorem escape_r {s : ByteArray} (hs : s.size ≤ 4096) {i : Nat} (hi : i < s.size) (h92 : bt s i = 92) (w : World) : Calls Tryz.prog 39 [.string s, .int .i64 (i : Int)].toArray w fun x w' => x = .returned (tupOf (escR (esc s i))) ∧ Keep [] w w' := by
  refine calls_tree hm Tryz.func39 (d39_ok s (i : Int)) ?_
  unfold d39
  have e1 : IntKind.wrap .i64 ((i : Int) + 1) = ((i + 1 : Nat) : Int) := by rw [wrap64 (by omega) (by omega)]; rfl
  have e2 : IntKind.wrap .i64 ((i : Int) + 2) = ((i + 2 : Nat) : Int) := by rw [wrap64 (by omega) (by omega)]; rfl
  have e3 : IntKind.wrap .i64 ((i : Int) + 3) = ((i + 3 : Nat) : Int) := by rw [wrap64 (by omega) (by omega)]; rfl
  rw [e1, e2, e3]
  have eb : byteAt s ((i + 1 : Nat) : Int) = bt s (i + 1) := rfl
  have eb2 : byteAt s ((i + 2 : Nat) : Int) = bt s (i + 2) := rfl
  rw [eb, eb2]
  have hb := bt_lo s (i + 1)
  refine wIf (fun h => wRet ⟨?_, Keep.refl _ _⟩) (fun h => ?_)
  · have h' : ((i + 1 : Nat) : Int) ≥ (s.size : Int) := of_decide_eq_true h
    unfold esc
    rw [if_neg (by omega)]
    rfl
  have h' : ¬ ((i + 1 : Nat) : Int) ≥ (s.size : Int) := of_decide_eq_false h
  have hz : i + 1 < s.size := by omega
  have hesc : esc s i = if bt s (i + 1) = 34 ∨ bt s (i + 1) = 92 then some (bt s (i + 1), 2) else if bt s (i + 1) = 110 then some (10, 2) else if bt s (i + 1) = 116 then some (9, 2) else if bt s (i + 1) = 117 then
      (if i + 2 < s.size ∧ bt s (i + 2) = 123 ∧ findB s i 125 < s.size ∧ 4 ≤ findB s i 125 - i ∧ findB s i 125 - i ≤ 9 then
        match hexVal s (i + 3) 0 (findB s i 125 - i - 3) with
        | some n => if scalar n then some (n, findB s i 125 - i + 1) else none
        | none => none
      else none) else none := by
    unfold esc
    rw [if_pos hz]
    rfl
  rw [hesc]
  refine wChk (by simp; omega) ?_
  refine wBlkK (fun xs w' => w' = w ∧ xs.1 = decide (bt s (i + 1) = 34 ∨ bt s (i + 1) = 92)) ?_ (fun rest => ?_)
  · rintro ⟨b, ⟨⟩⟩ w' ⟨rfl, hb'⟩
    simp only [] at hb'
    subst hb'
    refine wIf (fun h3 => ?_) (fun h3 => ?_)
    · have h3' := of_decide_eq_true h3
      rw [if_pos h3']
      refine wDraw (wChk (by simp; omega) (wRet ⟨?_, ?_⟩))
      · rw [wrap64 (by omega) (by omega)]
        rfl
      · exact (Keep.refl [] w').drew
    have h3' := of_decide_eq_false h3
    rw [if_neg h3']
    refine wIf (fun h4 => wRet ⟨?_, Keep.refl _ _⟩) (fun h4 => ?_)
    · rw [if_pos (by simpa using h4)]; rfl
    rw [if_neg (by simpa using h4)]
    refine wIf (fun h5 => wRet ⟨?_, Keep.refl _ _⟩) (fun h5 => ?_)
    · rw [if_pos (by simpa using h5)]; rfl
    rw [if_neg (by simpa using h5)]
    refine wIf (fun h6 => ?_) (fun h6 => wRet ⟨?_, Keep.refl _ _⟩)
    · have h117 : bt s (i + 1) = 117 := by simpa using h6
      rw [if_pos h117]
      have hnone : ∀ o : Option (Int × Nat), o = none → (T.ret [.int .i64 0, .int .i64 0]).wp Tryz.prog (fun x w'' => x = .returned (tupOf (escR o)) ∧ Keep [] w' w'') w' := fun o h => by
        rw [h]; exact wRet ⟨rfl, Keep.refl _ _⟩
      refine wBlkK (fun xs w'' => w'' = w' ∧ xs.1 = !(decide (i + 2 < s.size ∧ bt s (i + 2) = 123))) ?_ (fun rest2 => ?_)
      · rintro ⟨b, ⟨⟩⟩ w'' ⟨rfl, hb'⟩
        simp only [] at hb'
        subst hb'
        refine wIf (fun h7 => ?_) (fun h7 => ?_)
        · rw [Bool.not_eq_true'] at h7
          have h7' := of_decide_eq_false h7
          exact hnone _ (if_neg (fun h => h7' ⟨h.1, h.2.1⟩))
        rw [Bool.not_eq_false'] at h7
        have h7' := of_decide_eq_true h7
        generalize hE : findB s i 125 = E
        have hfirst : ∀ j, i ≤ j → j < E → bt s j ≠ 125 := by rw [← hE]; exact findB_first
        have hEle : E ≤ s.size := by rw [← hE]; exact findB_le s i 125 (by omega)
        have hEat : E < s.size → bt s E = 125 := fun h => by rw [← hE] at h ⊢; exact findB_at h
        have hEge : i + 3 ≤ E := by
          have g0 := findB_ge s i 125
          rw [hE] at g0
          by_cases q0 : E = i
          · have := hEat (by omega)
            rw [q0, h92] at this
            omega
          by_cases q1 : E = i + 1
          · have := hEat (by omega)
            rw [q1, h117] at this
            omega
          by_cases q2 : E = i + 2
          · have := hEat (by omega)
            rw [q2, h7'.2] at this
            omega
          omega
        have hres : ∀ o : Option (Int × Nat), o = (if i + 2 < s.size ∧ bt s (i + 2) = 123 ∧ E < s.size ∧ 4 ≤ E - i ∧ E - i ≤ 9 then
            match hexVal s (i + 3) 0 (E - i - 3) with
            | some n => if scalar n then some (n, E - i + 1) else none
            | none => none
          else none) → o = if E < s.size ∧ 4 ≤ E - i ∧ E - i ≤ 9 then
            match hexVal s (i + 3) 0 (E - i - 3) with
            | some n => if scalar n then some (n, E - i + 1) else none
            | none => none
          else none := fun o h => by
          rw [h]
          by_cases hh : E < s.size ∧ 4 ≤ E - i ∧ E - i ≤ 9
          · rw [if_pos ⟨h7'.1, h7'.2, hh⟩, if_pos hh]
          · rw [if_neg (fun x => hh x.2.2), if_neg hh]
        generalize hO : (if i + 2 < s.size ∧ bt s (i + 2) = 123 ∧ E < s.size ∧ 4 ≤ E - i ∧ E - i ≤ 9 then
            match hexVal s (i + 3) 0 (E - i - 3) with
            | some n => if scalar n then some (n, E - i + 1) else none
            | none => none
          else none) = O
        have hO' := hres O hO.symm
        refine wLoop (fun m xs w3 => ∃ k : Nat, xs.2.1 = (k : Int) ∧ k ≤ 6 ∧ i + 3 + k ≤ E ∧ m = 7 - k ∧ w3 = w'' ∧ (0 : Int) ≤ xs.1 ∧ xs.1 < (16 : Int) ^ k ∧ hexVal s (i + 3) 0 (E - i - 3) = hexVal s (i + 3 + k) xs.1 (E - i - 3 - k)) 7 ((0 : Int), (0 : Int), ()) rfl ⟨0, rfl, by omega, by omega, rfl, rfl, by simp, by simp, rfl⟩ ?_
        rintro _ ⟨(x : Int), _, ⟨⟩⟩ w3 ⟨k, rfl, hk6, hkE, rfl, rfl, hx0, hx1, hv⟩
        replace hx0 : (0 : Int) ≤ x := hx0
        replace hx1 : x < (16 : Int) ^ k := hx1
        replace hv : hexVal s (i + 3) 0 (E - i - 3) = hexVal s (i + 3 + k) x (E - i - 3 - k) := hv
        have e4 : IntKind.wrap .i64 (((i + 3 : Nat) : Int) + (k : Int)) = ((i + 3 + k : Nat) : Int) := by rw [wrap64 (by omega) (by omega)]; omega
        have hp : (16 : Int) ^ k ≤ 16777216 := by
          have h2 : (16 : Nat) ^ k ≤ 16 ^ 6 := Nat.pow_le_pow_right (by omega) hk6
          have e : (16 : Nat) ^ 6 = 16777216 := by decide
          rw [e] at h2
          have h3 : ((16 ^ k : Nat) : Int) ≤ ((16777216 : Nat) : Int) := Int.ofNat_le.2 h2
          rw [Int.natCast_pow] at h3
          exact h3
        rw [e4]
        have eb3 : byteAt s ((i + 3 + k : Nat) : Int) = bt s (i + 3 + k) := rfl
        rw [eb3]
        have hbk := bt_lo s (i + 3 + k)
        refine wBlkK (fun xs w4 => w4 = w3 ∧ xs.1 = decide (i + 3 + k < s.size)) ?_ (fun rest3 => ?_)
        · rintro ⟨b, ⟨⟩⟩ w4 ⟨rfl, hb'⟩
          simp only [] at hb'
          subst hb'
          refine wIf (fun h8 => ?_) (fun h8 => ?_)
          · have h8' := of_decide_eq_true h8
            refine wChk (by simp; omega) ?_
            refine wG (scalar_c x) (_, ()) rfl ?_
            refine wBlkK (fun xs w5 => w5 = w4 ∧ xs.1 = (decide (bt s (i + 3 + k) = 125 ∧ 0 < k) && scalar x)) ?_ (fun rest4 => ?_)
            · rintro ⟨b, ⟨⟩⟩ w5 ⟨rfl, hb'⟩
              simp only [] at hb'
              subst hb'
              refine wIf (fun h9 => ?_) (fun h9 => ?_)
              · have h9' : (decide (bt s (i + 3 + k) = 125 ∧ 0 < k) && scalar x) = true := h9
                rw [Bool.and_eq_true, decide_eq_true_eq] at h9'
                have hEk : E = i + 3 + k := by
                  by_cases q : E = i + 3 + k
                  · exact q
                  · exact absurd h9'.1.1 (hfirst _ (by omega) (by omega))
                rw [show E - i - 3 - k = 0 from by omega] at hv
                have hv' : hexVal s (i + 3) 0 (E - i - 3) = some x := hv
                rw [if_pos ⟨by omega, by omega, by omega⟩, hv'] at hO'
                simp only [] at hO'
                rw [if_pos h9'.2] at hO'
                rw [hO']
                refine wRet ⟨?_, Keep.refl _ _⟩
                have e5 : IntKind.wrap .i64 ((k : Int) + 4) = ((E - i + 1 : Nat) : Int) := by rw [wrap64 (by omega) (by omega)]; omega
                show Ending.returned (tupOf [.int .i64 (IntKind.wrap .i64 ((k : Int) + 4)), .int .i64 x]) = _
                rw [e5]
                rfl
              · have h9' : (decide (bt s (i + 3 + k) = 125 ∧ 0 < k) && scalar x) = false := h9
                refine wG (hexed_c _ hbk.1 hbk.2) (_, ()) rfl ?_
                refine wBlkK (fun xs w6 => w6 = w5 ∧ xs.1 = (decide (hexv (bt s (i + 3 + k)) < 0) || decide (k = 6))) ?_ (fun rest5 => ?_)
                · rintro ⟨b, ⟨⟩⟩ w6 ⟨rfl, hb'⟩
                  simp only [] at hb'
                  subst hb'
                  by_cases h125 : bt s (i + 3 + k) = 125
                  · have hEk : E = i + 3 + k := by
                      by_cases q : E = i + 3 + k
                      · exact q
                      · exact absurd h125 (hfirst _ (by omega) (by omega))
                    refine wIft (by rw [h125, hexv_close]; rfl) (hnone _ ?_)
                    rw [hO']
                    by_cases hk0 : 0 < k
                    · have hsc : scalar x = false := by
                        rw [decide_eq_true ⟨h125, hk0⟩, Bool.true_and] at h9'
                        exact h9'
                      rw [show E - i - 3 - k = 0 from by omega] at hv
                      have hv' : hexVal s (i + 3) 0 (E - i - 3) = some x := hv
                      rw [if_pos ⟨by omega, by omega, by omega⟩, hv']
                      simp only []
                      rw [hsc]
                      rfl
                    · rw [if_neg (by omega)]
                  · have hEk : i + 3 + k < E := by
                      by_cases q : E = i + 3 + k
                      · exact absurd (q ▸ hEat (by omega)) h125
                      · omega
                    have hstep : hexVal s (i + 3 + k) x (E - i - 3 - k) = if hexv (bt s (i + 3 + k)) < 0 then none else hexVal s (i + 3 + (k + 1)) (16 * x + hexv (bt s (i + 3 + k))) (E - i - 3 - (k + 1)) := by
                      rw [show E - i - 3 - k = (E - i - 3 - (k + 1)) + 1 from by omega]
                      rfl
                    refine wIf (fun h10 => hnone _ ?_) (fun h10 => ?_)
                    · have h10' : (decide (hexv (bt s (i + 3 + k)) < 0) || decide (k = 6)) = true := h10
                      rw [Bool.or_eq_true, decide_eq_true_eq, decide_eq_true_eq] at h10'
                      rw [hO']
                      rcases h10' with hneg | hk
                      · rw [hv, hstep, if_pos hneg]
                        split <;> rfl
                      · rw [if_neg (by omega)]
                    · have h10' : (decide (hexv (bt s (i + 3 + k)) < 0) || decide (k = 6)) = false := h10
                      rw [Bool.or_eq_false_iff, decide_eq_false_iff_not, decide_eq_false_iff_not] at h10'
                      have hhi := hexv_hi (bt s (i + 3 + k))
                      have hpow : (16 : Int) ^ (k + 1) = 16 * 16 ^ k := by rw [Int.pow_succ]; omega
                      have a1 : IntKind.wrap .i64 (16 * x) = 16 * x := wrap64 (by omega) (by omega)
                      have a2 : IntKind.wrap .i64 (16 * x + hexv (bt s (i + 3 + k))) = 16 * x + hexv (bt s (i + 3 + k)) := wrap64 (by omega) (by omega)
                      have a3 : IntKind.wrap .i64 ((k : Int) + 1) = ((k + 1 : Nat) : Int) := by rw [wrap64 (by omega) (by omega)]; rfl
                      refine wJump (16 * x + hexv (bt s (i + 3 + k)), ((k + 1 : Nat) : Int), ()) ?_ ⟨7 - (k + 1), by omega, k + 1, rfl, by omega, by omega, rfl, rfl, ?_, ?_, ?_⟩
                      · show [Value.int .i64 (IntKind.wrap .i64 (IntKind.wrap .i64 (16 * x) + hexv (bt s (i + 3 + k)))), .int .i64 (IntKind.wrap .i64 ((k : Int) + 1))] = _
                        rw [a1, a2, a3]
                        rfl
                      · show (0 : Int) ≤ 16 * x + hexv (bt s (i + 3 + k))
                        omega
                      · show 16 * x + hexv (bt s (i + 3 + k)) < (16 : Int) ^ (k + 1)
                        omega
                      · show _ = hexVal s (i + 3 + (k + 1)) (16 * x + hexv (bt s (i + 3 + k))) (E - i - 3 - (k + 1))
                        rw [hv, hstep, if_neg h10'.1]
                · refine wIf (fun h10 => wJump (_, ()) rfl (rest5 _ _ ⟨rfl, ?_⟩)) (fun h10 => wJump (_, ()) rfl (rest5 _ _ ⟨rfl, ?_⟩))
                  · have h10' : hexv (bt s (i + 3 + k)) < 0 := of_decide_eq_true h10
                    show true = _
                    rw [decide_eq_true h10']; rfl
                  · have h10' : ¬ hexv (bt s (i + 3 + k)) < 0 := of_decide_eq_false h10
                    show ((k : Int) == 6) = _
                    rw [decide_eq_false h10', Bool.false_or, Bool.eq_iff_iff]
                    simp only [beq_iff_eq, decide_eq_true_eq]
                    omega
            · refine wIf (fun h9 => ?_) (fun h9 => wJump (_, ()) rfl (rest4 _ _ ⟨rfl, ?_⟩))
              · have h9' : bt s (i + 3 + k) = 125 := (beq_iff_eq).1 h9
                refine wIf (fun h10 => wJump (_, ()) rfl (rest4 _ _ ⟨rfl, ?_⟩)) (fun h10 => wJump (_, ()) rfl (rest4 _ _ ⟨rfl, ?_⟩))
                · have h10' : (k : Int) > 0 := of_decide_eq_true h10
                  show scalar x = _
                  rw [decide_eq_true ⟨h9', by omega⟩, Bool.true_and]
                · have h10' : ¬ (k : Int) > 0 := of_decide_eq_false h10
                  show false = _
                  rw [decide_eq_false (fun h => h10' (by omega)), Bool.false_and]
              · have h9' : bt s (i + 3 + k) ≠ 125 := (beq_eq_false_iff_ne).1 h9
                show false = _
                rw [decide_eq_false (fun h => h9' h.1), Bool.false_and]
          · have h8' := of_decide_eq_false h8
            refine hnone _ ?_
            rw [hO', if_neg (by omega)]
        · refine wIf (fun h8 => wJump (_, ()) rfl (rest3 _ _ ⟨rfl, ?_⟩)) (fun h8 => wJump (_, ()) rfl (rest3 _ _ ⟨rfl, ?_⟩))
          · have h8' : ((i + 3 + k : Nat) : Int) < (s.size : Int) := of_decide_eq_true h8
            show decide ((k : Int) ≤ 6) = decide _
            apply decide_eq_decide.2
            omega
          · have h8' : ¬ ((i + 3 + k : Nat) : Int) < (s.size : Int) := of_decide_eq_false h8
            show false = decide _
            rw [decide_eq_false (by omega)]
      · refine wIf (fun h7 => wJump (_, ()) rfl (rest2 _ _ ⟨rfl, ?_⟩)) (fun h7 => wChk (by simp; have := of_decide_eq_false h7; omega) (wJump (_, ()) rfl (rest2 _ _ ⟨rfl, ?_⟩)))
        · have h7' : ((i + 2 : Nat) : Int) ≥ (s.size : Int) := of_decide_eq_true h7
          show true = !(decide _)
          rw [decide_eq_false (by omega)]
          rfl
        · have h7' : ¬ ((i + 2 : Nat) : Int) ≥ (s.size : Int) := of_decide_eq_false h7
          show (bt s (i + 2) != 123) = !(decide _)
          rw [Bool.eq_iff_iff]
          simp only [bne_iff_ne, Bool.not_eq_true', decide_eq_false_iff_not]
          exact ⟨fun h hh => h hh.2, fun h hh => h ⟨by omega, hh⟩⟩
    · rw [if_neg (by simpa using h6)]; rfl
  · refine wIf (fun h3 => wJump (_, ()) rfl (rest _ _ ⟨rfl, ?_⟩)) (fun h3 => wJump (_, ()) rfl (rest _ _ ⟨rfl, ?_⟩))
    · simp only [beq_iff_eq] at h3
      simp [h3]
    · simp only [beq_eq_false_iff_ne] at h3
      rw [Bool.eq_iff_iff]
      simp [h3]

end Go.Proofs.Cf
