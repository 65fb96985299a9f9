/- The reference's names and characters. -/
import Derived.Test.YtphejmchkmciaaaGreatDoorTa
set_option maxRecDepth 100000
set_option linter.unusedVariables false
namespace Go.Proofs.Cf
open Go.WF

theorem rname_c (s : ByteArray) (hs : s.size < 2 ^ 62) : Gives 27 [.string s] [.bool (nameOk s)] := by
  intro w
  refine calls_tree hm Tryz.func27 (d27_ok s) ?_
  unfold d27
  refine wBlkK (fun xs w' => w' = w ∧ xs.1 = decide (s.size < 1 ∨ 31 < s.size)) ?_ (fun rest => ?_)
  · rintro ⟨b, ⟨⟩⟩ w' ⟨rfl, hb⟩
    simp only [] at hb
    subst hb
    refine wIf (fun h => wRet ⟨tb ?_, rfl⟩) (fun h => ?_)
    · have h' := of_decide_eq_true h
      simp only [nameOk, Bool.and_eq_true, decide_eq_true_eq, Bool.false_eq_true, false_iff]
      omega
    have h' := of_decide_eq_false h
    have hok : nameOk s = (isLet (bt s 0) && nameRest s 1) := by
      simp only [nameOk]
      rw [decide_eq_true (by omega), decide_eq_true (by omega)]
      simp
    refine wLoop (fun n xs w2 => ∃ i : Nat, xs = ((i : Int), ()) ∧ i ≤ s.size ∧ n = s.size - i ∧ w2 = w' ∧ (i = 0 ∨ nameOk s = nameRest s i)) s.size ((0 : Int), ()) rfl ⟨0, rfl, by omega, rfl, rfl, .inl rfl⟩ ?_
    rintro _ _ w2 ⟨i, rfl, hi, rfl, rfl, hv⟩
    refine wIf (fun hlt => ?_) (fun hge => wRet ⟨tb ?_, rfl⟩)
    · have hlt' : i < s.size := by
        have h1 : (i : Int) < (s.size : Int) := of_decide_eq_true hlt
        omega
      refine wChk (by simp; omega) ?_
      have eb : byteAt s (i : Int) = bt s i := rfl
      refine wBlkK (fun xs w3 => w3 = w2 ∧ xs.1 = isLet (bt s i)) ?_ (fun rest2 => ?_)
      · rintro ⟨l, ⟨⟩⟩ w3 ⟨rfl, hl⟩
        simp only [] at hl
        subst hl
        refine wBlkK (fun xs w4 => w4 = w3 ∧ xs.1 = (isDig (bt s i) || bt s i == 45 || bt s i == 95)) ?_ (fun rest3 => ?_)
        · rintro ⟨o, ⟨⟩⟩ w4 ⟨rfl, ho⟩
          simp only [] at ho
          subst ho
          refine wBlkK (fun xs w5 => w5 = w4 ∧ xs.1 = (!isLet (bt s i) && (decide (i = 0) || !(isDig (bt s i) || bt s i == 45 || bt s i == 95)))) ?_ (fun rest4 => ?_)
          · rintro ⟨bad, ⟨⟩⟩ w5 ⟨rfl, hbad⟩
            simp only [] at hbad
            subst hbad
            have hnm : isNm (bt s i) = (isLet (bt s i) || (isDig (bt s i) || bt s i == 45 || bt s i == 95)) := by
              simp only [isNm, Bool.or_assoc]
            have hstep : nameRest s i = (isNm (bt s i) && nameRest s (i + 1)) := by rw [nameRest]; simp [hlt']
            refine wIf (fun hb => wRet ⟨tb ?_, rfl⟩) (fun hb => ?_)
            · have hb' : (!isLet (bt s i) && (decide (i = 0) || !(isDig (bt s i) || bt s i == 45 || bt s i == 95))) = true := hb
              simp only [Bool.false_eq_true, false_iff]
              intro hn
              simp only [Bool.and_eq_true, Bool.or_eq_true, Bool.not_eq_true', decide_eq_true_eq] at hb'
              obtain ⟨hl, hb'⟩ := hb'
              rcases hv with h0 | hv
              · subst h0
                rw [hok, hl] at hn
                cases hn
              · by_cases h0 : i = 0
                · subst h0
                  rw [hok, hl] at hn
                  cases hn
                · have ho := hb'.resolve_left h0
                  rw [hv, hstep, hnm, hl, ho] at hn
                  cases hn
            · have hb' : (!isLet (bt s i) && (decide (i = 0) || !(isDig (bt s i) || bt s i == 45 || bt s i == 95))) = false := hb
              have e3 : IntKind.wrap .i64 ((i : Int) + 1) = ((i + 1 : Nat) : Int) := by rw [wrap64 (by omega) (by omega)]; rfl
              refine wJump (((i + 1 : Nat) : Int), ()) ?_ ⟨s.size - (i + 1), by omega, i + 1, rfl, by omega, rfl, rfl, .inr ?_⟩
              · show [Value.int .i64 (IntKind.wrap .i64 ((i : Int) + 1))] = _
                rw [e3]; rfl
              · by_cases h0 : i = 0
                · subst h0
                  have hl : isLet (bt s 0) = true := by
                    cases hl : isLet (bt s 0) with
                    | true => rfl
                    | false => rw [hl] at hb'; simp at hb'
                  rw [hok, hl]
                  rfl
                · rw [hv.resolve_left h0, hstep, hnm]
                  cases hl : isLet (bt s i) with
                  | true => simp
                  | false =>
                    rw [hl] at hb'
                    simp only [h0, decide_false, Bool.false_or, Bool.not_false, Bool.true_and, Bool.not_eq_false'] at hb'
                    rw [hb']
                    simp
          · refine wIf (fun h1 => ?_) (fun h1 => wJump (_, ()) rfl (rest4 _ _ ⟨rfl, ?_⟩))
            · have h1' : (!isLet (bt s i)) = true := h1
              refine wIf (fun h2 => wJump (_, ()) rfl (rest4 _ _ ⟨rfl, ?_⟩)) (fun h2 => wJump (_, ()) rfl (rest4 _ _ ⟨rfl, ?_⟩))
              · have h2' : (i : Int) = 0 := (beq_iff_eq).1 h2
                show true = _
                rw [h1', decide_eq_true (show i = 0 by omega)]
                rfl
              · have h2' : (i : Int) ≠ 0 := (beq_eq_false_iff_ne).1 h2
                show (!_) = _
                rw [h1', decide_eq_false (show ¬ i = 0 by omega)]
                simp
            · have h1' : (!isLet (bt s i)) = false := h1
              show false = _
              rw [h1']
              rfl
        · rw [eb]
          repeat' first
            | refine wIf (fun _ => ?_) (fun _ => ?_)
            | refine wJump (_, ()) rfl (rest3 _ _ ⟨rfl, ?_⟩)
          all_goals
            simp only [decide_eq_true_eq, decide_eq_false_iff_not, beq_iff_eq, beq_eq_false_iff_ne, ne_eq] at *
            rw [Bool.eq_iff_iff]
            simp only [isDig, Bool.or_eq_true, Bool.and_eq_true, decide_eq_true_eq, beq_iff_eq, true_iff]
            omega
      · rw [eb]
        repeat' first
          | refine wIf (fun _ => ?_) (fun _ => ?_)
          | refine wJump (_, ()) rfl (rest2 _ _ ⟨rfl, ?_⟩)
        all_goals
          simp only [decide_eq_true_eq, decide_eq_false_iff_not] at *
          rw [Bool.eq_iff_iff]
          simp only [isLet, Bool.or_eq_true, Bool.and_eq_true, decide_eq_true_eq, true_iff, Bool.false_eq_true, false_iff]
          omega
    · have hge' : ¬ (i : Int) < (s.size : Int) := of_decide_eq_false hge
      have : i = s.size := by omega
      subst this
      rw [hv.resolve_left (by omega), nameRest, dif_neg (Nat.lt_irrefl _)]
  · refine wIf (fun h1 => wJump (_, ()) rfl (rest _ _ ⟨rfl, ?_⟩)) (fun h1 => wJump (_, ()) rfl (rest _ _ ⟨rfl, ?_⟩))
    · have h1' : (s.size : Int) < 1 := of_decide_eq_true h1
      show true = decide _
      rw [decide_eq_true (by omega)]
    · have h1' : ¬ (s.size : Int) < 1 := of_decide_eq_false h1
      show decide ((s.size : Int) > 31) = decide _
      apply decide_eq_decide.2
      omega

theorem and63_64 (y : Int) (h0 : 0 ≤ y) (h1 : y < 9223372036854775808) : ibits .and .i64 y 63 = y % 64 := by
  have e : (BitVec.ofInt 64 y &&& BitVec.ofInt 64 63).toNat = (y % 64).toNat := by
    rw [BitVec.toNat_and, BitVec.toNat_ofInt, BitVec.toNat_ofInt]
    have : ((63 : Int) % ((2 ^ 64 : Nat) : Int)).toNat = 2 ^ 6 - 1 := by decide
    rw [this, Nat.and_two_pow_sub_one_eq_mod]
    omega
  show IntKind.wrap .i64 ((BitVec.ofInt 64 y &&& BitVec.ofInt 64 63).toNat : Int) = _
  rw [e, wrap64 (by omega) (by omega)]
  omega

/-- A slice of bytes that a call has made. -/
def FreshB (w : World) (bl : List UInt8) (x : Ending) (w' : World) : Prop :=
  ∃ b, x = .returned (tupOf [.slice (some ⟨b, 0, none⟩) bl.length bl.length]) ∧ Keep [] w w' ∧ Blk w' b (bcells bl) 5 ∧ w.heap.size ≤ b

theorem wFreshB {w : World} (bl : List UInt8) {k : Nat} {parts : Array (Nat × Value)} (hk : k = bl.length) (hk4 : k ≤ 4) (hf : fillRow 1 #[.int .u8 0] k parts.toList = some (bcells bl).toArray) :
    (T.op (vOf (Instr.buildSlice 86 k parts)) [.b .slice] fun (x0 : Sl × Unit) => T.ret [.slice x0.1.a x0.1.len x0.1.cap]).wp Tryz.prog (FreshB w bl) w := by
  have H0 : ST w [] w [] := ST.nil [] w
  refine wBuild H0 (bcells bl) Tryz.underlying86 info5 (z := .int .u8 0) rfl (by rw [show Tryz.t5.size = 1 from rfl]; omega) hf fun b w1 hb H => ?_
  refine wRet ⟨b, ?_, H.keep, H.get (i := 0) rfl, by rw [hb]; exact Nat.le_refl _⟩
  rw [hk]

theorem utf_c (c : Int) (hc : scalar c = true) (w : World) : Calls Tryz.prog 41 [.int .i64 c].toArray w (FreshB w (utf c)) := by
  obtain ⟨h0, hmax, hsur, _⟩ := scalar_valid hc
  refine calls_tree hm Tryz.func41 (d41_ok c) ?_
  unfold d41
  rw [shr6 _ _ (by decide), shr12 _ _ (by decide), shr18 _ _ (by decide)]
  have lo : ∀ y : Int, 0 ≤ y → y ≤ 1114111 → IntKind.wrap .u8 (IntKind.wrap .i64 (128 + ibits .and .i64 y 63)) = 128 + y % 64 := fun y h0 h1 => by
    rw [and63_64 y h0 (by omega), wrap64 (by omega) (by omega), wrap8]
    omega
  have f1 : Value.int .u8 (128 + c / 4096 % 64) = .int .u8 ((UInt8.ofNat (128 + c.toNat / 4096 % 64)).toNat : Int) := cellB _ (by omega) (by omega)
  have f2 : Value.int .u8 (128 + c / 64 % 64) = .int .u8 ((UInt8.ofNat (128 + c.toNat / 64 % 64)).toNat : Int) := cellB _ (by omega) (by omega)
  have f3 : Value.int .u8 (128 + c % 64) = .int .u8 ((UInt8.ofNat (128 + c.toNat % 64)).toNat : Int) := cellB _ (by omega) (by omega)
  refine wIf (fun h => ?_) (fun h => ?_)
  · have h' := of_decide_eq_true h
    rw [utf1 hc h']
    refine wFreshB _ rfl (by decide) ?_
    have e1 : Value.int .u8 (c % 256) = .int .u8 ((UInt8.ofNat c.toNat).toNat : Int) := cellB _ (by omega) (by omega)
    rw [wrap8, e1]
    exact fillB1 _
  have h' := of_decide_eq_false h
  refine wIf (fun h2 => ?_) (fun h2 => ?_)
  · have h2' := of_decide_eq_true h2
    rw [utf2 hc (by omega) h2']
    refine wFreshB _ rfl (by decide) ?_
    have e1 : Value.int .u8 (IntKind.wrap .u8 (IntKind.wrap .i64 (192 + c / 64))) = .int .u8 ((UInt8.ofNat (192 + c.toNat / 64)).toNat : Int) := by
      rw [wrap64 (by omega) (by omega), wrap8]
      exact cellB _ (by omega) (by omega)
    rw [e1, lo c h0 hmax, f3]
    exact fillB2 _ _
  have h2' := of_decide_eq_false h2
  refine wIf (fun h3 => ?_) (fun h3 => ?_)
  · have h3' := of_decide_eq_true h3
    rw [utf3 hc (by omega) h3']
    refine wFreshB _ rfl (by decide) ?_
    have e1 : Value.int .u8 (IntKind.wrap .u8 (IntKind.wrap .i64 (224 + c / 4096))) = .int .u8 ((UInt8.ofNat (224 + c.toNat / 4096)).toNat : Int) := by
      rw [wrap64 (by omega) (by omega), wrap8]
      exact cellB _ (by omega) (by omega)
    rw [e1, lo (c / 64) (by omega) (by omega), lo c h0 hmax, f2, f3]
    exact fillB3 _ _ _
  · have h3' := of_decide_eq_false h3
    rw [utf4 hc (by omega)]
    refine wFreshB _ rfl (by decide) ?_
    have e1 : Value.int .u8 (IntKind.wrap .u8 (IntKind.wrap .i64 (240 + c / 262144))) = .int .u8 ((UInt8.ofNat (240 + c.toNat / 262144)).toNat : Int) := by
      rw [wrap64 (by omega) (by omega), wrap8]
      exact cellB _ (by omega) (by omega)
    rw [e1, lo (c / 4096) (by omega) (by omega), lo (c / 64) (by omega) (by omega), lo c h0 hmax, f1, f2, f3]
    exact fillB4 _ _ _ _

end Go.Proofs.Cf
