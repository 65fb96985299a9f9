/- The program's small functions of bytes and strings compute the plain words. -/
import Derived.Test.YtphejmchkmciaaaGreatDoorSa
import Derived.Test.YtphejmchkmciaaaGreatDoorSh
import Derived.Test.YtphejmchkmciaaaGreatDoorDa
import Derived.Test.YtphejmchkmciaaaGreatDoorFi
set_option maxRecDepth 100000
namespace Go.Proofs.Cf
open Go.WF

theorem hm : Tryz.prog.follows .mixedOrders = true := by kernel_rfl

/-- A call that hands back just this and leaves the world. -/
abbrev Gives (f : FuncId) (args : List Value) (vs : List Value) : Prop := ∀ w, Calls Tryz.prog f args.toArray w fun e w' => e = .returned (tupOf vs) ∧ w' = w

theorem tb {a b : Bool} (h : a = true ↔ b = true) : Ending.returned (tupOf [.bool a]) = .returned (tupOf [.bool b]) := by
  rw [Bool.eq_iff_iff.2 h]

theorem ti {k : IntKind} {a b : Int} (h : a = b) : Ending.returned (tupOf [.int k a]) = .returned (tupOf [.int k b]) := by
  rw [h]

/-- A call of a function that gives something, inside a tree. -/
theorem wG {R : Ending → World → Prop} {f : FuncId} {args : List Value} {ks : List Kd} {K : Tys ks → T} {w : World} {vs : List Value} (hc : Gives f args vs) (xs : Tys ks) (hx : vs = encs ks xs) (h : (K xs).wp Tryz.prog R w) : (T.call f args ks K).wp Tryz.prog R w :=
  wCall (hc w) fun e w' he => by
    obtain ⟨rfl, rfl⟩ := he
    exact ⟨xs, by rw [hx], h⟩

theorem digit_c (c : Int) : Gives 35 [.int .u8 c] [.bool (isDig c)] := by
  intro w
  refine calls_tree hm Tryz.func35 (d35_ok c) ?_
  unfold d35
  refine wBlk ?_
  refine wIf (fun h => ?_) (fun h => ?_)
  all_goals
    refine wJump (_, ()) rfl (wRet ⟨tb ?_, rfl⟩)
    simp only [decide_eq_true_eq, decide_eq_false_iff_not, isDig, Bool.and_eq_true, Bool.false_eq_true, false_iff] at h ⊢
    omega

theorem letter_c (c : Int) : Gives 34 [.int .u8 c] [.bool (isLet c)] := by
  intro w
  refine calls_tree hm Tryz.func34 (d34_ok c) ?_
  unfold d34
  refine wBlk ?_
  refine wIf (fun h => ?_) (fun h => ?_)
  · refine wIf (fun h' => ?_) (fun h' => ?_)
    · refine wJump (_, ()) rfl (wRet ⟨tb ?_, rfl⟩)
      simp only [decide_eq_true_eq, isLet, Bool.and_eq_true, Bool.or_eq_true, true_iff] at h h' ⊢
      omega
    · refine wIf (fun h2 => ?_) (fun h2 => ?_)
      all_goals
        refine wJump (_, ()) rfl (wRet ⟨tb ?_, rfl⟩)
        simp only [decide_eq_true_eq, decide_eq_false_iff_not, isLet, Bool.and_eq_true, Bool.or_eq_true, Bool.false_eq_true, false_iff] at h h' h2 ⊢
        omega
  · refine wIf (fun h2 => ?_) (fun h2 => ?_)
    all_goals
      refine wJump (_, ()) rfl (wRet ⟨tb ?_, rfl⟩)
      simp only [decide_eq_true_eq, decide_eq_false_iff_not, isLet, Bool.and_eq_true, Bool.or_eq_true, Bool.false_eq_true, false_iff] at h h2 ⊢
      omega

theorem inWord_c (c : Int) : Gives 32 [.int .u8 c] [.bool (isWd c)] := by
  intro w
  refine calls_tree hm Tryz.func32 (d32_ok c) ?_
  unfold d32
  refine wBlk ?_
  repeat' first
    | refine wIf (fun _ => ?_) (fun _ => ?_)
    | refine wG (letter_c c) (_, ()) rfl ?_
    | refine wG (digit_c c) (_, ()) rfl ?_
    | refine wJump (_, ()) rfl (wRet ⟨tb ?_, rfl⟩)
  all_goals simp_all [isWd]

theorem hexa_c (c : Int) (h0 : 0 ≤ c) (h1 : c ≤ 255) : Gives 79 [.int .u8 c] [.int .i32 (hexv c)] := by
  intro w
  refine calls_tree hm Tryz.func79 (d79_ok c) ?_
  unfold d79
  refine wG (digit_c c) (_, ()) rfl ?_
  refine wIf (fun hd => wRet ⟨ti ?_, rfl⟩) (fun hd => ?_)
  · simp only [isDig, Bool.and_eq_true, decide_eq_true_eq] at hd
    simp only [hexv, isDig, hd, decide_true, Bool.and_self, if_true]
    simp only [IntKind.wrap, IntKind.bits, IntKind.signed]
    simp
    omega
  · have hd' : isDig c = false := hd
    refine wBlk ?_
    refine wIf (fun h => ?_) (fun h => ?_)
    · refine wJump (_, ()) rfl ?_
      refine wIf (fun h' => wRet ⟨ti ?_, rfl⟩) (fun h' => ?_)
      · simp only [decide_eq_true_eq] at h h'
        simp only [hexv, hd', Bool.false_eq_true, if_false]
        rw [if_pos ⟨h, h'⟩]
        simp only [IntKind.wrap, IntKind.bits, IntKind.signed]
        simp
        omega
      · refine wBlk ?_
        refine wIf (fun h2 => ?_) (fun h2 => ?_)
        · refine wJump (_, ()) rfl ?_
          refine wIf (fun h3 => wRet ⟨ti ?_, rfl⟩) (fun h3 => wRet ⟨ti ?_, rfl⟩)
          · simp only [decide_eq_true_eq, decide_eq_false_iff_not] at h h' h2 h3
            omega
          · simp only [decide_eq_true_eq, decide_eq_false_iff_not] at h h' h2 h3
            simp only [hexv, hd', Bool.false_eq_true, if_false]
            rw [if_neg (by omega), if_neg (by omega)]
        · simp only [decide_eq_true_eq, decide_eq_false_iff_not] at h h' h2
          omega
    · refine wJump (_, ()) rfl ?_
      refine wIff rfl ?_
      refine wBlk ?_
      refine wIf (fun h2 => ?_) (fun h2 => ?_)
      · refine wJump (_, ()) rfl ?_
        refine wIf (fun h3 => wRet ⟨ti ?_, rfl⟩) (fun h3 => wRet ⟨ti ?_, rfl⟩)
        · simp only [decide_eq_true_eq, decide_eq_false_iff_not] at h h2 h3
          simp only [hexv, hd', Bool.false_eq_true, if_false]
          rw [if_neg (by omega), if_pos ⟨h2, h3⟩]
          simp only [IntKind.wrap, IntKind.bits, IntKind.signed]
          simp
          omega
        · simp only [decide_eq_true_eq, decide_eq_false_iff_not] at h h2 h3
          simp only [hexv, hd', Bool.false_eq_true, if_false]
          rw [if_neg (by omega), if_neg (by omega)]
      · refine wJump (_, ()) rfl ?_
        refine wIff rfl (wRet ⟨ti ?_, rfl⟩)
        simp only [decide_eq_false_iff_not] at h h2
        simp only [hexv, hd', Bool.false_eq_true, if_false]
        rw [if_neg (by omega), if_neg (by omega)]

theorem wrap64 {n : Int} (h0 : -9223372036854775808 ≤ n) (h1 : n ≤ 9223372036854775807) : IntKind.wrap .i64 n = n := by
  simp only [IntKind.wrap, IntKind.bits, IntKind.signed]
  simp
  omega

theorem name_c (s : ByteArray) (hs : s.size < 2 ^ 62) : Gives 16 [.string s] [.bool (nameOk s)] := by
  intro w
  refine calls_tree hm Tryz.func16 (d16_ok s) ?_
  unfold d16
  refine wBlk ?_
  refine wIf (fun h => ?_) (fun h => ?_)
  · refine wJump (_, ()) rfl ?_
    refine wIft rfl (wRet ⟨tb ?_, rfl⟩)
    simp only [decide_eq_true_eq] at h
    simp only [nameOk, Bool.false_eq_true, Bool.and_eq_true, decide_eq_true_eq, false_iff]
    omega
  refine wIf (fun h' => ?_) (fun h' => ?_)
  · refine wJump (_, ()) rfl ?_
    refine wIft rfl (wRet ⟨tb ?_, rfl⟩)
    simp only [decide_eq_true_eq] at h'
    simp only [nameOk, Bool.false_eq_true, Bool.and_eq_true, decide_eq_true_eq, false_iff]
    omega
  simp only [decide_eq_false_iff_not] at h h'
  refine wChk (by simp; omega) ?_
  refine wG (letter_c _) (_, ()) rfl ?_
  refine wJump (_, ()) rfl ?_
  have e0 : byteAt s 0 = bt s 0 := rfl
  rw [e0]
  have hok : nameOk s = (isLet (bt s 0) && nameRest s 1) := by
    simp only [nameOk]
    rw [decide_eq_true (by omega), decide_eq_true (by omega)]
    simp
  refine wIf (fun h1 => wRet ⟨tb ?_, rfl⟩) (fun h1 => ?_)
  · have h1' : isLet (bt s 0) = false := by simpa using h1
    rw [hok, h1']; simp
  have h1' : isLet (bt s 0) = true := by simpa using h1
  refine wLoop (fun n xs w' => ∃ i : Nat, xs = ((i : Int), ()) ∧ n = s.size - i ∧ w' = w ∧ nameOk s = nameRest s i) (s.size - 1) ((1 : Nat), ()) rfl ⟨1, rfl, rfl, rfl, by rw [hok, h1']; simp⟩ ?_
  rintro n xs w' ⟨i, rfl, rfl, rfl, hi⟩
  refine wIf (fun h2 => ?_) (fun h2 => wRet ⟨tb ?_, rfl⟩)
  · simp only [decide_eq_true_eq] at h2
    have hlt : i < s.size := by omega
    have hstep : nameRest s i = (isNm (bt s i) && nameRest s (i + 1)) := by rw [nameRest]; simp [hlt]
    refine wBlk ?_
    refine wChk (by simp; omega) ?_
    refine wG (letter_c _) (_, ()) rfl ?_
    have eb : byteAt s (i : Int) = bt s i := rfl
    rw [eb]
    have fin : ∀ b : Bool, b = !(isNm (bt s i)) → (cond b (T.ret [.bool false]) (T.jump (fun vs w'' => ∃ xs', vs = encs [.b (.int .i64)] xs' ∧ ∃ m, m < s.size - i ∧ ∃ i : Nat, xs' = ((i : Int), ()) ∧ m = s.size - i ∧ w'' = w' ∧ nameOk s = nameRest s i) [.int .i64 (IntKind.wrap .i64 ((i : Int) + 1))])).wp Tryz.prog (fun e w'' => e = .returned (tupOf [.bool (nameOk s)]) ∧ w'' = w') w' := by
      intro b hb
      refine wIf (fun h => wRet ⟨tb ?_, rfl⟩) (fun h => ?_)
      · rw [hi, hstep]
        rw [h] at hb
        have : isNm (bt s i) = false := by simpa using hb.symm
        rw [this]; simp
      · rw [h] at hb
        have hn : isNm (bt s i) = true := by simpa using hb.symm
        refine wJump (((i + 1 : Nat) : Int), ()) ?_ ⟨s.size - (i + 1), by omega, i + 1, rfl, rfl, rfl, by rw [hi, hstep, hn]; simp⟩
        rw [wrap64 (by omega) (by omega)]
        rfl
    refine wIf (fun h3 => ?_) (fun h3 => wJump (_, ()) rfl (fin _ ?_))
    · have h3' : isLet (bt s i) = false := by simpa using h3
      refine wChk (by simp; omega) ?_
      refine wG (digit_c _) (_, ()) rfl ?_
      refine wIf (fun h4 => ?_) (fun h4 => wJump (_, ()) rfl (fin _ ?_))
      · have h4' : isDig (bt s i) = false := by
          simpa using h4
        refine wChk (by simp; omega) ?_
        refine wIf (fun h5 => ?_) (fun h5 => wJump (_, ()) rfl (fin _ ?_))
        · refine wChk (by simp; omega) ?_
          refine wJump (_, ()) rfl (fin _ ?_)
          simp only [bne_iff_ne, ne_eq] at h5
          simp [isNm, h3', h4', h5, bne]
        · have h5' : bt s i = 45 := by simpa using h5
          simp [isNm, h5']
      · have h4' : isDig (bt s i) = true := by simpa using h4
        simp [isNm, h4']
    · have h3' : isLet (bt s i) = true := by simpa using h3
      simp [isNm, h3']
  · simp only [decide_eq_false_iff_not] at h2
    rw [hi, nameRest]
    rw [dif_neg (by omega)]

end Go.Proofs.Cf
