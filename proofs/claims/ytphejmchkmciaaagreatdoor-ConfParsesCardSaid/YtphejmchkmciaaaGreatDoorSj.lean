/- The program reads numbers. -/
import Derived.Test.YtphejmchkmciaaaGreatDoorSi
import Derived.Lib.ConvBytes
set_option maxRecDepth 100000
namespace Go.Proofs.Cf
open Go.WF

/-- A decimal number from a place on, onto n. none: a byte is no digit. -/
def decV (s : ByteArray) (i : Nat) (n : Int) : Option Int :=
  if h : i < s.size then (if isDig (bt s i) then decV s (i + 1) (10 * n + (bt s i - 48)) else none) else some n
termination_by s.size - i

/-- A number's word: its digits, and what they are to be taken times. -/
def numT (s : ByteArray) : ByteArray × Int :=
  if 0 < s.size ∧ (bt s (s.size - 1) = 75 ∨ bt s (s.size - 1) = 107) then (s.extract 0 (s.size - 1), 1024) else (s, 1)

/-- A number's value. none: it is none. -/
def numV (s : ByteArray) : Option Int :=
  if (numT s).1.size < 1 ∨ 9 < (numT s).1.size then none else (decV (numT s).1 0 0).map (· * (numT s).2)

/-- Are all bytes digits? -/
def allDig (s : ByteArray) (i : Nat) : Bool :=
  if h : i < s.size then isDig (bt s i) && allDig s (i + 1) else true
termination_by s.size - i

theorem allDig_at {s : ByteArray} : ∀ {i : Nat}, allDig s i = true → ∀ j, i ≤ j → j < s.size → isDig (bt s j) = true := by
  intro i
  induction h : s.size - i using Nat.strongRecOn generalizing i with
  | _ n ih =>
    intro ha j hij hj
    rw [allDig, dif_pos (by omega)] at ha
    simp only [Bool.and_eq_true] at ha
    by_cases hji : j = i
    · subst hji; exact ha.1
    · exact ih (s.size - (i + 1)) (by omega) rfl ha.2 j (by omega) hj

theorem decV_none {s : ByteArray} : ∀ {i : Nat} {n : Int}, allDig s i = false → decV s i n = none := by
  intro i
  induction h : s.size - i using Nat.strongRecOn generalizing i with
  | _ n ih =>
    intro m ha
    by_cases hi : i < s.size
    · rw [allDig, dif_pos hi] at ha
      rw [decV, dif_pos hi]
      cases hd : isDig (bt s i) with
      | false => simp
      | true =>
        rw [hd] at ha
        simp only [if_true]
        exact ih (s.size - (i + 1)) (by omega) rfl (by simpa using ha)
    · rw [allDig, dif_neg hi] at ha; cases ha

/-- The value of so many digits is so large. -/
theorem decV_some {s : ByteArray} : ∀ {i : Nat} {n : Int}, allDig s i = true → ∃ m, decV s i n = some m := by
  intro i
  induction h : s.size - i using Nat.strongRecOn generalizing i with
  | _ n ih =>
    intro m ha
    by_cases hi : i < s.size
    · rw [allDig, dif_pos hi] at ha
      simp only [Bool.and_eq_true] at ha
      rw [decV, dif_pos hi, if_pos ha.1]
      exact ih (s.size - (i + 1)) (by omega) rfl ha.2
    · exact ⟨m, by rw [decV, dif_neg hi]⟩

theorem bytesWorld_keep (w : World) (e : TypeId) (s : ByteArray) : Keep [] w (Lib.bytesWorld w e s) :=
  ⟨rfl, rfl, rfl, by rw [Lib.bytesWorld_size]; omega, fun k hk _ => Lib.bytesWorld_at_old w e s k hk⟩

theorem pow10 {k : Nat} (h : k ≤ 9) : (10 : Int) ^ k ≤ 1000000000 := by
  have : (10 : Nat) ^ k ≤ 10 ^ 9 := Nat.pow_le_pow_right (by omega) h
  have e : (10 : Nat) ^ 9 = 1000000000 := by decide
  rw [e] at this
  have h2 : ((10 ^ k : Nat) : Int) ≤ ((1000000000 : Nat) : Int) := Int.ofNat_le.2 this
  rw [Int.natCast_pow] at h2
  exact h2

/-- The value of a row of digits, as the library computes it. -/
theorem atoi_c {s : ByteArray} (h1 : 1 ≤ s.size) (h9 : s.size ≤ 9) (hd : allDig s 0 = true) {n : Int} (hn : decV s 0 0 = some n) (w : World) :
    Calls Tryz.prog 81 [.string s].toArray w fun x w' => x = .returned (tupOf [.int .i64 n, .nilIface]) ∧ Keep [] w w' := by
  refine calls_tree hm Tryz.func81 (d81_ok s) ?_
  unfold d81
  refine wBlk ?_
  refine wIft (by simp; omega) ?_
  refine wJump (_, ()) rfl ?_
  refine wIft (by simp; omega) ?_
  have hb0 : isDig (bt s 0) = true := allDig_at hd 0 (by omega) (by omega)
  simp only [isDig, Bool.and_eq_true, decide_eq_true_eq] at hb0
  have eb : byteAt s 0 = bt s 0 := rfl
  rw [eb]
  refine wBlk ?_
  refine wBlk ?_
  refine wChk (by simp; omega) ?_
  refine wIff (by simp; omega) ?_
  refine wChk (by simp; omega) ?_
  refine wJump (_, ()) rfl ?_
  refine wIff (by simp; omega) ?_
  refine wJump (_, ()) rfl ?_
  refine wOp (⟨some ⟨w.heap.size, 0, none⟩, s.size, grownCap w s.size 0 5⟩, ()) (Lib.run_convert_string_bytes w 9 86 5 s Tryz.underlying9 Tryz.underlying86 Tryz.underlying5) rfl ?_
  refine wLoop (fun k xs w' => ∃ i : Nat, xs.2.1 = (i : Int) ∧ i ≤ s.size ∧ k = s.size - i ∧ w' = Lib.bytesWorld w 5 s ∧ (0 : Int) ≤ xs.1 ∧ xs.1 < (10 : Int) ^ i ∧ decV s 0 0 = decV s i xs.1) s.size (0, 0, ()) rfl ⟨0, rfl, by omega, rfl, rfl, by simp, by simp, rfl⟩ ?_
  rintro k ⟨(x : Int), _, ⟨⟩⟩ w' ⟨i, rfl, hi, rfl, rfl, hx0, hx1, hv⟩
  replace hx0 : (0 : Int) ≤ x := hx0
  replace hx1 : x < (10 : Int) ^ i := hx1
  replace hv : decV s 0 0 = decV s i x := hv
  have hp := pow10 (k := i) (by omega)
  refine wIf (fun hlt => ?_) (fun hge => ?_)
  · have hlt' : i < s.size := by
      simp only [decide_eq_true_eq] at hlt
      exact_mod_cast hlt
    have hdi := allDig_at hd i (by omega) hlt'
    have hdi' := hdi
    simp only [isDig, Bool.and_eq_true, decide_eq_true_eq] at hdi
    refine wChk ?_ ?_
    · show (true && decide (0 ≤ (i : Int) ∧ (i : Int) < (s.size : Int))) = true
      simp; omega
    simp only [T.wp]
    refine ⟨bt s i, ?_, ?_⟩
    · refine ⟨?_, trivial⟩
      show (Lib.bytesWorld w 5 s).cell? ((⟨w.heap.size, 0, none⟩ : Addr).add (i * 1)) = _
      rw [add_mk, Nat.zero_add, Nat.mul_one, Lib.bytesWorld_cell w 5 s i hlt']
      simp [B.enc, bt, Array.getD, List.getD, hlt']
    have w8 : IntKind.wrap .u8 (bt s i - 48) = bt s i - 48 := by
      simp only [IntKind.wrap, IntKind.bits, IntKind.signed]
      simp
      omega
    rw [w8]
    refine wIff (by simp; omega) ?_
    have hpow : (10 : Int) ^ (i + 1) = 10 * 10 ^ i := by rw [Int.pow_succ]; omega
    have a1 : IntKind.wrap .i64 (x * 10) = x * 10 := wrap64 (by omega) (by omega)
    have a2 : IntKind.wrap .i64 (bt s i - 48) = bt s i - 48 := wrap64 (by omega) (by omega)
    have a3 : IntKind.wrap .i64 (x * 10 + (bt s i - 48)) = 10 * x + (bt s i - 48) := by rw [wrap64 (by omega) (by omega)]; omega
    have a4 : IntKind.wrap .i64 ((i : Int) + 1) = ((i + 1 : Nat) : Int) := by rw [wrap64 (by omega) (by omega)]; rfl
    refine wJump (10 * x + (bt s i - 48), ((i + 1 : Nat) : Int), ()) ?_ ⟨s.size - (i + 1), by omega, i + 1, rfl, by omega, rfl, rfl, ?_, ?_, ?_⟩
    · rw [a1, a2, a3, a4]; rfl
    · show (0 : Int) ≤ 10 * x + (bt s i - 48)
      omega
    · show 10 * x + (bt s i - 48) < (10 : Int) ^ (i + 1)
      omega
    · show decV s 0 0 = decV s (i + 1) (10 * x + (bt s i - 48))
      rw [hv, decV, dif_pos hlt', if_pos hdi']
  · have hge' : i = s.size := by
      simp only [decide_eq_false_iff_not] at hge
      have : ¬ ((i : Int) < (s.size : Int)) := hge
      omega
    subst hge'
    have hv2 : decV s s.size x = some x := by rw [decV, dif_neg (Nat.lt_irrefl _)]
    rw [hn, hv2] at hv
    have hxn : n = x := by simpa using hv
    refine wBlk ?_
    refine wChk (by simp; omega) ?_
    refine wIff (by simp; omega) ?_
    refine wJump (_, ()) rfl ?_
    refine wRet ⟨?_, bytesWorld_keep w 5 s⟩
    rw [hxn]

theorem atoiS_c {s : ByteArray} (h1 : 1 ≤ s.size) (h9 : s.size ≤ 9) (hd : allDig s 0 = true) {n : Int} (hn : decV s 0 0 = some n) (w : World) :
    Calls Tryz.prog 74 [.string s].toArray w fun x w' => x = .returned (tupOf [.int .i64 n, .nilIface]) ∧ Keep [] w w' := by
  refine calls_tree hm Tryz.func74 (d74_ok s) ?_
  unfold d74
  refine wCall (atoi_c h1 h9 hd hn w) ?_
  rintro x w' ⟨rfl, hk⟩
  refine ⟨(n, none, ()), rfl, ?_⟩
  refine wChk rfl ?_
  refine wIff rfl ?_
  exact wRet ⟨rfl, hk⟩

theorem decV_lt {s : ByteArray} : ∀ {i : Nat} {n m : Int}, 0 ≤ n → n < (10 : Int) ^ i → i ≤ s.size → decV s i n = some m → 0 ≤ m ∧ m < (10 : Int) ^ s.size := by
  intro i
  induction h : s.size - i using Nat.strongRecOn generalizing i with
  | _ k ih =>
    intro n m h0 h1 hi hm
    by_cases hlt : i < s.size
    · rw [decV, dif_pos hlt] at hm
      split at hm
      · rename_i hd
        simp only [isDig, Bool.and_eq_true, decide_eq_true_eq] at hd
        have hpow : (10 : Int) ^ (i + 1) = 10 * 10 ^ i := by rw [Int.pow_succ]; omega
        exact ih (s.size - (i + 1)) (by omega) rfl (by omega) (by omega) (by omega) hm
      · cases hm
    · rw [decV, dif_neg hlt] at hm
      have : i = s.size := by omega
      subst this
      cases hm
      exact ⟨h0, h1⟩

/-- A number, or none, as values. -/
def numR : Option Int → List Value
  | some n => [.int .i64 n, .bool true]
  | none => [.int .i64 0, .bool false]

theorem number_c {s : ByteArray} (hs : s.size ≤ 65536) (w : World) :
    Calls Tryz.prog 64 [.string s].toArray w fun x w' => x = .returned (tupOf (numR (numV s))) ∧ Keep [] w w' := by
  refine calls_tree hm Tryz.func64 (d64_ok s) ?_
  unfold d64
  have hT : (numT s).1.size ≤ s.size ∧ ((numT s).2 = 1 ∨ (numT s).2 = 1024) := by
    unfold numT
    split
    · refine ⟨?_, .inr rfl⟩
      show (s.extract 0 (s.size - 1)).size ≤ s.size
      simp
    · exact ⟨Nat.le_refl _, .inl rfl⟩
  refine wBlkK (fun xs w' => w' = w ∧ xs.1 = (numT s).1 ∧ xs.2.1 = (numT s).2) ?_ (fun rest => ?_)
  · rintro ⟨t, m, ⟨⟩⟩ w' ⟨rfl, ht, hm'⟩
    have hnum : numV s = if t.size < 1 ∨ 9 < t.size then none else (decV t 0 0).map (· * m) := by
      unfold numV
      rw [← ht, ← hm']
    rw [← ht, ← hm'] at hT
    replace hT : t.size ≤ s.size ∧ ((m : Int) = 1 ∨ (m : Int) = 1024) := hT
    clear ht hm'
    generalize numV s = N at *
    have hnone : N = none → (T.ret [.int .i64 0, .bool false]).wp Tryz.prog (fun x w'' => x = .returned (tupOf (numR N)) ∧ Keep [] w' w'') w' := fun h => by
      rw [h]; exact wRet ⟨rfl, Keep.refl _ _⟩
    refine wBlkK (fun xs w'' => w'' = w' ∧ xs.1 = decide (t.size < 1 ∨ 9 < t.size)) ?_ (fun rest => ?_)
    · rintro ⟨c, ⟨⟩⟩ w'' ⟨rfl, hc⟩
      simp only [] at hc
      subst hc
      refine wIf (fun hc => ?_) (fun hc => ?_)
      · simp only [decide_eq_true_eq] at hc
        exact hnone (by rw [hnum, if_pos hc])
      · simp only [decide_eq_false_iff_not] at hc
        rw [if_neg hc] at hnum
        refine wLoop (fun k xs w2 => ∃ i : Nat, xs.1 = (i : Int) ∧ i ≤ t.size ∧ k = t.size - i ∧ w2 = w'' ∧ allDig t 0 = allDig t i) t.size (0, ()) rfl ⟨0, rfl, by omega, rfl, rfl, rfl⟩ ?_
        rintro k ⟨_, ⟨⟩⟩ w2 ⟨i, rfl, hi, rfl, rfl, hv⟩
        refine wIf (fun hlt => ?_) (fun hge => ?_)
        · have hlt' : i < t.size := by
            simp only [decide_eq_true_eq] at hlt
            exact_mod_cast hlt
          refine wChk (by simp; omega) ?_
          have eb : byteAt t (i : Int) = bt t i := rfl
          rw [eb]
          refine wG (digit_c _) (_, ()) rfl ?_
          have hstep : allDig t i = (isDig (bt t i) && allDig t (i + 1)) := by rw [allDig, dif_pos hlt']
          refine wIf (fun hd => ?_) (fun hd => ?_)
          · have hd' : isDig (bt t i) = false := by simpa using hd
            rw [hstep, hd'] at hv
            exact hnone (by rw [hnum, decV_none (by simpa using hv)]; rfl)
          · have hd' : isDig (bt t i) = true := by simpa using hd
            rw [hstep, hd', Bool.true_and] at hv
            have a4 : IntKind.wrap .i64 ((i : Int) + 1) = ((i + 1 : Nat) : Int) := by rw [wrap64 (by omega) (by omega)]; rfl
            refine wJump (((i + 1 : Nat) : Int), ()) (by rw [a4]; rfl) ⟨t.size - (i + 1), by omega, i + 1, rfl, by omega, rfl, rfl, hv⟩
        · have hge' : i = t.size := by
            simp only [decide_eq_false_iff_not] at hge
            have : ¬ ((i : Int) < (t.size : Int)) := hge
            omega
          subst hge'
          rw [allDig.eq_def t t.size, dif_neg (Nat.lt_irrefl _)] at hv
          obtain ⟨n, hn⟩ := decV_some (n := 0) hv
          have hlt := decV_lt (Int.le_refl 0) (by simp) (Nat.zero_le _) hn
          have hp := pow10 (k := t.size) (by omega)
          refine wCall (atoiS_c (by omega) (by omega) hv hn w2) ?_
          rintro x w3 ⟨rfl, hk⟩
          refine ⟨(n, none, ()), rfl, wRet ⟨?_, hk⟩⟩
          rw [hnum, hn]
          have hw : IntKind.wrap .i64 (n * m) = n * m := by
            rcases hT.2 with e | e
            · rw [e]; exact wrap64 (by omega) (by omega)
            · rw [e]; exact wrap64 (by omega) (by omega)
          show Ending.returned (tupOf [.int .i64 (IntKind.wrap .i64 (n * m)), .bool true]) = _
          rw [hw]
          rfl
    · refine wIf (fun h1 => wJump (_, ()) rfl (rest _ _ ⟨rfl, ?_⟩)) (fun h1 => wJump (_, ()) rfl (rest _ _ ⟨rfl, ?_⟩))
      · have h1' : (t.size : Int) < 1 := of_decide_eq_true h1
        show true = decide _
        rw [decide_eq_true (by omega)]
      · have h1' : ¬ (t.size : Int) < 1 := of_decide_eq_false h1
        show decide ((t.size : Int) > 9) = decide _
        apply decide_eq_decide.2
        omega
  · have e1 : 0 < s.size → IntKind.wrap .i64 ((s.size : Int) - 1) = ((s.size - 1 : Nat) : Int) := fun h => by rw [wrap64 (by omega) (by omega)]; omega
    have eb : byteAt s ((s.size - 1 : Nat) : Int) = bt s (s.size - 1) := rfl
    refine wBlkK (fun xs w' => w' = w ∧ xs.1 = decide (0 < s.size ∧ (bt s (s.size - 1) = 75 ∨ bt s (s.size - 1) = 107))) ?_ (fun rest2 => ?_)
    · rintro ⟨c, ⟨⟩⟩ w' ⟨rfl, hc⟩
      simp only [] at hc
      subst hc
      refine wIf (fun hc => ?_) (fun hc => ?_)
      · simp only [decide_eq_true_eq] at hc
        rw [e1 hc.1]
        refine wChk (by simp) ?_
        refine wJump (_, _, ()) rfl (rest _ _ ⟨rfl, ?_, ?_⟩)
        · unfold numT; rw [if_pos hc]; rfl
        · unfold numT; rw [if_pos hc]
      · simp only [decide_eq_false_iff_not] at hc
        refine wJump (_, _, ()) rfl (rest _ _ ⟨rfl, ?_, ?_⟩)
        · unfold numT; rw [if_neg hc]
        · unfold numT; rw [if_neg hc]
    · refine wIf (fun h1 => ?_) (fun h1 => wJump (_, ()) rfl (rest2 _ _ ⟨rfl, ?_⟩))
      · simp only [decide_eq_true_eq] at h1
        have h1' : 0 < s.size := by omega
        rw [e1 h1'] at rest2 ⊢
        rw [eb]
        refine wChk (by simp; omega) ?_
        refine wIf (fun h2 => wJump (_, ()) rfl (rest2 _ _ ⟨rfl, ?_⟩)) (fun h2 => wChk (by simp; omega) (wJump (_, ()) rfl (rest2 _ _ ⟨rfl, ?_⟩)))
        · simp only [beq_iff_eq] at h2
          show true = decide _
          rw [decide_eq_true ⟨h1', .inl h2⟩]
        · simp only [beq_eq_false_iff_ne, ne_eq] at h2
          show (bt s (s.size - 1) == 107) = decide _
          rw [Bool.eq_iff_iff]
          simp [h1', h2]
      · simp only [decide_eq_false_iff_not] at h1
        show false = decide _
        rw [decide_eq_false (by omega)]

end Go.Proofs.Cf
