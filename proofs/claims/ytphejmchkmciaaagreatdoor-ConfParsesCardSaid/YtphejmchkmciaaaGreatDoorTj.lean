/- The reference's table of keys, and what a value means there. -/
import Derived.Test.YtphejmchkmciaaaGreatDoorTi
set_option maxRecDepth 100000
set_option linter.unusedVariables false
namespace Go.Proofs.Cf
open Go.WF

/-- A key of the reference's table. -/
abbrev keyV (k : KD) : Ty73 := (k.nm, k.sec, k.lo, k.hi, k.dflt, ())

def tabV : Ty74 := ((kd 0).nm, (kd 0).sec, (kd 0).lo, (kd 0).hi, (kd 0).dflt, (kd 1).nm, (kd 1).sec, (kd 1).lo, (kd 1).hi, (kd 1).dflt, (kd 2).nm, (kd 2).sec, (kd 2).lo, (kd 2).hi, (kd 2).dflt, (kd 3).nm, (kd 3).sec, (kd 3).lo, (kd 3).hi, (kd 3).dflt, (kd 4).nm, (kd 4).sec, (kd 4).lo, (kd 4).hi, (kd 4).dflt, (kd 5).nm, (kd 5).sec, (kd 5).lo, (kd 5).hi, (kd 5).dflt, (kd 6).nm, (kd 6).sec, (kd 6).lo, (kd 6).hi, (kd 6).dflt, (kd 7).nm, (kd 7).sec, (kd 7).lo, (kd 7).hi, (kd 7).dflt, (kd 8).nm, (kd 8).sec, (kd 8).lo, (kd 8).hi, (kd 8).dflt, (kd 9).nm, (kd 9).sec, (kd 9).lo, (kd 9).hi, (kd 9).dflt, (kd 10).nm, (kd 10).sec, (kd 10).lo, (kd 10).hi, (kd 10).dflt, (kd 11).nm, (kd 11).sec, (kd 11).lo, (kd 11).hi, (kd 11).dflt, (kd 12).nm, (kd 12).sec, (kd 12).lo, (kd 12).hi, (kd 12).dflt, (kd 13).nm, (kd 13).sec, (kd 13).lo, (kd 13).hi, (kd 13).dflt, (kd 14).nm, (kd 14).sec, (kd 14).lo, (kd 14).hi, (kd 14).dflt, (kd 15).nm, (kd 15).sec, (kd 15).lo, (kd 15).hi, (kd 15).dflt, ())

theorem tab_at (i : Nat) (hi : i < 16) (j : Nat) (v : Value) (hj : (bencs K73 (keyV (kd i)))[j]? = some v) : (bencs K74 tabV)[i * 5 + j]? = some v :=
  match i, hi with
  | 0, _ => by
    match j, hj with
    | 0, hj => exact hj
    | 1, hj => exact hj
    | 2, hj => exact hj
    | 3, hj => exact hj
    | 4, hj => exact hj
    | n + 5, hj => exact absurd (show none = some v from hj) (by intro h; cases h)
  | 1, _ => by
    match j, hj with
    | 0, hj => exact hj
    | 1, hj => exact hj
    | 2, hj => exact hj
    | 3, hj => exact hj
    | 4, hj => exact hj
    | n + 5, hj => exact absurd (show none = some v from hj) (by intro h; cases h)
  | 2, _ => by
    match j, hj with
    | 0, hj => exact hj
    | 1, hj => exact hj
    | 2, hj => exact hj
    | 3, hj => exact hj
    | 4, hj => exact hj
    | n + 5, hj => exact absurd (show none = some v from hj) (by intro h; cases h)
  | 3, _ => by
    match j, hj with
    | 0, hj => exact hj
    | 1, hj => exact hj
    | 2, hj => exact hj
    | 3, hj => exact hj
    | 4, hj => exact hj
    | n + 5, hj => exact absurd (show none = some v from hj) (by intro h; cases h)
  | 4, _ => by
    match j, hj with
    | 0, hj => exact hj
    | 1, hj => exact hj
    | 2, hj => exact hj
    | 3, hj => exact hj
    | 4, hj => exact hj
    | n + 5, hj => exact absurd (show none = some v from hj) (by intro h; cases h)
  | 5, _ => by
    match j, hj with
    | 0, hj => exact hj
    | 1, hj => exact hj
    | 2, hj => exact hj
    | 3, hj => exact hj
    | 4, hj => exact hj
    | n + 5, hj => exact absurd (show none = some v from hj) (by intro h; cases h)
  | 6, _ => by
    match j, hj with
    | 0, hj => exact hj
    | 1, hj => exact hj
    | 2, hj => exact hj
    | 3, hj => exact hj
    | 4, hj => exact hj
    | n + 5, hj => exact absurd (show none = some v from hj) (by intro h; cases h)
  | 7, _ => by
    match j, hj with
    | 0, hj => exact hj
    | 1, hj => exact hj
    | 2, hj => exact hj
    | 3, hj => exact hj
    | 4, hj => exact hj
    | n + 5, hj => exact absurd (show none = some v from hj) (by intro h; cases h)
  | 8, _ => by
    match j, hj with
    | 0, hj => exact hj
    | 1, hj => exact hj
    | 2, hj => exact hj
    | 3, hj => exact hj
    | 4, hj => exact hj
    | n + 5, hj => exact absurd (show none = some v from hj) (by intro h; cases h)
  | 9, _ => by
    match j, hj with
    | 0, hj => exact hj
    | 1, hj => exact hj
    | 2, hj => exact hj
    | 3, hj => exact hj
    | 4, hj => exact hj
    | n + 5, hj => exact absurd (show none = some v from hj) (by intro h; cases h)
  | 10, _ => by
    match j, hj with
    | 0, hj => exact hj
    | 1, hj => exact hj
    | 2, hj => exact hj
    | 3, hj => exact hj
    | 4, hj => exact hj
    | n + 5, hj => exact absurd (show none = some v from hj) (by intro h; cases h)
  | 11, _ => by
    match j, hj with
    | 0, hj => exact hj
    | 1, hj => exact hj
    | 2, hj => exact hj
    | 3, hj => exact hj
    | 4, hj => exact hj
    | n + 5, hj => exact absurd (show none = some v from hj) (by intro h; cases h)
  | 12, _ => by
    match j, hj with
    | 0, hj => exact hj
    | 1, hj => exact hj
    | 2, hj => exact hj
    | 3, hj => exact hj
    | 4, hj => exact hj
    | n + 5, hj => exact absurd (show none = some v from hj) (by intro h; cases h)
  | 13, _ => by
    match j, hj with
    | 0, hj => exact hj
    | 1, hj => exact hj
    | 2, hj => exact hj
    | 3, hj => exact hj
    | 4, hj => exact hj
    | n + 5, hj => exact absurd (show none = some v from hj) (by intro h; cases h)
  | 14, _ => by
    match j, hj with
    | 0, hj => exact hj
    | 1, hj => exact hj
    | 2, hj => exact hj
    | 3, hj => exact hj
    | 4, hj => exact hj
    | n + 5, hj => exact absurd (show none = some v from hj) (by intro h; cases h)
  | 15, _ => by
    match j, hj with
    | 0, hj => exact hj
    | 1, hj => exact hj
    | 2, hj => exact hj
    | 3, hj => exact hj
    | 4, hj => exact hj
    | n + 5, hj => exact absurd (show none = some v from hj) (by intro h; cases h)
  | n + 16, h => absurd h (by omega)

theorem table_r (w : World) : Calls Tryz.prog 31 [].toArray w fun x w' => x = .returned (tupOf [.agg (bencs K74 tabV).toArray]) ∧ Keep [] w w' := by
  refine calls_tree hm Tryz.func31 d31_ok ?_
  unfold d31
  have H : ST w [] w [] := ST.nil [] w
  refine wN H fun p0 w1 h0 H => ?_
  refine wSA H 0 rfl rfl rfl rfl fun w2 H => ?_
  refine wLA H 0 tabV rfl rfl rfl ?_
  exact wRet ⟨rfl, H.keep⟩

/-- The number of a key. -/
def keyN : Option (Option Nat) → Int
  | none => -2
  | some none => -1
  | some (some i) => (i : Int)

theorem find_r (sec nm : ByteArray) (w : World) : Calls Tryz.prog 70 [.string sec, .string nm].toArray w fun x w' => x = .returned (tupOf [.int .i64 (keyN (findS sec nm))]) ∧ Keep [] w w' := by
  refine calls_tree hm Tryz.func70 (d70_ok sec nm) ?_
  unfold d70
  refine wBlkK (fun xs w' => w' = w ∧ xs.1 = decide (sec = netS ∧ nm = secretS)) ?_ (fun rest => ?_)
  · rintro ⟨c, ⟨⟩⟩ w' ⟨rfl, hc⟩
    simp only [] at hc
    subst hc
    refine wIf (fun hc => ?_) (fun hc => ?_)
    · have hc' := of_decide_eq_true hc
      refine wRet ⟨?_, Keep.refl _ _⟩
      rw [findS, if_pos hc']
      rfl
    · have hc' := of_decide_eq_false hc
      have hfs : findS sec nm = (findFrom sec nm 0).map some := by rw [findS, if_neg hc']
      refine wCall (table_r w') ?_
      rintro x w1 ⟨rfl, hk⟩
      refine ⟨(tabV, ()), rfl, ?_⟩
      have H : ST w' [] w1 [] := (ST.nil [] w').made hk
      refine wN H fun b w2 hb H => ?_
      refine wSA H 0 rfl rfl rfl rfl fun w3 H => ?_
      refine wLoop (fun n xs w2 => ∃ i : Nat, xs = ((i : Int), ()) ∧ i ≤ 16 ∧ n = 16 - i ∧ w2 = w3 ∧ findFrom sec nm 0 = findFrom sec nm i) 16 ((0 : Int), ()) rfl ⟨0, rfl, by omega, rfl, rfl, rfl⟩ ?_
      rintro n _ w2 ⟨i, rfl, hi, rfl, rfl, hf⟩
      refine wIf (fun hlt => ?_) (fun hge => ?_)
      · have hlt' : i < 16 := by
          have h := of_decide_eq_true hlt
          have h' : (i : Int) < 16 := h
          omega
        have hch : decide (0 ≤ (i : Int) ∧ (i : Int) < (16 : Int)) = true := by simp; omega
        have e1 : ((i : Int)).toNat = i := by simp
        refine wBlkK (fun xs w' => w' = w2 ∧ xs.1 = decide ((kd i).sec = sec ∧ (kd i).nm = nm)) ?_ (fun rest2 => ?_)
        · rintro ⟨c, ⟨⟩⟩ w4 ⟨rfl, hcc⟩
          simp only [] at hcc
          subst hcc
          refine wIf (fun hcc => ?_) (fun hcc => ?_)
          · have hcc' := of_decide_eq_true hcc
            refine wRet ⟨?_, H.keep⟩
            rw [hfs, hf, findFrom, dif_pos hlt', if_pos hcc']
            rfl
          · have hcc' := of_decide_eq_false hcc
            have e3 : IntKind.wrap .i64 ((i : Int) + 1) = ((i + 1 : Nat) : Int) := by rw [wrap64 (by omega) (by omega)]; rfl
            refine wJump (((i + 1 : Nat) : Int), ()) ?_ ⟨16 - (i + 1), by omega, i + 1, rfl, by omega, rfl, rfl, ?_⟩
            · show [Value.int .i64 (IntKind.wrap .i64 ((i : Int) + 1))] = _
              rw [e3]; rfl
            · rw [hf, findFrom, dif_pos hlt', if_neg hcc']
        · refine wChk hch ?_
          refine wL H 0 (kd i).sec (o := i * 5 + 1) (by show ((⟨b, 0, none⟩ : Addr).add (((i : Int)).toNat * 5)).add 1 = _; rw [e1, add_mk, add_mk, Nat.zero_add]) rfl (tab_at i hlt' 1 _ rfl) ?_
          refine wIf (fun h1 => ?_) (fun h1 => wJump (_, ()) rfl (rest2 _ _ ⟨rfl, ?_⟩))
          · rw [str_eq] at h1
            have h1' := of_decide_eq_true h1
            refine wChk hch ?_
            refine wL H 0 (kd i).nm (o := i * 5) (by show (⟨b, 0, none⟩ : Addr).add (((i : Int)).toNat * 5) = _; rw [e1, add_mk, Nat.zero_add]) rfl (tab_at i hlt' 0 _ rfl) ?_
            refine wJump (_, ()) rfl (rest2 _ _ ⟨rfl, ?_⟩)
            show ((kd i).nm.toList == nm.toList) = _
            rw [str_eq]
            simp [h1']
          · rw [str_eq] at h1
            have h1' := of_decide_eq_false h1
            show false = decide _
            rw [decide_eq_false (fun h => h1' h.1)]
      · have hge' : i = 16 := by
          have h := of_decide_eq_false hge
          have h' : ¬ (i : Int) < 16 := h
          omega
        subst hge'
        refine wRet ⟨?_, H.keep⟩
        rw [hfs, hf, findFrom, dif_neg (by omega)]
        rfl
  · refine wIf (fun h1 => wJump (_, ()) rfl (rest _ _ ⟨rfl, ?_⟩)) (fun h1 => wJump (_, ()) rfl (rest _ _ ⟨rfl, ?_⟩))
    · rw [str_eq] at h1
      have h1' := of_decide_eq_true h1
      show (nm.toList == _) = _
      rw [str_eq]
      simp [h1']
    · rw [str_eq] at h1
      have h1' := of_decide_eq_false h1
      show false = decide _
      rw [decide_eq_false (fun h => h1' h.1)]

theorem wrapu8 {n : Int} (h0 : 0 ≤ n) (h1 : n ≤ 255) : IntKind.wrap .u8 n = n := by
  simp only [IntKind.wrap, IntKind.bits, IntKind.signed]
  simp
  omega

theorem pow10_lt {i : Nat} (h : i ≤ 9) : (10 : Int) ^ i ≤ 1000000000 := pow10 h

theorem read_r {s : ByteArray} (hs : s.size ≤ 65536) : Gives 76 [.string s] [.int .i64 ((numV s).getD (-1))] := by
  intro w
  refine calls_tree hm Tryz.func76 (d76_ok s) ?_
  unfold d76
  refine wBlkK (fun xs w' => w' = w ∧ xs.1 = (numT s).2 ∧ xs.2.1 = (numT s).1) ?_ (fun rest => ?_)
  · rintro ⟨m, t, ⟨⟩⟩ w' ⟨rfl, hm', ht⟩
    have hT : (numT s).1.size ≤ s.size ∧ ((numT s).2 = 1 ∨ (numT s).2 = 1024) := by
      unfold numT
      split
      · refine ⟨?_, .inr rfl⟩
        show (s.extract 0 (s.size - 1)).size ≤ s.size
        simp
      · exact ⟨Nat.le_refl _, .inl rfl⟩
    have hnum : numV s = if t.size < 1 ∨ 9 < t.size then none else (decV t 0 0).map (· * m) := by
      unfold numV
      rw [← ht, ← hm']
    rw [← ht, ← hm'] at hT
    replace hT : t.size ≤ s.size ∧ ((m : Int) = 1 ∨ (m : Int) = 1024) := hT
    clear ht hm'
    generalize numV s = N at *
    have hnone : N = none → (T.ret [.int .i64 (-1)]).wp Tryz.prog (fun x w'' => x = .returned (tupOf [.int .i64 (N.getD (-1))]) ∧ w'' = w') w' := fun h => by
      rw [h]; exact wRet ⟨rfl, rfl⟩
    refine wBlkK (fun xs w'' => w'' = w' ∧ xs.1 = decide (t.size < 1 ∨ 9 < t.size)) ?_ (fun rest => ?_)
    · rintro ⟨c, ⟨⟩⟩ w'' ⟨rfl, hc⟩
      simp only [] at hc
      subst hc
      refine wIf (fun hc => ?_) (fun hc => ?_)
      · simp only [decide_eq_true_eq] at hc
        exact hnone (by rw [hnum, if_pos hc])
      · simp only [decide_eq_false_iff_not] at hc
        rw [if_neg hc] at hnum
        refine wLoop (fun k xs w2 => ∃ (i : Nat) (n : Int), xs.1 = n ∧ xs.2.1 = (i : Int) ∧ i ≤ t.size ∧ k = t.size - i ∧ w2 = w'' ∧ 0 ≤ n ∧ n < (10 : Int) ^ i ∧ decV t 0 0 = decV t i n) t.size (0, 0, ()) rfl ⟨0, 0, rfl, rfl, by omega, rfl, rfl, by omega, by decide, rfl⟩ ?_
        rintro k ⟨(n : Int), _, ⟨⟩⟩ w2 ⟨i, _, rfl, rfl, hi, rfl, rfl, hn0, hn1, hv⟩
        have hp := pow10 (k := i) (by omega)
        refine wIf (fun hlt => ?_) (fun hge => ?_)
        · have hlt' : i < t.size := by
            have h : (i : Int) < (t.size : Int) := of_decide_eq_true hlt
            omega
          have hch : decide (0 ≤ (i : Int) ∧ (i : Int) < (t.size : Int)) = true := by simp; omega
          have eb : byteAt t (i : Int) = bt t i := rfl
          refine wBlkK (fun xs w3 => w3 = w2 ∧ xs.1 = !(isDig (bt t i))) ?_ (fun rest2 => ?_)
          · rintro ⟨c, ⟨⟩⟩ w3 ⟨rfl, hcc⟩
            simp only [] at hcc
            subst hcc
            refine wIf (fun hcc => ?_) (fun hcc => ?_)
            · rw [Bool.not_eq_true'] at hcc
              refine hnone ?_
              rw [hnum, hv, decV, dif_pos hlt', hcc]
              rfl
            · rw [Bool.not_eq_false'] at hcc
              have hdd := hcc
              simp only [isDig, Bool.and_eq_true, decide_eq_true_eq] at hdd
              refine wChk hch ?_
              have hb1 : IntKind.wrap .u8 (bt t i - 48) = bt t i - 48 := wrapu8 (by omega) (by omega)
              have hb2 : IntKind.wrap .i64 (bt t i - 48) = bt t i - 48 := wrap64 (by omega) (by omega)
              have hb3 : IntKind.wrap .i64 ((10 : Int) * n) = 10 * n := wrap64 (by omega) (by omega)
              have hb4 : IntKind.wrap .i64 (10 * n + (bt t i - 48)) = 10 * n + (bt t i - 48) := wrap64 (by omega) (by omega)
              have e3 : IntKind.wrap .i64 ((i : Int) + 1) = ((i + 1 : Nat) : Int) := by rw [wrap64 (by omega) (by omega)]; rfl
              rw [eb, hb1, hb2, hb3, hb4, e3]
              refine wJump (10 * n + (bt t i - 48), ((i + 1 : Nat) : Int), ()) rfl ⟨t.size - (i + 1), by omega, i + 1, _, rfl, rfl, by omega, rfl, rfl, by omega, ?_, ?_⟩
              · rw [Int.pow_succ]; omega
              · rw [hv, decV, dif_pos hlt', if_pos hcc]
          · refine wChk hch ?_
            rw [eb]
            refine wIf (fun h1 => wJump (_, ()) rfl (rest2 _ _ ⟨rfl, ?_⟩)) (fun h1 => ?_)
            · have h1' : bt t i < 48 := of_decide_eq_true h1
              show true = !(isDig _)
              unfold isDig
              rw [decide_eq_false (by omega)]
              rfl
            · have h1' : ¬ bt t i < 48 := of_decide_eq_false h1
              refine wChk hch ?_
              refine wJump (_, ()) rfl (rest2 _ _ ⟨rfl, ?_⟩)
              show decide (bt t i > 57) = !(isDig _)
              unfold isDig
              rw [decide_eq_true (show 48 ≤ bt t i by omega), Bool.true_and, ← decide_not]
              apply decide_eq_decide.2
              omega
        · have hge' : i = t.size := by
            have h : ¬ (i : Int) < (t.size : Int) := of_decide_eq_false hge
            omega
          have hd : decV t i n = some n := by rw [decV, dif_neg (by omega)]
          have hm2 : IntKind.wrap .i64 (n * m) = n * m := by
            rcases hT.2 with h | h
            · rw [h]; exact wrap64 (by omega) (by omega)
            · rw [h]; exact wrap64 (by omega) (by omega)
          refine wRet ⟨?_, rfl⟩
          rw [hm2, hnum, hv, hd]
          rfl
    · refine wIf (fun h1 => wJump (_, ()) rfl (rest _ _ ⟨rfl, ?_⟩)) (fun h1 => wJump (_, ()) rfl (rest _ _ ⟨rfl, ?_⟩))
      · have h1' : (t.size : Int) < 1 := of_decide_eq_true h1
        show true = decide _
        rw [decide_eq_true (by omega)]
      · have h1' : ¬ (t.size : Int) < 1 := of_decide_eq_false h1
        show decide ((t.size : Int) > 9) = decide _
        apply decide_eq_decide.2
        omega
  · refine wBlkK (fun xs w' => w' = w ∧ xs.1 = decide (0 < s.size ∧ (bt s (s.size - 1) = 75 ∨ bt s (s.size - 1) = 107))) ?_ (fun rest2 => ?_)
    · rintro ⟨c, ⟨⟩⟩ w' ⟨rfl, hc⟩
      simp only [] at hc
      subst hc
      refine wIf (fun hc => ?_) (fun hc => ?_)
      · have hc' := of_decide_eq_true hc
        have e1 : IntKind.wrap .i64 ((s.size : Int) - 1) = ((s.size - 1 : Nat) : Int) := by rw [wrap64 (by omega) (by omega)]; omega
        rw [e1]
        refine wChk (by simp) ?_
        refine wJump (_, _, ()) rfl (rest _ _ ⟨rfl, ?_, ?_⟩)
        · rw [numT, if_pos hc']
        · rw [numT, if_pos hc']
          rfl
      · have hc' := of_decide_eq_false hc
        refine wJump (_, _, ()) rfl (rest _ _ ⟨rfl, ?_, ?_⟩)
        · rw [numT, if_neg hc']
        · rw [numT, if_neg hc']
    · refine wIf (fun h1 => ?_) (fun h1 => wJump (_, ()) rfl (rest2 _ _ ⟨rfl, ?_⟩))
      · have h1' : (s.size : Int) > 0 := of_decide_eq_true h1
        have e1 : IntKind.wrap .i64 ((s.size : Int) - 1) = ((s.size - 1 : Nat) : Int) := by rw [wrap64 (by omega) (by omega)]; omega
        rw [e1] at rest2 ⊢
        have hch : decide (0 ≤ ((s.size - 1 : Nat) : Int) ∧ ((s.size - 1 : Nat) : Int) < (s.size : Int)) = true := by simp; omega
        have eb : byteAt s ((s.size - 1 : Nat) : Int) = bt s (s.size - 1) := rfl
        rw [eb]
        refine wChk hch ?_
        refine wIf (fun h2 => wJump (_, ()) rfl (rest2 _ _ ⟨rfl, ?_⟩)) (fun h2 => wChk hch (wJump (_, ()) rfl (rest2 _ _ ⟨rfl, ?_⟩)))
        · have h2' : bt s (s.size - 1) = 75 := (beq_iff_eq).1 h2
          show true = decide _
          rw [decide_eq_true ⟨by omega, .inl h2'⟩]
        · have h2' : bt s (s.size - 1) ≠ 75 := (beq_eq_false_iff_ne).1 h2
          show (bt s (s.size - 1) == 107) = decide _
          rw [Bool.eq_iff_iff]
          simp only [beq_iff_eq, decide_eq_true_eq]
          constructor
          · intro h; exact ⟨by omega, .inr h⟩
          · rintro ⟨_, h | h⟩
            · exact absurd h h2'
            · exact h
      · have h1' : ¬ (s.size : Int) > 0 := of_decide_eq_false h1
        show false = decide _
        rw [decide_eq_false (fun h => by omega)]

/-- What the reference's keys are like. -/
theorem kd_num : ∀ i : Fin 16, ((kd i.val).ws = [] → 0 < (kd i.val).hi ∧ 1 ≤ (kd i.val).lo) ∧ ((kd i.val).ws ≠ [] → (kd i.val).hi = 0) ∧ ((kd i.val).nm = bs [98, 108, 111, 99, 107, 45, 115, 105, 122, 101] ↔ (kd i.val).sz = true) := by decide +kernel

theorem fits_r {i : Nat} (hi : i < 16) (hws : (kd i).ws = []) (n : Int) (w : World) : Calls Tryz.prog 77 [.agg (bencs K73 (keyV (kd i))).toArray, .int .i64 n].toArray w fun x w' =>
    x = .returned (tupOf [.bool (decide (((kd i).lo ≤ n ∧ n ≤ (kd i).hi) ∧ ((kd i).sz = true → n = 128 ∨ n = 256 ∨ n = 512 ∨ n = 1024)))]) ∧ Keep [] w w' := by
  obtain ⟨hk1, _, hk3⟩ := kd_num ⟨i, hi⟩
  have hk1 := (hk1 hws).1
  have hok := kd_ok i hi
  simp only [] at hk1 hk3
  generalize kd i = k at *
  refine calls_tree hm Tryz.func77 (d77_ok (keyV k) n) ?_
  unfold d77
  have H : ST w [] w [] := ST.nil [] w
  refine wN H fun p0 w1 h0 H => ?_
  refine wL H 0 k.hi (add_mk _ _ _) rfl rfl ?_
  refine wIft (decide_eq_true hk1) ?_
  refine wL H 0 k.nm rfl rfl rfl ?_
  refine wIf (fun h1 => ?_) (fun h1 => ?_)
  · rw [str_eq] at h1
    have h1' := hk3.1 (of_decide_eq_true h1)
    have hsz := hok.size h1'
    refine wBlkK (fun xs w' => w' = w1 ∧ xs.1 = decide (n = 128 ∨ n = 256 ∨ n = 512 ∨ n = 1024)) ?_ (fun rest => ?_)
    · rintro ⟨c, ⟨⟩⟩ w' ⟨rfl, hc⟩
      simp only [] at hc
      subst hc
      refine wRet ⟨tb ?_, H.keep⟩
      simp only [decide_eq_true_eq, h1', true_implies]
      omega
    · refine wIf (fun h2 => wJump (_, ()) rfl (rest _ _ ⟨rfl, ?_⟩)) (fun h2 => ?_)
      · have : n = 128 := (beq_iff_eq).1 h2
        simp [this]
      refine wIf (fun h3 => wJump (_, ()) rfl (rest _ _ ⟨rfl, ?_⟩)) (fun h3 => ?_)
      · have : n = 256 := (beq_iff_eq).1 h3
        simp [this]
      refine wIf (fun h4 => wJump (_, ()) rfl (rest _ _ ⟨rfl, ?_⟩)) (fun h4 => wJump (_, ()) rfl (rest _ _ ⟨rfl, ?_⟩))
      · have : n = 512 := (beq_iff_eq).1 h4
        simp [this]
      · have h2' : n ≠ 128 := (beq_eq_false_iff_ne).1 h2
        have h3' : n ≠ 256 := (beq_eq_false_iff_ne).1 h3
        have h4' : n ≠ 512 := (beq_eq_false_iff_ne).1 h4
        show (n == 1024) = decide _
        rw [Bool.eq_iff_iff]
        simp [h2', h3', h4']
  · rw [str_eq] at h1
    have h1' : k.sz = false := by
      cases hsz : k.sz with
      | false => rfl
      | true => exact absurd (hk3.2 hsz) (of_decide_eq_false h1)
    refine wBlkK (fun xs w' => w' = w1 ∧ xs.1 = decide (k.lo ≤ n ∧ n ≤ k.hi)) ?_ (fun rest => ?_)
    · rintro ⟨c, ⟨⟩⟩ w' ⟨rfl, hc⟩
      simp only [] at hc
      subst hc
      refine wRet ⟨tb ?_, H.keep⟩
      simp [h1']
    · refine wL H 0 k.lo (add_mk _ _ _) rfl rfl ?_
      refine wIf (fun h2 => ?_) (fun h2 => wJump (_, ()) rfl (rest _ _ ⟨rfl, ?_⟩))
      · have h2' : n ≥ k.lo := of_decide_eq_true h2
        refine wL H 0 k.hi (add_mk _ _ _) rfl rfl ?_
        refine wJump (_, ()) rfl (rest _ _ ⟨rfl, ?_⟩)
        show decide (n ≤ k.hi) = decide _
        apply decide_eq_decide.2
        omega
      · have h2' : ¬ n ≥ k.lo := of_decide_eq_false h2
        show false = decide _
        rw [decide_eq_false (by omega)]

end Go.Proofs.Cf
