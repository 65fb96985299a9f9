/- The reference's well-formed characters: the walk. -/
import Derived.Test.YtphejmchkmciaaaGreatDoorTb
set_option maxRecDepth 100000
set_option linter.unusedVariables false
namespace Go.Proofs.Cf
open Go.WF

/-- The bits of the bytes that follow, behind some. -/
def wideN (s : ByteArray) (i : Nat) (m : Int) : Nat → Int
  | 0 => m
  | k + 1 => wideN s i m k * 64 + bt s (i + (k + 1)) % 64

def m0W (s : ByteArray) (i k : Nat) : Int := if k ≤ 1 then bt s i else bt s i % 2 ^ (7 - k)

/-- The number that k bytes would have. -/
def nW (s : ByteArray) (i k : Nat) : Int := wideN s i (m0W s i k) (k - 1)

/-- Do just its bytes stand there? -/
def okW (s : ByteArray) (i k : Nat) : Bool := scalar (nW s i k) && decide ((⟨(utf (nW s i k)).toArray⟩ : ByteArray) = s.extract i (i + k))

def wideFrom (s : ByteArray) (i k : Nat) : Int × Int :=
  if h : k ≤ 4 ∧ i + k ≤ s.size then (if okW s i k then ((k : Int), nW s i k) else wideFrom s i (k + 1)) else (0, 0)
termination_by 5 - k

theorem m0W_lo (s : ByteArray) (i k : Nat) : 0 ≤ m0W s i k ∧ m0W s i k ≤ 255 := by
  have hb := bt_lo s i
  unfold m0W
  split
  · exact hb
  · have h1 := Int.emod_nonneg (bt s i) (show ((2 : Int) ^ (7 - k)) ≠ 0 from by
      have : (0 : Int) < 2 ^ (7 - k) := Int.pow_pos (by decide)
      omega)
    have h2 : bt s i % 2 ^ (7 - k) < 2 ^ (7 - k) := Int.emod_lt_of_pos _ (Int.pow_pos (by decide))
    have h3 : (2 : Nat) ^ (7 - k) ≤ 2 ^ 7 := Nat.pow_le_pow_right (by omega) (by omega)
    have e : (2 : Nat) ^ 7 = 128 := by decide
    rw [e] at h3
    have h4 : ((2 ^ (7 - k) : Nat) : Int) ≤ ((128 : Nat) : Int) := Int.ofNat_le.2 h3
    rw [Int.natCast_pow] at h4
    have h5 : (2 : Int) ^ (7 - k) ≤ 128 := h4
    omega

theorem wideN_lo {s : ByteArray} {i : Nat} {m : Int} (h0 : 0 ≤ m) (h1 : m ≤ 255) : ∀ k, 0 ≤ wideN s i m k ∧ wideN s i m k < 256 * 64 ^ k
  | 0 => by simp only [wideN]; omega
  | k + 1 => by
    have ih := wideN_lo (s := s) (i := i) h0 h1 k
    have hp : (64 : Int) ^ (k + 1) = 64 * 64 ^ k := by rw [Int.pow_succ]; omega
    simp only [wideN]
    rw [hp]
    have := bt_lo s (i + (k + 1))
    omega

theorem mask2 (b : Int) (h0 : 0 ≤ b) (h1 : b ≤ 255) : ibits .and .i64 (IntKind.wrap .i64 b) (IntKind.wrap .i64 (shlI .i64 1 (IntKind.wrap .u64 (IntKind.wrap .i64 ((7 : Int) - ((2 : Nat) : Int)))) - 1)) = b % 2 ^ (7 - 2) := by
  have h : ∀ x : Fin 256, ibits .and .i64 (IntKind.wrap .i64 (x.val : Int)) (IntKind.wrap .i64 (shlI .i64 1 (IntKind.wrap .u64 (IntKind.wrap .i64 ((7 : Int) - ((2 : Nat) : Int)))) - 1)) = (x.val : Int) % 2 ^ (7 - 2) := by decide +kernel
  have := h ⟨b.toNat, by omega⟩
  simp only [Int.toNat_of_nonneg h0] at this
  exact this

theorem mask3 (b : Int) (h0 : 0 ≤ b) (h1 : b ≤ 255) : ibits .and .i64 (IntKind.wrap .i64 b) (IntKind.wrap .i64 (shlI .i64 1 (IntKind.wrap .u64 (IntKind.wrap .i64 ((7 : Int) - ((3 : Nat) : Int)))) - 1)) = b % 2 ^ (7 - 3) := by
  have h : ∀ x : Fin 256, ibits .and .i64 (IntKind.wrap .i64 (x.val : Int)) (IntKind.wrap .i64 (shlI .i64 1 (IntKind.wrap .u64 (IntKind.wrap .i64 ((7 : Int) - ((3 : Nat) : Int)))) - 1)) = (x.val : Int) % 2 ^ (7 - 3) := by decide +kernel
  have := h ⟨b.toNat, by omega⟩
  simp only [Int.toNat_of_nonneg h0] at this
  exact this

theorem mask4 (b : Int) (h0 : 0 ≤ b) (h1 : b ≤ 255) : ibits .and .i64 (IntKind.wrap .i64 b) (IntKind.wrap .i64 (shlI .i64 1 (IntKind.wrap .u64 (IntKind.wrap .i64 ((7 : Int) - ((4 : Nat) : Int)))) - 1)) = b % 2 ^ (7 - 4) := by
  have h : ∀ x : Fin 256, ibits .and .i64 (IntKind.wrap .i64 (x.val : Int)) (IntKind.wrap .i64 (shlI .i64 1 (IntKind.wrap .u64 (IntKind.wrap .i64 ((7 : Int) - ((4 : Nat) : Int)))) - 1)) = (x.val : Int) % 2 ^ (7 - 4) := by decide +kernel
  have := h ⟨b.toNat, by omega⟩
  simp only [Int.toNat_of_nonneg h0] at this
  exact this

theorem maskW {k : Nat} (h1 : 1 < k) (h4 : k ≤ 4) (s : ByteArray) (i : Nat) : ibits .and .i64 (IntKind.wrap .i64 (bt s i)) (IntKind.wrap .i64 (shlI .i64 1 (IntKind.wrap .u64 (IntKind.wrap .i64 ((7 : Int) - (k : Int)))) - 1)) = m0W s i k := by
  have hb := bt_lo s i
  have hk : k = 2 ∨ k = 3 ∨ k = 4 := by omega
  unfold m0W
  rcases hk with rfl | rfl | rfl
  · rw [if_neg (by omega)]; exact mask2 _ hb.1 hb.2
  · rw [if_neg (by omega)]; exact mask3 _ hb.1 hb.2
  · rw [if_neg (by omega)]; exact mask4 _ hb.1 hb.2

theorem wide_w {s : ByteArray} (hs : s.size ≤ 4096) {i : Nat} (hi : i < s.size) (w : World) :
    Calls Tryz.prog 40 [.string s, .int .i64 (i : Int)].toArray w fun x w' => x = .returned (tupOf [.int .i64 (wideFrom s i 1).1, .int .i64 (wideFrom s i 1).2]) ∧ Keep [] w w' := by
  refine calls_tree hm Tryz.func40 (d40_ok s (i : Int)) ?_
  unfold d40
  refine wLoop (fun n xs w' => ∃ k : Nat, xs = ((k : Int), ()) ∧ 1 ≤ k ∧ k ≤ 5 ∧ n = 5 - k ∧ Keep [] w w' ∧ wideFrom s i 1 = wideFrom s i k) 4 ((1 : Int), ()) rfl ⟨1, rfl, by omega, by omega, rfl, Keep.refl _ _, rfl⟩ ?_
  rintro _ _ w1 ⟨k, rfl, hk1, hk5, rfl, hkeep, hwf⟩
  have e1 : IntKind.wrap .i64 ((i : Int) + (k : Int)) = ((i + k : Nat) : Int) := by rw [wrap64 (by omega) (by omega)]; omega
  refine wBlkK (fun xs w' => w' = w1 ∧ xs.1 = decide (k ≤ 4 ∧ i + k ≤ s.size)) ?_ (fun rest => ?_)
  · rintro ⟨b, ⟨⟩⟩ w' ⟨rfl, hb⟩
    simp only [] at hb
    subst hb
    refine wIf (fun h => ?_) (fun h => ?_)
    · have h' := of_decide_eq_true h
      have hstep : wideFrom s i k = if okW s i k then ((k : Int), nW s i k) else wideFrom s i (k + 1) := by rw [wideFrom, dif_pos h']
      refine wChk (by simp; omega) ?_
      have eb : byteAt s (i : Int) = bt s i := rfl
      have hb := bt_lo s i
      have hm := m0W_lo s i k
      refine wBlkK (fun xs w'' => w'' = w' ∧ xs.1 = m0W s i k) ?_ (fun rest2 => ?_)
      · rintro ⟨b, ⟨⟩⟩ w'' ⟨rfl, hb⟩
        simp only [] at hb
        subst hb
        refine wLoop (fun n xs w2 => ∃ j : Nat, xs = (wideN s i (m0W s i k) (j - 1), (j : Int), ()) ∧ 1 ≤ j ∧ j ≤ k ∧ n = k - j ∧ w2 = w'') (k - 1) (m0W s i k, (1 : Int), ()) rfl ⟨1, rfl, Nat.le_refl _, hk1, rfl, rfl⟩ ?_
        rintro _ _ w2 ⟨j, rfl, hj1, hjk, rfl, rfl⟩
        have hwl := wideN_lo (s := s) (i := i) hm.1 hm.2 (j - 1)
        have hp : (64 : Int) ^ (j - 1) ≤ 64 ^ 3 := by
          have h2 : (64 : Nat) ^ (j - 1) ≤ 64 ^ 3 := Nat.pow_le_pow_right (by omega) (by omega)
          have e : (64 : Nat) ^ 3 = 262144 := by decide
          rw [e] at h2
          have h3 : ((64 ^ (j - 1) : Nat) : Int) ≤ ((262144 : Nat) : Int) := Int.ofNat_le.2 h2
          rw [Int.natCast_pow] at h3
          exact h3
        have hp3 : (64 : Int) ^ 3 = 262144 := by decide
        refine wIf (fun hlt => ?_) (fun hge => ?_)
        · have hlt' : j < k := by
            have h1 : (j : Int) < (k : Int) := of_decide_eq_true hlt
            omega
          have e2 : IntKind.wrap .i64 ((i : Int) + (j : Int)) = ((i + j : Nat) : Int) := by rw [wrap64 (by omega) (by omega)]; omega
          refine wChk (by show decide (0 ≤ IntKind.wrap .i64 ((i : Int) + (j : Int)) ∧ IntKind.wrap .i64 ((i : Int) + (j : Int)) < (s.size : Int)) = true; rw [e2]; simp; omega) ?_
          have hbj := bt_lo s (i + j)
          have a1 : byteAt s (IntKind.wrap .i64 ((i : Int) + (j : Int))) = bt s (i + j) := by rw [e2]; rfl
          have a2 : ibits .and .i64 (IntKind.wrap .i64 (bt s (i + j))) 63 = bt s (i + j) % 64 := by rw [wrap64 (by omega) (by omega)]; exact and63_64 _ (by omega) (by omega)
          have a3 : shlI .i64 (wideN s i (m0W s i k) (j - 1)) 6 = wideN s i (m0W s i k) (j - 1) * 64 := by
            show IntKind.wrap .i64 (wideN s i (m0W s i k) (j - 1) * 64) = _
            exact wrap64 (by omega) (by omega)
          have a4 : IntKind.wrap .i64 ((j : Int) + 1) = ((j + 1 : Nat) : Int) := by rw [wrap64 (by omega) (by omega)]; rfl
          refine wJump (wideN s i (m0W s i k) (j + 1 - 1), ((j + 1 : Nat) : Int), ()) ?_ ⟨k - (j + 1), by omega, j + 1, rfl, by omega, by omega, rfl, rfl⟩
          show [Value.int .i64 (IntKind.wrap .i64 (shlI .i64 (wideN s i (m0W s i k) (j - 1)) 6 + ibits .and .i64 (IntKind.wrap .i64 (byteAt s (IntKind.wrap .i64 ((i : Int) + (j : Int))))) 63)), .int .i64 (IntKind.wrap .i64 ((j : Int) + 1))] = _
          rw [a1, a2, a3, a4, wrap64 (by omega) (by omega)]
          obtain ⟨j', rfl⟩ : ∃ j', j = j' + 1 := ⟨j - 1, by omega⟩
          rfl
        · have hge' : j = k := by
            have h1 : ¬ (j : Int) < (k : Int) := of_decide_eq_false hge
            omega
          subst hge'
          have hn : wideN s i (m0W s i j) (j - 1) = nW s i j := rfl
          rw [hn] at hwl ⊢
          refine wG (scalar_c _) (_, ()) rfl ?_
          refine wBlkK (fun xs w3 => Keep [] w w3 ∧ xs.1 = okW s i j) ?_ (fun rest3 => ?_)
          · rintro ⟨o, ⟨⟩⟩ w3 ⟨hk3, ho⟩
            simp only [] at ho
            subst ho
            refine wIf (fun h2 => ?_) (fun h2 => ?_)
            · have h2' : okW s i j = true := h2
              refine wRet ⟨?_, hk3⟩
              rw [hwf, hstep, if_pos h2']
            · have h2' : okW s i j = false := h2
              have a4 : IntKind.wrap .i64 ((j : Int) + 1) = ((j + 1 : Nat) : Int) := by rw [wrap64 (by omega) (by omega)]; rfl
              refine wJump (((j + 1 : Nat) : Int), ()) ?_ ⟨5 - (j + 1), by omega, j + 1, rfl, by omega, by omega, rfl, hk3, ?_⟩
              · show [Value.int .i64 (IntKind.wrap .i64 ((j : Int) + 1))] = _
                rw [a4]; rfl
              · rw [hwf, hstep, if_neg (by rw [h2']; simp)]
          · refine wDraw ?_
            refine wIf (fun hsc => ?_) (fun hsc => wJump (_, ()) rfl (rest3 _ _ ⟨hkeep.drew, ?_⟩))
            · have hsc' : scalar (nW s i j) = true := hsc
              refine wChk ?_ ?_
              · show decide (0 ≤ (i : Int) ∧ (i : Int) ≤ IntKind.wrap .i64 ((i : Int) + (j : Int)) ∧ IntKind.wrap .i64 ((i : Int) + (j : Int)) ≤ (s.size : Int)) = true
                rw [e1]
                simp
                omega
              refine wCall (utf_c (nW s i j) hsc' _) ?_
              rintro x w4 ⟨b, rfl, hk4, hb4, _⟩
              refine ⟨(⟨some ⟨b, 0, none⟩, (utf (nW s i j)).length, (utf (nW s i j)).length⟩, ()), rfl, ?_⟩
              refine wToString (v := ⟨some ⟨b, 0, none⟩, (utf (nW s i j)).length, (utf (nW s i j)).length⟩) (bs := utf (nW s i j)) Tryz.underlying86 Tryz.underlying9 Tryz.underlying5 (fun h => by cases h) rfl (fun a ha => ?_) ?_
              · cases ha
                exact cellsAt_blk hb4 _ 0 fun j u hj => by simpa using hj
              · refine wJump (_, ()) rfl (rest3 _ _ ⟨hkeep.drew.trans hk4 (by simp), ?_⟩)
                show ((⟨(utf (nW s i j)).toArray⟩ : ByteArray).toList == (s.extract (i : Int).toNat (IntKind.wrap .i64 ((i : Int) + (j : Int))).toNat).toList) = okW s i j
                rw [str_eq, e1]
                unfold okW
                rw [hsc']
                rfl
            · have hsc' : scalar (nW s i j) = false := hsc
              show false = okW s i j
              unfold okW
              rw [hsc']
              rfl
      · refine wIf (fun h2 => ?_) (fun h2 => wJump (_, ()) rfl (rest2 _ _ ⟨rfl, ?_⟩))
        · have h2' : (k : Int) > 1 := of_decide_eq_true h2
          refine wChk (by simp; omega) ?_
          refine wChk ?_ ?_
          · have a7 : IntKind.wrap .i64 ((7 : Int) - (k : Int)) = 7 - (k : Int) := wrap64 (by omega) (by omega)
            show decide (0 ≤ IntKind.wrap .u64 (IntKind.wrap .i64 ((7 : Int) - (k : Int)))) = true
            rw [a7]
            simp only [IntKind.wrap, IntKind.bits, IntKind.signed]
            simp
            omega
          · refine wJump (_, ()) rfl (rest2 _ _ ⟨rfl, ?_⟩)
            exact maskW (by omega) h'.1 s i
        · have h2' : ¬ (k : Int) > 1 := of_decide_eq_false h2
          show IntKind.wrap .i64 (byteAt s (i : Int)) = m0W s i k
          rw [eb, wrap64 (by omega) (by omega)]
          unfold m0W
          rw [if_pos (by omega)]
    · have h' := of_decide_eq_false h
      refine wRet ⟨?_, hkeep⟩
      rw [hwf, wideFrom, dif_neg h']
  · refine wIf (fun h1 => wJump (_, ()) rfl (rest _ _ ⟨rfl, ?_⟩)) (fun h1 => wJump (_, ()) rfl (rest _ _ ⟨rfl, ?_⟩))
    · have h1' : (k : Int) ≤ 4 := of_decide_eq_true h1
      show decide (IntKind.wrap .i64 ((i : Int) + (k : Int)) ≤ (s.size : Int)) = decide _
      rw [e1]
      apply decide_eq_decide.2
      omega
    · have h1' : ¬ (k : Int) ≤ 4 := of_decide_eq_false h1
      show false = decide _
      rw [decide_eq_false (by omega)]

end Go.Proofs.Cf
