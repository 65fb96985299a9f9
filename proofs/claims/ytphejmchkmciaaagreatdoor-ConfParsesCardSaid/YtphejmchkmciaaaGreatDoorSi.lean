/- The program reads tokens. -/
import Derived.Test.YtphejmchkmciaaaGreatDoorSg
set_option maxRecDepth 100000
namespace Go.Proofs.Cf
open Go.WF

theorem blankTo_le (s : ByteArray) (i : Nat) (hi : i ≤ s.size) : blankTo s i ≤ s.size := by
  induction h : s.size - i using Nat.strongRecOn generalizing i with
  | _ n ih =>
    rw [blankTo]
    split
    · split
      · exact ih (s.size - (i + 1)) (by omega) (i + 1) (by omega) rfl
      · split
        · have h1 := lineEnd_ge s (i + 1)
          have h2 := lineEnd_le s (i + 1) (by omega)
          exact ih (s.size - lineEnd s (i + 1)) (by omega) (lineEnd s (i + 1)) h2 rfl
        · exact hi
    · exact hi

theorem wordEnd_le (s : ByteArray) (i : Nat) (hi : i ≤ s.size) : wordEnd s i ≤ s.size := by
  induction h : s.size - i using Nat.strongRecOn generalizing i with
  | _ n ih =>
    rw [wordEnd]
    split
    · split
      · exact ih (s.size - (i + 1)) (by omega) (i + 1) (by omega) rfl
      · exact hi
    · exact hi

theorem strTok_le {s : ByteArray} {v : List UInt8} {q : Nat} : ∀ {i : Nat} {acc : List UInt8}, strTok s i acc = .ok (v, q) → i < q ∧ q ≤ s.size := by
  intro i
  induction h : s.size - i using Nat.strongRecOn generalizing i with
  | _ n ih =>
    intro acc hok
    by_cases hlt : i < s.size
    · by_cases h34 : bt s i = 34
      · rw [strTok_quote hlt h34] at hok
        cases hok
        omega
      · by_cases h92 : bt s i = 92
        · cases he : esc s i with
          | none => rw [strTok_escN hlt h92 he] at hok; cases hok
          | some nw =>
            obtain ⟨n', w⟩ := nw
            rw [strTok_escS hlt h92 he] at hok
            have hf := esc_facts h92 he
            have := ih (s.size - (i + w)) (by omega) rfl hok
            omega
        · cases hb : badC s i with
          | true => rw [strTok_bad hlt h34 h92 hb] at hok; cases hok
          | false =>
            rw [strTok_chr hlt h34 h92 hb] at hok
            have hf := decode_facts hlt
            have := ih (s.size - (i + (Utf8.decode s i).2)) (by omega) rfl hok
            omega
    · rw [strTok_end (by omega)] at hok; cases hok

theorem lexS_tok {s : ByteArray} {p : Nat} {k : Int} {a : Nat} {v : ByteArray} {q : Nat} (h : lexS s p = .tok k a v q) : p < q ∧ q ≤ s.size := by
  have hge := blankTo_ge s p
  unfold lexS at h
  simp only [] at h
  split at h
  · rename_i hlt
    split at h
    · rename_i hw
      cases h
      have h1 := wordEnd_le s (blankTo s p) (by omega)
      have h2 : wordEnd s (blankTo s p) = wordEnd s (blankTo s p + 1) := by rw [wordEnd, dif_pos hlt, if_pos hw]
      have h3 := wordEnd_ge s (blankTo s p + 1)
      omega
    · split at h
      · cases h; omega
      · split at h
        · split at h
          · rename_i hs
            cases h
            have := strTok_le hs
            omega
          · cases h
        · cases h
  · cases h

theorem more_c {s : ByteArray} (hs : s.size ≤ 4096) {r p : Nat} {e : TypeId} (hp : p ≤ s.size) {w : World} (hb : Blk w r [.string s, .int .i64 (p : Int)] e) :
    Calls Tryz.prog 21 [.pointer (some ⟨r, 0, none⟩)].toArray w fun x w' => x = .returned (tupOf [.bool (decide (blankTo s p < s.size))]) ∧ Moves r s e w w' (blankTo s p) := by
  refine calls_tree hm Tryz.func21 (d21_ok ⟨r, 0, none⟩) ?_
  unfold d21
  refine wCall (skip_c (by omega) hp hb) ?_
  rintro x w1 ⟨rfl, hk, hb1⟩
  refine ⟨(), rfl, ?_⟩
  have H : ST w1 [r] w1 [RdL r s (blankTo s p) e] := ST.one hb1 (by simp)
  refine wD H fun w2 H => ?_
  refine wL H 0 _ rfl rfl rfl ?_
  refine wL H 0 _ rfl rfl rfl ?_
  refine wRet ⟨tb ?_, hk.trans H.keep (fun x hx _ => hx), H.get (i := 0) rfl⟩
  simp

/-- What the next token's reading comes to. -/
def NextR (s : ByteArray) (r : Nat) (e : TypeId) (w : World) (l : LR) (x : Ending) (w' : World) : Prop :=
  Keep [r] w w' ∧ match l with
    | .tok k a v q => x = .returned (tupOf [.agg #[.int .i64 k, .int .i64 (a : Int), .string v]]) ∧ Blk w' r [.string s, .int .i64 (q : Int)] e
    | .fin _ pos => x = .panicked (faultL pos 121)

theorem next_c {s : ByteArray} (hs : s.size ≤ 4096) {r p : Nat} {e : TypeId} (hp : p ≤ s.size) {w : World} (hb : Blk w r [.string s, .int .i64 (p : Int)] e) :
    Calls Tryz.prog 14 [.pointer (some ⟨r, 0, none⟩)].toArray w (NextR s r e w (lexS s p)) := by
  refine calls_tree hm Tryz.func14 (d14_ok ⟨r, 0, none⟩) ?_
  unfold d14
  have H : ST w [r] w [RdL r s p e] := ST.one hb (by simp)
  refine wN H fun b w1 hb1 H => ?_
  have hle := blankTo_le s p hp
  have hlex : lexS s p = if blankTo s p < s.size then
      if isWd (bt s (blankTo s p)) then .tok 0 (blankTo s p) (s.extract (blankTo s p) (wordEnd s (blankTo s p))) (wordEnd s (blankTo s p))
      else if bt s (blankTo s p) = 123 ∨ bt s (blankTo s p) = 125 ∨ bt s (blankTo s p) = 59 then .tok 1 (blankTo s p) (s.extract (blankTo s p) (blankTo s p + 1)) (blankTo s p + 1)
      else if bt s (blankTo s p) = 34 then
        match strTok s (blankTo s p + 1) [] with
        | .ok (v, e) => .tok 2 (blankTo s p) ⟨v.toArray⟩ e
        | .error pos => .fin false pos
      else .fin false (blankTo s p)
    else .fin true s.size := rfl
  generalize hq : blankTo s p = q at *
  refine wBlk ?_
  refine wCall (more_c hs hp (H.get (i := 0) rfl)) ?_
  rintro x w2 ⟨rfl, hk, hb2⟩
  rw [hq] at hb2 ⊢
  refine ⟨(_, ()), rfl, ?_⟩
  have H2 : ST w [r] w2 [RdL r s q e, (b, cellsO [.int .i64 0, .int .i64 0, .string (bs [])] 49)] := H.upd (i := 0) rfl hk hb2
  have hf : ∀ {pos : Nat} {eb : Bool}, lexS s p = .fin eb pos → ∀ {w' : World} {L : HL}, ST w [r] w' L → NextR s r e w (lexS s p) (.panicked (faultL pos 121)) w' := fun h w' L H' => by
    rw [h]; exact ⟨H'.keep, rfl⟩
  refine wIf (fun h => ?_) (fun h => ?_)
  · simp only [Bool.not_eq_true', decide_eq_false_iff_not] at h
    refine wL H2 0 _ rfl rfl rfl ?_
    exact wGive (hf (by rw [hlex, if_neg h]) H2)
  simp only [Bool.not_eq_false', decide_eq_true_eq] at h
  rw [if_pos h] at hlex
  refine wJump () rfl ?_
  refine wL H2 0 _ rfl rfl rfl ?_
  refine wL H2 0 _ rfl rfl rfl ?_
  refine wChk (by simp; omega) ?_
  have eb : byteAt s (q : Int) = bt s q := rfl
  rw [eb]
  refine wG (inWord_c _) (_, ()) rfl ?_
  refine wIf (fun hw => ?_) (fun hw => ?_)
  · rw [if_pos hw] at hlex
    have hwle := wordEnd_le s q hle
    refine wLoop (fun n _ w' => ∃ i : Nat, q ≤ i ∧ i ≤ s.size ∧ n = s.size - i ∧ wordEnd s q = wordEnd s i ∧ ST w [r] w' [RdL r s i e, (b, cellsO [.int .i64 0, .int .i64 0, .string (bs [])] 49)]) (s.size - q) () rfl ⟨q, Nat.le_refl _, hle, rfl, rfl, H2⟩ ?_
    rintro n ⟨⟩ w3 ⟨i, hqi, his, rfl, hwe, H3⟩
    refine wBlkK (fun xs w' => ST w [r] w' [RdL r s i e, (b, cellsO [.int .i64 0, .int .i64 0, .string (bs [])] 49)] ∧ (xs.1 = true → i < s.size ∧ isWd (bt s i) = true) ∧ (xs.1 = false → wordEnd s i = i)) ?_ (fun rest => ?_)
    · rintro ⟨c, ⟨⟩⟩ w4 ⟨H4, hT, hF⟩
      refine wIf (fun hc => ?_) (fun hc => ?_)
      · obtain ⟨h1, h2⟩ := hT hc
        refine wL H4 0 _ rfl rfl rfl ?_
        refine wS H4 0 rfl rfl (by simp) rfl fun w5 H5 => ?_
        have e3 : IntKind.wrap .i64 ((i : Int) + 1) = ((i + 1 : Nat) : Int) := by rw [wrap64 (by omega) (by omega)]; rfl
        rw [e3] at H5
        exact wJump () rfl ⟨s.size - (i + 1), by omega, i + 1, by omega, by omega, rfl, by rw [hwe, wordEnd, dif_pos h1, if_pos h2], H5⟩
      · have hi := hF hc
        rw [hi] at hwe
        refine wD H4 fun w5 H5 => ?_
        refine wL H5 0 _ rfl rfl rfl ?_
        refine wL H5 0 _ rfl rfl rfl ?_
        refine wChk (by simp; omega) ?_
        refine wSA H5 1 rfl rfl rfl rfl fun w6 H6 => ?_
        refine wLA H6 1 ((0 : Int), (q : Int), s.extract q i, ()) rfl rfl rfl ?_
        refine wRet ⟨H6.keep, ?_⟩
        rw [hlex, hwe]
        exact ⟨rfl, H6.get (i := 0) rfl⟩
    · refine wD H3 fun w4 H4 => ?_
      refine wL H4 0 _ rfl rfl rfl ?_
      refine wL H4 0 _ rfl rfl rfl ?_
      refine wIf (fun hc => ?_) (fun hc => ?_)
      · simp only [decide_eq_true_eq] at hc
        have hc' : i < s.size := by omega
        refine wL H4 0 _ rfl rfl rfl ?_
        refine wL H4 0 _ rfl rfl rfl ?_
        refine wChk (by simp; omega) ?_
        have eb' : byteAt s (i : Int) = bt s i := rfl
        rw [eb']
        refine wG (inWord_c _) (_, ()) rfl ?_
        refine wJump (_, ()) rfl (rest _ _ ⟨H4, fun hh => ⟨hc', hh⟩, fun hh => ?_⟩)
        rw [wordEnd, dif_pos hc', if_neg (by rw [show isWd (bt s i) = false from hh]; simp)]
      · simp only [decide_eq_false_iff_not] at hc
        refine wJump (_, ()) rfl (rest _ _ ⟨H4, fun hh => (by cases hh), fun _ => ?_⟩)
        rw [wordEnd, dif_neg (by omega)]
  have hw' : isWd (bt s q) = false := hw
  rw [if_neg (by rw [hw']; simp)] at hlex
  refine wBlkK (fun xs w' => w' = w2 ∧ xs.1 = decide (bt s q = 123 ∨ bt s q = 125 ∨ bt s q = 59)) ?_ (fun rest => ?_)
  · rintro ⟨c, ⟨⟩⟩ w3 ⟨rfl, hc⟩
    simp only [] at hc
    subst hc
    refine wIf (fun hc => ?_) (fun hc => ?_)
    · simp only [decide_eq_true_eq] at hc
      rw [if_pos hc] at hlex
      refine wL H2 0 _ rfl rfl rfl ?_
      refine wS H2 0 rfl rfl (by simp) rfl fun w5 H5 => ?_
      have e3 : IntKind.wrap .i64 ((q : Int) + 1) = ((q + 1 : Nat) : Int) := by rw [wrap64 (by omega) (by omega)]; rfl
      rw [e3] at H5
      refine wD H5 fun w5 H5 => ?_
      refine wL H5 0 _ rfl rfl rfl ?_
      refine wL H5 0 _ rfl rfl rfl ?_
      refine wChk (by simp; omega) ?_
      refine wSA H5 1 rfl rfl rfl rfl fun w6 H6 => ?_
      refine wLA H6 1 ((1 : Int), (q : Int), s.extract q (q + 1), ()) rfl rfl rfl ?_
      refine wRet ⟨H6.keep, ?_⟩
      rw [hlex]
      exact ⟨rfl, H6.get (i := 0) rfl⟩
    · simp only [decide_eq_false_iff_not] at hc
      rw [if_neg hc] at hlex
      refine wIf (fun h34 => ?_) (fun h34 => ?_)
      · simp only [beq_iff_eq] at h34
        rw [if_pos h34] at hlex
        refine wCall (quoted_c hs h hb2) ?_
        rintro x w4 ⟨hk4, hx⟩
        cases hst : strTok s (q + 1) [] with
        | ok vq =>
          obtain ⟨v, q'⟩ := vq
          rw [hst] at hx hlex
          obtain ⟨rfl, hb4⟩ := hx
          refine ⟨(⟨v.toArray⟩, ()), rfl, ?_⟩
          have H4 : ST w [r] w4 [RdL r s q' e, (b, cellsO [.int .i64 0, .int .i64 0, .string (bs [])] 49)] := H2.upd (i := 0) rfl hk4 hb4
          refine wSA H4 1 rfl rfl rfl rfl fun w6 H6 => ?_
          refine wLA H6 1 ((2 : Int), (q : Int), (⟨v.toArray⟩ : ByteArray), ()) rfl rfl rfl ?_
          refine wRet ⟨H6.keep, ?_⟩
          rw [hlex]
          exact ⟨rfl, H6.get (i := 0) rfl⟩
        | error pos =>
          rw [hst] at hx hlex
          subst hx
          show NextR s r e w (lexS s p) _ _
          rw [hlex]
          exact ⟨H2.keep.trans hk4 (fun x hx _ => hx), rfl⟩
      · simp only [beq_eq_false_iff_ne, ne_eq] at h34
        rw [if_neg h34] at hlex
        exact wGive (hf hlex H2)
  · refine wIf (fun h1 => wJump (_, ()) rfl (rest _ _ ⟨rfl, ?_⟩)) (fun h1 => ?_)
    · simp only [beq_iff_eq] at h1
      simp [h1]
    refine wIf (fun h2 => wJump (_, ()) rfl (rest _ _ ⟨rfl, ?_⟩)) (fun h2 => wJump (_, ()) rfl (rest _ _ ⟨rfl, ?_⟩))
    · simp only [beq_iff_eq] at h2
      simp [h2]
    · simp only [beq_eq_false_iff_ne, ne_eq] at h1 h2
      rw [Bool.eq_iff_iff]
      simp [h1, h2]

/-- What the reading of a token that must be just that comes to. -/
def WantR (s : ByteArray) (r : Nat) (e : TypeId) (w : World) (k0 : Int) (v0 : ByteArray) (l : LR) (x : Ending) (w' : World) : Prop :=
  Keep [r] w w' ∧ match l with
    | .tok k a v q => if k = k0 ∧ v = v0 then x = .returned (tupOf [.agg #[.int .i64 k, .int .i64 (a : Int), .string v]]) ∧ Blk w' r [.string s, .int .i64 (q : Int)] e else x = .panicked (faultL a 121)
    | .fin _ pos => x = .panicked (faultL pos 121)

theorem want_c {s : ByteArray} (hs : s.size ≤ 4096) {r p : Nat} {e : TypeId} (hp : p ≤ s.size) {w : World} (hb : Blk w r [.string s, .int .i64 (p : Int)] e) (k0 : Int) (v0 : ByteArray) :
    Calls Tryz.prog 13 [.pointer (some ⟨r, 0, none⟩), .int .i64 k0, .string v0].toArray w (WantR s r e w k0 v0 (lexS s p)) := by
  refine calls_tree hm Tryz.func13 (d13_ok ⟨r, 0, none⟩ k0 v0) ?_
  unfold d13
  have H : ST w [r] w [RdL r s p e] := ST.one hb (by simp)
  refine wN H fun b w1 hb1 H => ?_
  refine wCall (next_c hs hp (H.get (i := 0) rfl)) ?_
  rintro x w2 ⟨hk, hx⟩
  cases hl : lexS s p with
  | fin eb pos =>
    rw [hl] at hx
    subst hx
    exact ⟨H.keep.trans hk (fun x hx _ => hx), rfl⟩
  | tok k a v q =>
    rw [hl] at hx
    obtain ⟨rfl, hb2⟩ := hx
    refine ⟨((k, (a : Int), v, ()), ()), rfl, ?_⟩
    have H2 : ST w [r] w2 [RdL r s q e, (b, cellsO [.int .i64 0, .int .i64 0, .string (bs [])] 49)] := H.upd (i := 0) rfl hk hb2
    refine wN H2 fun b2 w3 hb3 H3 => ?_
    refine wSA H3 2 rfl rfl rfl rfl fun w3 H3 => ?_
    refine wBlk ?_
    refine wBlkK (fun xs w' => w' = w3 ∧ xs.1 = !(decide (k = k0 ∧ v = v0))) ?_ (fun rest => ?_)
    · rintro ⟨c, ⟨⟩⟩ w4 ⟨rfl, hc⟩
      simp only [] at hc
      subst hc
      refine wIf (fun hc => ?_) (fun hc => ?_)
      · simp only [Bool.not_eq_true', decide_eq_false_iff_not] at hc
        refine wL H3 2 _ rfl rfl rfl ?_
        refine wGive ⟨H3.keep, ?_⟩
        show if k = k0 ∧ v = v0 then _ else _
        rw [if_neg hc]
      · simp only [Bool.not_eq_false', decide_eq_true_eq] at hc
        refine wJump () rfl ?_
        refine wLA H3 2 (k, (a : Int), v, ()) rfl rfl rfl ?_
        refine wSA H3 1 rfl rfl rfl rfl fun w4 H4 => ?_
        refine wLA H4 1 (k, (a : Int), v, ()) rfl rfl rfl ?_
        refine wRet ⟨H4.keep, ?_⟩
        show if k = k0 ∧ v = v0 then _ else _
        rw [if_pos hc]
        exact ⟨rfl, H4.get (i := 0) rfl⟩
    · refine wL H3 2 _ rfl rfl rfl ?_
      refine wIf (fun h1 => wJump (_, ()) rfl (rest _ _ ⟨rfl, ?_⟩)) (fun h1 => ?_)
      · simp only [bne_iff_ne, ne_eq] at h1
        simp [h1]
      · simp only [bne_eq_false_iff_eq] at h1
        refine wL H3 2 _ rfl rfl rfl ?_
        refine wJump (_, ()) rfl (rest _ _ ⟨rfl, ?_⟩)
        show (!(v.toList == v0.toList)) = _
        rw [str_eq]
        simp [h1]

end Go.Proofs.Cf
