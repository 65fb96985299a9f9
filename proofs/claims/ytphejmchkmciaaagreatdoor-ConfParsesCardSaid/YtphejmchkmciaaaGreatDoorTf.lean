/- The reference's string tokens. -/
import Derived.Test.YtphejmchkmciaaaGreatDoorTe
set_option maxRecDepth 100000
set_option linter.unusedVariables false
namespace Go.Proofs.Cf
open Go.WF

/-- What the reference's reading of a string token comes to. -/
def QuotedT (i : Nat) (w : World) (t : Except Nat (List UInt8 × Nat)) (x : Ending) (w' : World) : Prop :=
  Keep [] w w' ∧ match t with
    | .ok (v, q) => x = .returned (tupOf [.agg #[.int .i64 4, .int .i64 (i : Int), .string ⟨v.toArray⟩], .int .i64 (q : Int)])
    | .error pos => ∃ q : Int, x = .returned (tupOf [.agg #[.int .i64 1, .int .i64 (pos : Int), .string (bs [])], .int .i64 q])

theorem wide_c {s : ByteArray} (hs : s.size ≤ 4096) {i : Nat} (hi : i < s.size) (w : World) :
    Calls Tryz.prog 40 [.string s, .int .i64 (i : Int)].toArray w fun x w' => x = .returned (tupOf (escR (chr s i))) ∧ Keep [] w w' := by
  refine (wide_w hs hi w).mono ?_
  rintro x w' ⟨rfl, hk⟩
  refine ⟨?_, hk⟩
  rw [wide_chr hi]
  cases chr s i with
  | none => rfl
  | some nk => obtain ⟨n, k⟩ := nk; rfl

theorem chr_none {s : ByteArray} {q : Nat} (h : chr s q = none) : badC s q = true := by
  unfold chr at h
  simp only [] at h
  split at h
  · rename_i hc
    unfold badC
    rw [decide_eq_true hc.1, decide_eq_false hc.2]
    simp
  · cases h

theorem chr_some {s : ByteArray} {q : Nat} {n : Int} {k : Nat} (h : chr s q = some (n, k)) : n = ((Utf8.decode s q).1 : Int) ∧ k = (Utf8.decode s q).2 ∧ badC s q = (decide (n < 32) || decide (n = 127)) := by
  unfold chr at h
  simp only [] at h
  split at h
  · cases h
  · rename_i hc
    cases h
    refine ⟨rfl, rfl, ?_⟩
    unfold badC
    have : (decide ((Utf8.decode s q).1 = 65533) && !(decide (q + 3 ≤ s.size ∧ bt s q = 239 ∧ bt s (q + 1) = 191 ∧ bt s (q + 2) = 189))) = false := by
      rw [Bool.and_eq_false_iff, decide_eq_false_iff_not, Bool.not_eq_false', decide_eq_true_eq]
      by_cases h1 : (Utf8.decode s q).1 = 65533
      · by_cases h2 : q + 3 ≤ s.size ∧ bt s q = 239 ∧ bt s (q + 1) = 191 ∧ bt s (q + 2) = 189
        · exact .inr h2
        · exact absurd ⟨h1, h2⟩ hc
      · exact .inl h1
    rw [this, Bool.or_false]

theorem quoted_r {s : ByteArray} (hs : s.size ≤ 4096) {i : Nat} (hi : i < s.size) (w : World) :
    Calls Tryz.prog 24 [.string s, .int .i64 (i : Int)].toArray w (QuotedT i w (strTok s (i + 1) [])) := by
  refine calls_tree hm Tryz.func24 (d24_ok s (i : Int)) ?_
  unfold d24
  have H : ST w [] w [] := ST.nil [] w
  refine wN H fun p0 w1 h0 H => ?_
  refine wN H fun p1 w2 h1 H => ?_
  refine wSA H 1 rfl rfl rfl rfl fun w3 H => ?_
  have e1 : IntKind.wrap .i64 ((i : Int) + 1) = ((i + 1 : Nat) : Int) := by rw [wrap64 (by omega) (by omega)]; rfl
  rw [e1]
  refine wLoop (fun n xs w' => ∃ (q : Nat) (acc : List UInt8), xs.2.1 = (q : Int) ∧ q ≤ s.size ∧ n = s.size - q ∧ Row w3.heap.size w' 5 1 xs.1 acc.length (bcells acc) ∧ acc.length ≤ 4 * q ∧ strTok s (i + 1) [] = strTok s q acc ∧
      ST w [] w' [(p0, cellsO [.int .i64 0, .int .i64 0, .string (bs [])] 63), (p1, cellsO [.int .i64 4, .int .i64 (i : Int), .string (bs [])] 63)] ∧ w3.heap.size ≤ w'.heap.size) (s.size - (i + 1)) (⟨none, 0, 0⟩, ((i + 1 : Nat) : Int), ()) rfl ⟨i + 1, [], rfl, by omega, rfl, Row.nil _ _ _ _, by simp, rfl, H, Nat.le_refl _⟩ ?_
  have hp0 : p0 < w3.heap.size := lt_of_obj (H.get (i := 0) rfl)
  have hp1 : p1 < w3.heap.size := lt_of_obj (H.get (i := 1) rfl)
  have hw3 := H.keep.size
  rintro _ ⟨v, _, ⟨⟩⟩ w4 ⟨q, acc, rfl, hq, rfl, hrow, hacc, hst, H4, hsz⟩
  refine wIf (fun h => ?_) (fun h => ?_)
  · have hlt : q < s.size := by
      have h' : (q : Int) < (s.size : Int) := of_decide_eq_true h
      omega
    refine wChk (by simp; omega) ?_
    have eb : byteAt s (q : Int) = bt s q := rfl
    rw [eb]
    refine wIf (fun h34 => ?_) (fun h34 => ?_)
    · have h34' : bt s q = 34 := (beq_iff_eq).1 h34
      obtain ⟨t1, t2, t3⟩ := hrow.toString
      refine wToString Tryz.underlying86 Tryz.underlying9 Tryz.underlying5 t1 t2 t3 ?_
      refine wS H4 1 (add_mk _ _ _) rfl (by show 0 + 2 < 3; decide) rfl fun w5 H5 => ?_
      refine wLA H5 1 ((4 : Int), (i : Int), (⟨acc.toArray⟩ : ByteArray), ()) rfl rfl rfl ?_
      refine wSA H5 0 rfl rfl rfl rfl fun w6 H6 => ?_
      refine wLA H6 0 ((4 : Int), (i : Int), (⟨acc.toArray⟩ : ByteArray), ()) rfl rfl rfl ?_
      refine wRet ⟨H6.keep, ?_⟩
      have e2 : IntKind.wrap .i64 ((q : Int) + 1) = ((q + 1 : Nat) : Int) := by rw [wrap64 (by omega) (by omega)]; rfl
      rw [hst, strTok_quote hlt h34']
      show Ending.returned (tupOf [_, .int .i64 (IntKind.wrap .i64 ((q : Int) + 1))]) = _
      rw [e2]
      rfl
    have h34' : bt s q ≠ 34 := (beq_eq_false_iff_ne).1 h34
    have hN : ∃ o : Option (Int × Nat), (o = none → strTok s q acc = .error q) ∧ (∀ n k, o = some (n, k) → scalar n = true ∧ 1 ≤ k ∧ q + k ≤ s.size ∧ strTok s q acc = strTok s (q + k) (acc ++ utf n)) ∧
        (bt s q = 92 → o = esc s q) ∧ (bt s q ≠ 92 → o = if badC s q = true then none else chr s q) := by
      by_cases h92 : bt s q = 92
      · refine ⟨esc s q, fun h => strTok_escN hlt h92 h, fun n k h => ?_, fun _ => rfl, fun h => absurd h92 h⟩
        have hf := esc_facts h92 h
        exact ⟨hf.2.2.1, by omega, hf.2.1, strTok_escS hlt h92 h⟩
      · refine ⟨if badC s q = true then none else chr s q, fun h => ?_, fun n k h => ?_, fun h => absurd h h92, fun _ => rfl⟩
        · by_cases hb : badC s q = true
          · exact strTok_bad hlt h34' h92 hb
          · rw [if_neg hb] at h
            exact absurd (chr_none h) hb
        · by_cases hb : badC s q = true
          · rw [if_pos hb] at h; cases h
          · rw [if_neg hb] at h
            obtain ⟨rfl, rfl, _⟩ := chr_some h
            have hf := decode_facts hlt
            exact ⟨hf.2.2.1, hf.1, hf.2.1, strTok_chr hlt h34' h92 (by simpa using hb)⟩
    obtain ⟨o, hn, hsm, ho1, ho2⟩ := hN
    refine wBlkK (fun xs w5 => Keep [] w4 w5 ∧ (o = none → xs.1 = (0 : Int)) ∧ ∀ n k, o = some (n, k) → xs.1 = ((k : Nat) : Int) ∧ xs.2.1 = n) ?_ (fun rest => ?_)
    · rintro ⟨kk, nn, ⟨⟩⟩ w5 ⟨hk5, hx0, hx1⟩
      have H5 := H4.made hk5
      have hrow5 := hrow.keep hk5 (by simp)
      cases o with
      | none =>
        have hkk : kk = (0 : Int) := hx0 rfl
        refine wIft (by rw [hkk]; rfl) ?_
        refine wSA H5 0 rfl rfl rfl rfl fun w6 H6 => ?_
        refine wLA H6 0 ((1 : Int), (q : Int), (bs [] : ByteArray), ()) rfl rfl rfl ?_
        refine wRet ⟨H6.keep, ?_⟩
        rw [hst, hn rfl]
        exact ⟨_, rfl⟩
      | some nk =>
        obtain ⟨n, k⟩ := nk
        obtain ⟨hkk, hnn⟩ := hx1 n k rfl
        have hkk : kk = ((k : Nat) : Int) := hkk
        have hnn : nn = n := hnn
        subst hkk hnn
        obtain ⟨hsc, hk1, hkz, hst2⟩ := hsm nn k rfl
        have hul := utf_len hsc
        refine wIff (by show ((k : Int) == 0) = false; simp; omega) ?_
        refine wCall (utf_c nn hsc w5) ?_
        rintro x w6 ⟨b, rfl, hk6, hb6, hb6w⟩
        refine ⟨(⟨some ⟨b, 0, none⟩, (utf nn).length, (utf nn).length⟩, ()), rfl, ?_⟩
        have H6 := H5.made hk6
        have hrow6 := hrow5.keep hk6 (by simp)
        have hs6 : w3.heap.size ≤ w6.heap.size := Nat.le_trans hsz (Nat.le_trans hk5.size hk6.size)
        refine wAppR (news := bcells (utf nn)) (x := ⟨some ⟨b, 0, none⟩, (utf nn).length, (utf nn).length⟩) Tryz.underlying86 info5 (z := .int .u8 0) rfl rfl (by decide) hrow6 rfl (m := (utf nn).length) (by rw [show Tryz.t5.size = 1 from rfl]; simp) rfl (cellsAt_blk hb6 _ 0 fun j u hj => by simpa using hj) (by simp [Value.oneCell'])
          (by simp only [maxLen]; omega) (by rw [show Tryz.t5.bytes = 1 from rfl]; omega) hs6 fun v' w7 hr7 hk7 => ?_
        have H7 := H6.app hk7 (fun x hx y hy => by
          have := (hrow6.ge x hx).1
          simp only [List.mem_cons, List.not_mem_nil, or_false] at hy
          rcases hy with rfl | rfl
          · show p0 ≠ x
            omega
          · show p1 ≠ x
            omega) (fun x hx => .inr (Nat.le_trans hw3 (hrow6.ge x hx).1))
        have e5 : IntKind.wrap .i64 ((q : Int) + ((k : Nat) : Int)) = ((q + k : Nat) : Int) := by rw [wrap64 (by omega) (by omega)]; omega
        refine wJump (v', ((q + k : Nat) : Int), ()) ?_ ⟨s.size - (q + k), by omega, q + k, acc ++ utf nn, rfl, hkz, rfl, ?_, ?_, by rw [hst, hst2], H7, Nat.le_trans hs6 hk7.size⟩
        · show [Value.slice v'.a v'.len v'.cap, .int .i64 (IntKind.wrap .i64 ((q : Int) + ((k : Nat) : Int)))] = _
          rw [e5]; rfl
        · rw [List.length_append, show bcells (acc ++ utf nn) = bcells acc ++ bcells (utf nn) from by simp]
          exact hr7
        · rw [List.length_append]; omega
    · refine wChk (by simp; omega) ?_
      refine wIf (fun h92 => ?_) (fun h92 => ?_)
      · have h92' : bt s q = 92 := (beq_iff_eq).1 h92
        refine wCall (escape_r hs hlt h92' w4) ?_
        rintro x w5 ⟨rfl, hk5⟩
        refine ⟨(_, _, ()), rfl, wJump (_, _, ()) rfl (rest _ _ ⟨hk5, fun h => ?_, fun n k h => ?_⟩)⟩
        · rw [← ho1 h92', h]; rfl
        · rw [← ho1 h92', h]; exact ⟨rfl, rfl⟩
      · have h92' : bt s q ≠ 92 := (beq_eq_false_iff_ne).1 h92
        have ho := ho2 h92'
        refine wCall (wide_c hs hlt w4) ?_
        rintro x w5 ⟨rfl, hk5⟩
        refine ⟨(_, _, ()), rfl, ?_⟩
        cases hc : chr s q with
        | none =>
          rw [chr_none hc, if_pos rfl] at ho
          refine wBlk (wIft rfl (wJump (_, ()) rfl (wIft rfl (wJump (_, _, ()) rfl (rest _ _ ⟨hk5, fun h => rfl, fun n k h => ?_⟩)))))
          rw [ho] at h; cases h
        | some nk =>
          obtain ⟨n, k⟩ := nk
          obtain ⟨_, _, hb⟩ := chr_some hc
          rw [hb, hc] at ho
          refine wBlkK (fun xs w6 => w6 = w5 ∧ xs.1 = (decide (n < 32) || decide (n = 127))) ?_ (fun rest2 => ?_)
          · rintro ⟨b, ⟨⟩⟩ w6 ⟨rfl, hb'⟩
            simp only [] at hb'
            subst hb'
            refine wIf (fun h1 => ?_) (fun h1 => ?_)
            · have h1' : (decide (n < 32) || decide (n = 127)) = true := h1
              rw [if_pos h1'] at ho
              refine wJump (_, _, ()) rfl (rest _ _ ⟨hk5, fun h => rfl, fun n k h => ?_⟩)
              rw [ho] at h; cases h
            · have h1' : (decide (n < 32) || decide (n = 127)) = false := h1
              rw [if_neg (by rw [h1']; simp)] at ho
              refine wJump (_, _, ()) rfl (rest _ _ ⟨hk5, fun h => ?_, fun n' k' h => ?_⟩)
              · rw [ho] at h; cases h
              · rw [ho] at h; cases h; exact ⟨rfl, rfl⟩
          · refine wIf (fun h1 => wJump (_, ()) rfl (rest2 _ _ ⟨rfl, ?_⟩)) (fun h1 => wJump (_, ()) rfl (rest2 _ _ ⟨rfl, ?_⟩))
            · have h1' : n < 32 := of_decide_eq_true h1
              show true = _
              rw [decide_eq_true h1']; rfl
            · have h1' : ¬ n < 32 := of_decide_eq_false h1
              show (n == 127) = _
              rw [decide_eq_false h1', Bool.false_or, Bool.eq_iff_iff]
              simp
  · have hge : q = s.size := by
      have h' : ¬ (q : Int) < (s.size : Int) := of_decide_eq_false h
      omega
    refine wSA H4 0 rfl rfl rfl rfl fun w5 H5 => ?_
    refine wLA H5 0 ((1 : Int), (s.size : Int), (bs [] : ByteArray), ()) rfl rfl rfl ?_
    refine wRet ⟨H5.keep, ?_⟩
    rw [hst, strTok_end (by omega)]
    exact ⟨_, rfl⟩

end Go.Proofs.Cf
