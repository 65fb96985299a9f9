/- The reference cuts a text into tokens. -/
import Derived.Test.YtphejmchkmciaaaGreatDoorTg
set_option maxRecDepth 100000
set_option linter.unusedVariables false
namespace Go.Proofs.Cf
open Go.WF

theorem info63 : Tryz.prog.info? 63 = some Tryz.t63 := by kernel_rfl

theorem fillT (k a : Int) (v : ByteArray) : fillRow 3 #[.int .i64 0, .int .i64 0, .string ⟨#[]⟩] 1 [(0, .agg #[.int .i64 k, .int .i64 a, .string v])] = some #[.int .i64 k, .int .i64 a, .string v] := by kernel_rfl

/-- One token is appended. -/
theorem wAddT {R : Ending → World → Prop} {base : Nat} {w : World} {v : Sl} {l : List TK} (t : TK) {K : Tys [.b .slice] → T} (hr : Row base w 63 3 v l.length (tksC l)) (hbase : base ≤ w.heap.size) (hl : l.length ≤ 1048576)
    (h : ∀ v' w', Row base w' 63 3 v' (l ++ [t]).length (tksC (l ++ [t])) → Keep (rowB v) w w' → (K (v', ())).wp Tryz.prog R w') :
    (T.op (vOf (Instr.buildSlice 35 1 #[(0, .agg #[.int .i64 t.k, .int .i64 (t.a : Int), .string t.v])])) [.b .slice] fun (x0 : Sl × Unit) =>
      T.op (vOf (Builtin.append_ #[35, 35] 35 #[.slice v.a v.len v.cap, .slice x0.1.a x0.1.len x0.1.cap])) [.b .slice] K).wp Tryz.prog R w := by
  have H0 : ST w [] w [] := ST.nil [] w
  refine wBuild H0 (tkC t) Tryz.underlying35 info63 (z := .agg #[.int .i64 0, .int .i64 0, .string ⟨#[]⟩]) rfl (by decide) (fillT _ _ _) fun b w1 hb H => ?_
  have hr1 : Row base w1 63 3 v l.length (tksC l) := hr.keep H.keep (by simp)
  have hgb : Blk w1 b (tkC t) 63 := H.get (i := 0) rfl
  refine wAppR (news := tkC t) (x := ⟨some ⟨b, 0, none⟩, 1, 1⟩) Tryz.underlying35 info63 (z := .agg #[.int .i64 0, .int .i64 0, .string ⟨#[]⟩]) rfl rfl (by decide) hr1 rfl (m := 1) rfl rfl (cellsAt_blk hgb _ 0 fun j u hj => by simpa using hj) rfl
    (by simp only [maxLen]; omega) (by rw [show Tryz.t63.bytes = 32 from rfl]; omega) (Nat.le_trans hbase H.keep.size) fun v' w2 hr2 hk2 => ?_
  refine h v' w2 ?_ ((H.keep.mono (by simp)).trans hk2 (fun x hx _ => hx))
  rw [List.length_append, tksC_snoc]
  exact hr2

/-- What the cutting comes to. -/
def CutR (s : ByteArray) (w : World) (x : Ending) (w' : World) : Prop :=
  Keep [] w w' ∧ ∃ v : Sl, x = .returned (tupOf [.slice v.a v.len v.cap]) ∧ Row w.heap.size w' 63 3 v (toks s (s.size + 1) 0).length (tksC (toks s (s.size + 1) 0))

theorem toks_len {s : ByteArray} : ∀ (n p : Nat), (toks s n p).length ≤ n
  | 0, _ => Nat.le_refl _
  | n + 1, p => by
    unfold toks
    cases lexS s p with
    | tok k a v q =>
      have := toks_len (s := s) n q
      simp only [List.length_cons]
      omega
    | fin b pos => simp

theorem keep_row {w w1 w2 : World} {v : Sl} {S : List Nat} (h1 : Keep [] w w1) (h2 : Keep (rowB v) w1 w2) (hr : ∀ b ∈ rowB v, w.heap.size ≤ b) : Keep [] w w2 :=
  h1.trans h2 fun x hx hlt => by
    have := hr x hx
    omega

theorem cut_r {s : ByteArray} (hs : s.size ≤ 4096) (w : World) : Calls Tryz.prog 9 [.string s].toArray w (CutR s w) := by
  refine calls_tree hm Tryz.func9 (d9_ok s) ?_
  unfold d9
  refine wG (blank_c hs (i := 0) (Nat.zero_le _)) (_, ()) rfl ?_
  refine wLoop (fun m xs w' => ∃ (p n : Nat) (done : List TK), xs.1 = ((blankTo s p : Nat) : Int) ∧ p ≤ s.size ∧ m = s.size - p ∧ s.size - p < n ∧ done.length + n ≤ s.size + 1 ∧ toks s (s.size + 1) 0 = done ++ toks s n p ∧ Row w.heap.size w' 63 3 xs.2.1 done.length (tksC done) ∧ Keep [] w w') s.size
    (((blankTo s 0 : Nat) : Int), ⟨none, 0, 0⟩, ()) rfl ⟨0, s.size + 1, [], rfl, Nat.zero_le _, rfl, by omega, by simp, rfl, Row.nil _ _ _ _, Keep.refl _ _⟩ ?_
  rintro _ ⟨_, v, ⟨⟩⟩ w1 ⟨p, n, done, rfl, hp, rfl, hn, hdn, htk, hrow, hk⟩
  obtain ⟨n, rfl⟩ : ∃ n', n = n' + 1 := ⟨n - 1, by omega⟩
  have hble := blankTo_le s p hp
  have hlex : lexS s p = if blankTo s p < s.size then
      if isWd (bt s (blankTo s p)) then .tok 0 (blankTo s p) (s.extract (blankTo s p) (wordEnd s (blankTo s p))) (wordEnd s (blankTo s p))
      else if bt s (blankTo s p) = 123 ∨ bt s (blankTo s p) = 125 ∨ bt s (blankTo s p) = 59 then .tok 1 (blankTo s p) (s.extract (blankTo s p) (blankTo s p + 1)) (blankTo s p + 1)
      else if bt s (blankTo s p) = 34 then
        match strTok s (blankTo s p + 1) [] with
        | .ok (v, e) => .tok 2 (blankTo s p) ⟨v.toArray⟩ e
        | .error pos => .fin false pos
      else .fin false (blankTo s p)
    else .fin true s.size := rfl
  refine wIf (fun h => ?_) (fun h => ?_)
  · have h' : blankTo s p < s.size := by
      have h1 : ((blankTo s p : Nat) : Int) < (s.size : Int) := of_decide_eq_true h
      omega
    rw [if_pos h'] at hlex
    have hp2 := blankTo_ge s p
    generalize hq : blankTo s p = q at *
    have H : ST w1 [] w1 [] := ST.nil [] w1
    refine wN H fun p3 w2 hp3 H => ?_
    refine wSA H 0 rfl rfl rfl rfl fun w3 H => ?_
    refine wChk (by simp; omega) ?_
    have eb : byteAt s (q : Int) = bt s q := rfl
    rw [eb]
    refine wG (wordy_c _) (_, ()) rfl ?_
    refine wBlkK (fun xs w' => ∃ t : TK, ST w1 [] w' [(p3, cellsO (tkC t) 63)] ∧ ((∃ k a v q', lexS s p = .tok k a v q' ∧ t = ⟨k + 2, a, v⟩ ∧ xs.1 = ((q' : Nat) : Int) ∧ k ≠ -1) ∨ (∃ pos, lexS s p = .fin false pos ∧ t = ⟨1, pos, bs []⟩))) ?_ (fun rest => ?_)
    · rintro ⟨y, ⟨⟩⟩ w4 ⟨t, H4, ht⟩
      have hrow4 := hrow.keep H4.keep (by simp)
      have hsz4 : w.heap.size ≤ w4.heap.size := Nat.le_trans hk.size H4.keep.size
      refine wLA H4 0 (t.k, (t.a : Int), t.v, ()) rfl rfl rfl ?_
      refine wAddT t hrow4 hsz4 (by omega) fun v' w5 hr5 hk5 => ?_
      have hn3 : ∀ b ∈ rowB v, ∀ x ∈ [(p3, cellsO (tkC t) 63)], x.1 ≠ b := fun b hb x hx => by
        have hx := List.mem_singleton.1 hx
        subst hx
        have h1 := (hrow.ge b hb).2
        have h2 : w1.heap.size ≤ p3 := (H4.own (p3, cellsO (tkC t) 63) (by simp)).resolve_left (by simp)
        show p3 ≠ b
        omega
      have hb5 : Blk w5 p3 (tkC t) 63 := hk5.blk (H4.get (i := 0) rfl) (fun hm => hn3 p3 hm _ (List.mem_singleton.2 rfl) rfl)
      have hk05 : Keep [] w w5 := keep_row (S := []) (hk.trans H4.keep (by simp)) hk5 (fun b hb => (hrow.ge b hb).1)
      refine wLoad1 hb5 t.k rfl rfl ?_
      rcases ht with ⟨k, a, v2, q', hl, rfl, rfl, hk1⟩ | ⟨pos, hl, rfl⟩
      · have hq' := lexS_tok hl
        refine wIff (by show (k + 2 == 1) = false; rw [beq_eq_false_iff_ne]; omega) ?_
        refine wG (blank_c hs (i := q') hq'.2) (_, ()) rfl ?_
        have ht2 : toks s (n + 1) p = ⟨k + 2, a, v2⟩ :: toks s n q' := by
          rw [toks, hl]
        refine wJump (_, v', ()) rfl ⟨s.size - q', by omega, q', n, done ++ [⟨k + 2, a, v2⟩], rfl, hq'.2, rfl, by omega, by rw [List.length_append]; simp; omega, by rw [htk, ht2]; simp, hr5, hk05⟩
      · refine wIft rfl (wRet ⟨hk05, v', rfl, ?_⟩)
        have ht2 : toks s (n + 1) p = [⟨1, pos, bs []⟩] := by
          rw [toks, hl]
          rfl
        rw [htk, ht2]
        exact hr5
    · refine wIf (fun hw => ?_) (fun hw => ?_)
      · have hw' : isWd (bt s q) = true := hw
        rw [if_pos hw'] at hlex
        refine wLoop (fun m xs w' => ∃ j : Nat, xs.1 = (j : Int) ∧ q ≤ j ∧ j ≤ s.size ∧ m = s.size - j ∧ w' = w3 ∧ wordEnd s q = wordEnd s j ∧ (xs.2.1 = true → j < s.size ∧ isWd (bt s j) = true) ∧ (xs.2.1 = false → wordEnd s j = j)) (s.size - q) ((q : Int), _, ()) rfl ⟨q, rfl, Nat.le_refl _, hble, rfl, rfl, rfl, fun _ => ⟨h', hw'⟩, fun hh => by rw [show isWd (bt s q) = false from hh] at hw'; cases hw'⟩ ?_
        rintro _ ⟨_, wb, ⟨⟩⟩ w' ⟨j, rfl, hqj, hj, rfl, rfl, hwe, hT, hF⟩
        refine wIf (fun hb => ?_) (fun hb => ?_)
        · obtain ⟨hj1, hj2⟩ := hT hb
          have e3 : IntKind.wrap .i64 ((j : Int) + 1) = ((j + 1 : Nat) : Int) := by rw [wrap64 (by omega) (by omega)]; rfl
          have hwe2 : wordEnd s q = wordEnd s (j + 1) := by rw [hwe, wordEnd, dif_pos hj1, if_pos hj2]
          rw [e3]
          have ebj : byteAt s ((j + 1 : Nat) : Int) = bt s (j + 1) := rfl
          rw [ebj]
          refine wIf (fun h2 => ?_) (fun h2 => ?_)
          · have h2' : ((j + 1 : Nat) : Int) < (s.size : Int) := of_decide_eq_true h2
            refine wChk (by simp; omega) ?_
            refine wG (wordy_c _) (_, ()) rfl ?_
            refine wJump (((j + 1 : Nat) : Int), _, ()) rfl ⟨s.size - (j + 1), by omega, j + 1, rfl, by omega, by omega, rfl, rfl, hwe2, fun hh => ⟨by omega, hh⟩, fun hh => ?_⟩
            rw [wordEnd, dif_pos (by omega), if_neg (by rw [show isWd (bt s (j + 1)) = false from hh]; simp)]
          · have h2' : ¬ ((j + 1 : Nat) : Int) < (s.size : Int) := of_decide_eq_false h2
            refine wJump (((j + 1 : Nat) : Int), false, ()) rfl ⟨s.size - (j + 1), by omega, j + 1, rfl, by omega, by omega, rfl, rfl, hwe2, fun hh => (by cases hh), fun _ => ?_⟩
            rw [wordEnd, dif_neg (by omega)]
        · have hend := hF hb
          refine wChk (by simp; omega) ?_
          refine wS H 0 (add_mk _ _ _) rfl (by show 0 + 2 < 3; decide) rfl fun w5 H5 => ?_
          refine wJump ((j : Int), ()) rfl (rest _ _ ⟨⟨2, q, s.extract q j⟩, H5, .inl ⟨0, q, s.extract q j, j, ?_, rfl, rfl, by decide⟩⟩)
          rw [hlex, hwe, hend]
      · have hw' : isWd (bt s q) = false := hw
        rw [if_neg (by rw [hw']; simp)] at hlex
        have hch : decide (0 ≤ (q : Int) ∧ (q : Int) < (s.size : Int)) = true := by simp; omega
        refine wBlkK (fun xs w' => w' = w3 ∧ xs.1 = decide (bt s q = 123 ∨ bt s q = 125 ∨ bt s q = 59)) ?_ (fun rest2 => ?_)
        · rintro ⟨b, ⟨⟩⟩ w' ⟨rfl, hb⟩
          simp only [] at hb
          subst hb
          refine wIf (fun hm => ?_) (fun hm => ?_)
          · have hm' := of_decide_eq_true hm
            rw [if_pos hm'] at hlex
            refine wS H 0 rfl rfl (by show 0 < 3; decide) rfl fun w5 H5 => ?_
            have e3 : IntKind.wrap .i64 ((q : Int) + 1) = ((q + 1 : Nat) : Int) := by rw [wrap64 (by omega) (by omega)]; rfl
            rw [e3]
            refine wChk (by simp; omega) ?_
            refine wS H5 0 (add_mk _ _ _) rfl (by show 0 + 2 < 3; decide) rfl fun w6 H6 => ?_
            exact wJump (((q + 1 : Nat) : Int), ()) rfl (rest _ _ ⟨⟨3, q, s.extract q (q + 1)⟩, H6, .inl ⟨1, q, s.extract q (q + 1), q + 1, hlex, rfl, rfl, by decide⟩⟩)
          · have hm' := of_decide_eq_false hm
            rw [if_neg hm'] at hlex
            refine wChk hch ?_
            refine wIf (fun h34 => ?_) (fun h34 => ?_)
            · have h34' : bt s q = 34 := (beq_iff_eq).1 h34
              rw [if_pos h34'] at hlex
              refine wCall (quoted_r hs h' w') ?_
              rintro x w5 ⟨hk5, hx⟩
              have H5 := H.made hk5
              cases hst : strTok s (q + 1) [] with
              | ok vq =>
                obtain ⟨v3, q'⟩ := vq
                rw [hst] at hx hlex
                subst hx
                refine ⟨((4, (q : Int), (⟨v3.toArray⟩ : ByteArray), ()), (q' : Int), ()), rfl, ?_⟩
                refine wSA H5 0 rfl rfl rfl rfl fun w6 H6 => ?_
                exact wJump ((q' : Int), ()) rfl (rest _ _ ⟨⟨4, q, ⟨v3.toArray⟩⟩, H6, .inl ⟨2, q, ⟨v3.toArray⟩, q', hlex, rfl, rfl, by decide⟩⟩)
              | error pos =>
                rw [hst] at hx hlex
                obtain ⟨q', rfl⟩ := hx
                refine ⟨((1, (pos : Int), (bs [] : ByteArray), ()), q', ()), rfl, ?_⟩
                refine wSA H5 0 rfl rfl rfl rfl fun w6 H6 => ?_
                exact wJump (q', ()) rfl (rest _ _ ⟨⟨1, pos, bs []⟩, H6, .inr ⟨pos, hlex, rfl⟩⟩)
            · have h34' : bt s q ≠ 34 := (beq_eq_false_iff_ne).1 h34
              rw [if_neg h34'] at hlex
              refine wS H 0 rfl rfl (by show 0 < 3; decide) rfl fun w5 H5 => ?_
              exact wJump ((q : Int), ()) rfl (rest _ _ ⟨⟨1, q, bs []⟩, H5, .inr ⟨q, hlex, rfl⟩⟩)
        · refine wChk hch ?_
          refine wIf (fun h1 => wJump (_, ()) rfl (rest2 _ _ ⟨rfl, ?_⟩)) (fun h1 => ?_)
          · have h1' : bt s q = 123 := (beq_iff_eq).1 h1
            simp [h1']
          refine wChk hch ?_
          refine wIf (fun h2 => wJump (_, ()) rfl (rest2 _ _ ⟨rfl, ?_⟩)) (fun h2 => wChk hch (wJump (_, ()) rfl (rest2 _ _ ⟨rfl, ?_⟩)))
          · have h2' : bt s q = 125 := (beq_iff_eq).1 h2
            simp [h2']
          · have h1' : bt s q ≠ 123 := (beq_eq_false_iff_ne).1 h1
            have h2' : bt s q ≠ 125 := (beq_eq_false_iff_ne).1 h2
            show (bt s q == 59) = decide _
            rw [Bool.eq_iff_iff]
            simp [h1', h2']
  · have h' : ¬ blankTo s p < s.size := by
      have h1 : ¬ ((blankTo s p : Nat) : Int) < (s.size : Int) := of_decide_eq_false h
      omega
    rw [if_neg h'] at hlex
    have ht : toks s (n + 1) p = [⟨0, s.size, bs []⟩] := by
      unfold toks
      rw [hlex]
      rfl
    rw [ht] at htk
    refine wAddT ⟨0, s.size, bs []⟩ hrow hk.size (by omega) fun v' w2 hr2 hk2 => ?_
    refine wRet ⟨keep_row (S := []) hk hk2 (fun b hb => (hrow.ge b hb).1), v', rfl, ?_⟩
    rw [htk]
    exact hr2

end Go.Proofs.Cf
