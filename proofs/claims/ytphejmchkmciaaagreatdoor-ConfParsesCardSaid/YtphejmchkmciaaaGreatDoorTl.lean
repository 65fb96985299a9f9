/- The reference reads a key's value, and a section. -/
import Derived.Test.YtphejmchkmciaaaGreatDoorTk
set_option maxRecDepth 100000
set_option linter.unusedVariables false
namespace Go.Proofs.Cf
open Go.WF

theorem fileC_key (L : Sl) (i : Nat) (st : St) (b p : Int) (j : Nat) (hj : j < 16) :
    (∀ n : Int, ((fileC L i st b p).set (4 + j) (.int .i64 n)).set (20 + j) (.bool true) = fileC L i { st with is := upd st.is j n, th := upd st.th j true } b p) ∧ (fileC L i st b p)[20 + j]? = some (.bool (st.th j)) ∧ (fileC L i st b p).length = 39 := by
  match j, hj with
  | 0, _ | 1, _ | 2, _ | 3, _ | 4, _ | 5, _ | 6, _ | 7, _ | 8, _ | 9, _ | 10, _ | 11, _ | 12, _ | 13, _ | 14, _ | 15, _ => exact ⟨fun n => rfl, rfl, rfl⟩
  | n + 16, h => exact absurd h (by omega)

theorem pValue_tok {s : ByteArray} {p : Nat} {k : Int} {a : Nat} {v : ByteArray} {q : Nat} (h : lexS s p = .tok k a v q) (key : Option Nat) (st : St) :
    pValue s p key st = if k = 1 then .fault a 121 else match pSet key st k v with
      | none => .fault a 124
      | some st' => pMark s q semiS st' := by
  simp only [pValue, h, pMark]
  rfl

theorem pValue_fin {s : ByteArray} {p : Nat} {e : Bool} {pos : Nat} (h : lexS s p = .fin e pos) (key : Option Nat) (st : St) : pValue s p key st = .fault pos 121 := by
  simp only [pValue, h]

theorem given_r {s : ByteArray} (hs : s.size ≤ 4096) {ts : List TK} {f : Nat} {L : Sl} {i p : Nat} {st : St} {w : World} (ht : Toks w L ts f) (hr : Rem s ts i p) (hb : Blk w f (fileC L i st 0 0) 42)
    {key : Option Nat} (hkey : ∀ j, key = some j → j < 16) (kv : Ty73) (hkv : ∀ j, key = some j → kv = keyV (kd j)) :
    Calls Tryz.prog 43 [.pointer (some ⟨f, 0, none⟩), .agg (bencs K73 kv).toArray, .int .i64 (keyN (some key))].toArray w (FileR s ts L f w (pValue s p key st)) := by
  refine calls_tree hm Tryz.func43 (d43_ok ⟨f, 0, none⟩ kv (keyN (some key))) ?_
  unfold d43
  have H0 : ST w [f] w [FiL f L i st 0 0] := ST.one hb (by simp)
  refine wN H0 fun p0 w0 h0 H0 => ?_
  refine wCall (next_r (ht.keep H0.keep (by simp)) hr (H0.get (i := 0) rfl)) ?_
  rintro x w1 ⟨hk1, hx⟩
  cases hl : lexS s p with
  | fin e pos =>
    rw [hl] at hx
    obtain ⟨t, rfl, hb1⟩ := hx
    refine ⟨(tkV t, false, ()), rfl, ?_⟩
    have H := H0.upd (i := 0) rfl hk1 hb1
    refine wN H fun p1 w2 h1 H => ?_
    refine wSA H 2 rfl rfl rfl rfl fun w3 H => ?_
    refine wIft rfl (wRet ⟨H.keep, ?_⟩)
    rw [pValue_fin hl]
    exact ⟨rfl, i, st, H.get (i := 0) rfl⟩
  | tok k a v q =>
    rw [hl] at hx
    obtain ⟨rfl, hb1⟩ := hx
    have hr1 := hr.next hl
    have hpv := pValue_tok hl key st
    refine ⟨(tkV ⟨k + 2, a, v⟩, true, ()), rfl, ?_⟩
    have H := H0.upd (i := 0) rfl hk1 hb1
    refine wN H fun p1 w2 h1 H => ?_
    refine wSA H 2 rfl rfl rfl rfl fun w3 H => ?_
    refine wIff rfl ?_
    refine wL H 2 (k + 2) rfl rfl rfl ?_
    have hfail : ∀ (w' : World) (c : Int) (L' : HL), ST w [f] w' (FiL f L (i + 1) st 0 0 :: L') → pValue s p key st = .fault a c →
        (T.call 26 [.pointer (some ⟨f, 0, none⟩), .int .i64 c, .int .i64 (a : Int)] [.b .bool] fun (r5 : Bool × Unit) => T.ret [.bool r5.1]).wp Tryz.prog (FileR s ts L f w (pValue s p key st)) w' := fun w' c L' H' hp => by
      refine wCall (fail_r (H'.get (i := 0) rfl) c (a : Int)) ?_
      rintro x w6 ⟨rfl, hk6, hb6⟩
      refine ⟨(false, ()), rfl, wRet ⟨H'.keep.trans hk6 (fun x hx _ => hx), ?_⟩⟩
      rw [hp]
      exact ⟨rfl, i + 1, st, hb6⟩
    refine wIf (fun h2 => ?_) (fun h2 => ?_)
    · have h2' : k = 1 := by
        have : k + 2 = 3 := (beq_iff_eq).1 h2
        omega
      refine wL H 2 (a : Int) (add_mk _ _ _) rfl rfl ?_
      exact hfail _ 121 _ H (by rw [hpv, if_pos h2'])
    have h2' : k ≠ 1 := fun e => by subst e; cases h2
    rw [if_neg h2'] at hpv
    refine wBlkK (fun xs w' => ∃ st', pSet key st k v = some st' ∧ Keep [f] w w' ∧ Blk w' f (fileC L (i + 1) st' 0 0) 42) ?_ (fun rest => ?_)
    · rintro ⟨⟩ w' ⟨st', hst, hk', hb'⟩
      rw [hst] at hpv
      simp only [] at hpv
      refine wCall (mark_r (ht.keep hk' (by simp)) hr1 hb' semiS) ?_
      rintro x w6 ⟨hk6, hx6⟩
      rw [← hpv] at hx6
      have hkk := hk'.trans hk6 (fun x hx _ => hx)
      have hcases : ∃ b : Bool, x = .returned (tupOf [.bool b]) := by
        cases hpp : pValue s p key st with
        | ok qs => rw [hpp] at hx6; exact ⟨_, hx6.1⟩
        | fault pos c => rw [hpp] at hx6; exact ⟨_, hx6.1⟩
      obtain ⟨b, rfl⟩ := hcases
      exact ⟨(b, ()), rfl, wRet ⟨hkk, hx6⟩⟩
    · cases key with
      | none =>
        refine wIft rfl ?_
        refine wL H 2 v (add_mk _ _ _) rfl rfl ?_
        refine wIf (fun h3 => ?_) (fun h3 => ?_)
        · have h3' : 64 < v.size := by
            have : (v.size : Int) > 64 := of_decide_eq_true h3
            omega
          refine wL H 2 (a : Int) (add_mk _ _ _) rfl rfl ?_
          exact hfail _ 124 _ H (by rw [hpv]; simp only [pSet, if_pos h3'])
        · have h3' : ¬ 64 < v.size := by
            have : ¬ (v.size : Int) > 64 := of_decide_eq_false h3
            omega
          refine wL H 2 v (add_mk _ _ _) rfl rfl ?_
          refine wS H 0 (o := 3) (by rw [add_mk, add_mk]) rfl (by show 3 < 39; decide) rfl fun w4 H => ?_
          refine wS H 0 (o := 36) (by rw [add_mk, add_mk]) rfl (by show 36 < 39; decide) rfl fun w5 H => ?_
          exact wJump () rfl (rest () _ ⟨{ st with sc := v, sth := true }, by simp only [pSet, if_neg h3'], H.keep, H.get (i := 0) rfl⟩)
      | some j =>
        have hj := hkey j rfl
        have hkvj := hkv j rfl
        subst hkvj
        refine wIff (by show decide ((j : Int) < 0) = false; simp) ?_
        refine wLA H 1 (keyV (kd j)) rfl rfl rfl ?_
        refine wLA H 2 (tkV ⟨k + 2, a, v⟩) rfl rfl rfl ?_
        refine wCall (value_r hj k a v (tok_val hs hl) w3) ?_
        rintro x w4 ⟨hk4, n, ok, rfl, hon⟩
        refine ⟨(n, ok, ()), rfl, ?_⟩
        have H := H.made hk4
        cases ok with
        | false =>
          refine wIft rfl ?_
          refine wL H 2 (a : Int) (add_mk _ _ _) rfl rfl ?_
          refine hfail _ 124 _ H ?_
          have hon' : (if k = 0 then valK (kd j) v else none) = none := hon
          rw [hpv]; simp only [pSet, hon']
        | true =>
          have hon' : (if k = 0 then valK (kd j) v else none) = some n := hon
          refine wIff rfl ?_
          have hch : decide (0 ≤ (j : Int) ∧ (j : Int) < (16 : Int)) = true := by simp; omega
          obtain ⟨hset, _, hlen⟩ := fileC_key L (i + 1) st 0 0 j hj
          have e1 : ((j : Int)).toNat * 1 = j := by simp
          refine wChk hch ?_
          refine wS H 0 (o := 4 + j) (by show (((⟨f, 0, none⟩ : Addr).add 2).add 2).add (((j : Int)).toNat * 1) = _; rw [e1, add_mk, add_mk, add_mk]) rfl (by rw [hlen]; omega) rfl fun w5 H => ?_
          refine wChk hch ?_
          refine wS H 0 (o := 20 + j) (by show (((⟨f, 0, none⟩ : Addr).add 2).add 18).add (((j : Int)).toNat * 1) = _; rw [e1, add_mk, add_mk, add_mk]) rfl (by rw [List.length_set, hlen]; omega) rfl fun w6 H => ?_
          refine wJump () rfl (rest () _ ⟨{ st with is := upd st.is j n, th := upd st.th j true }, by simp only [pSet, hon'], H.keep, ?_⟩)
          rw [← hset n]
          exact H.get (i := 0) rfl

theorem pSection_step (s sec : ByteArray) (n p : Nat) (st : St) : pSection s sec (n + 1) p st = match pPart s p with
    | .close _ q => .ok (q, st)
    | .fault pos c => .fault pos c
    | .word a v q => match findS sec v with
      | none => .fault a 122
      | some key => if given key st = true then .fault a 123 else
        match pValue s q key st with
        | .ok (q', st') => pSection s sec n q' st'
        | .fault pos c => .fault pos c := by
  rw [pSection, pPart]
  cases hl : lexS s p with
  | fin e pos => rfl
  | tok k a v q =>
    simp only []
    by_cases h1 : k = 1 ∧ v = closeS
    · rw [if_pos h1, if_pos h1]
    · rw [if_neg h1, if_neg h1]
      by_cases h2 : k ≠ 0
      · rw [if_pos h2, if_pos h2]
      · rw [if_neg h2, if_neg h2]
        rfl

theorem pPart_word {s : ByteArray} {p a q : Nat} {v : ByteArray} (h : pPart s p = .word a v q) : p < q ∧ q ≤ s.size ∧ lexS s p = .tok 0 a v q := by
  unfold pPart at h
  cases hl : lexS s p with
  | fin e pos => rw [hl] at h; cases h
  | tok k a' v' q' =>
    rw [hl] at h
    simp only [] at h
    split at h
    · cases h
    · split at h
      · cases h
      · rename_i h2
        cases h
        have := lexS_tok hl
        have hk : k = 0 := by simpa using h2
        subst hk
        exact ⟨this.1, this.2, rfl⟩

theorem zeroKey : ([.string (bs []), .string (bs []), .int .i64 0, .int .i64 0, .int .i64 0] : List Value) = bencs K73 (bs [], bs [], 0, 0, 0, ()) := rfl

theorem section_r {s : ByteArray} (hs : s.size ≤ 4096) {ts : List TK} {f : Nat} {L : Sl} {i p : Nat} {st : St} {w : World} (ht : Toks w L ts f) (hr : Rem s ts i p) (hb : Blk w f (fileC L i st 0 0) 42) (sec : ByteArray) (n : Nat) (hn : s.size - p < n) :
    Calls Tryz.prog 44 [.pointer (some ⟨f, 0, none⟩), .string sec].toArray w (FileR s ts L f w (pSection s sec n p st)) := by
  refine calls_tree hm Tryz.func44 (d44_ok ⟨f, 0, none⟩ sec) ?_
  unfold d44
  refine wCall (table_r w) ?_
  rintro x w1 ⟨rfl, hk1⟩
  refine ⟨(tabV, ()), rfl, ?_⟩
  have H : ST w [f] w [FiL f L i st 0 0] := ST.one hb (by simp)
  have H := H.made hk1
  refine wN H fun p1 w2 h1 H => ?_
  refine wSA H 1 rfl rfl rfl rfl fun w3 H => ?_
  have hpf : p1 ≠ f := fun e => by
    have h2 := H.nodup
    simp at h2
    exact h2 e.symm
  refine wLoop (fun m xs w' => ∃ n' p' i' st', m = s.size - p' ∧ s.size - p' < n' ∧ Rem s ts i' p' ∧ pSection s sec n p st = pSection s sec n' p' st' ∧ Keep [f] w w' ∧ Blk w' f (fileC L i' st' 0 0) 42 ∧ Blk w' p1 (bencs K74 tabV) 74) (s.size - p) () rfl
    ⟨n, p, i, st, rfl, hn, hr, rfl, H.keep, H.get (i := 0) rfl, H.get (i := 1) rfl⟩ ?_
  rintro _ ⟨⟩ w4 ⟨n', p', i', st', rfl, hn', hr', hps, hk, hbf, hbt⟩
  clear H hk1
  obtain ⟨n', rfl⟩ : ∃ m, n' = m + 1 := ⟨n' - 1, by omega⟩
  rw [pSection_step] at hps
  refine wCall (part_r (ht.keep hk (by simp)) hr' hbf) ?_
  rintro x w5 ⟨hk5, hx⟩
  have hkk := hk.trans hk5 (fun x hx _ => hx)
  have hbt := hk5.blk hbt (by simpa using hpf)
  cases hpp : pPart s p' with
  | close a q =>
    rw [hpp] at hx hps
    simp only [] at hps
    obtain ⟨t, hta, rfl, i2, hr2, hb2⟩ := hx
    refine ⟨(tkV t, true, true, ()), rfl, ?_⟩
    have H : ST w5 [f] w5 [FiL f L i2 st' 0 0] := ST.one hb2 (by simp)
    refine wN H fun p5 w6 h5 H => ?_
    refine wSA H 1 rfl rfl rfl rfl fun w7 H => ?_
    refine wBlk (wIff rfl (wJump (true, ()) rfl (wIft rfl (wRet ⟨hkk.trans H.keep (fun x hx _ => hx), ?_⟩))))
    rw [hps]
    exact ⟨rfl, i2, hr2, H.get (i := 0) rfl⟩
  | fault pos c =>
    rw [hpp] at hx hps
    simp only [] at hps
    obtain ⟨t, rfl, i2, hb2⟩ := hx
    refine ⟨(tkV t, false, false, ()), rfl, ?_⟩
    have H : ST w5 [f] w5 [FiL f L i2 st' c pos] := ST.one hb2 (by simp)
    refine wN H fun p5 w6 h5 H => ?_
    refine wSA H 1 rfl rfl rfl rfl fun w7 H => ?_
    refine wBlk (wIft rfl (wJump (true, ()) rfl (wIft rfl (wRet ⟨hkk.trans H.keep (fun x hx _ => hx), ?_⟩))))
    rw [hps]
    exact ⟨rfl, i2, st', H.get (i := 0) rfl⟩
  | word a v q =>
    rw [hpp] at hx hps
    simp only [] at hps
    obtain ⟨rfl, i2, hr2, hb2⟩ := hx
    have hw := pPart_word hpp
    refine ⟨(tkV ⟨2, a, v⟩, false, true, ()), rfl, ?_⟩
    have H : ST w5 [f] w5 [FiL f L i2 st' 0 0] := ST.one hb2 (by simp)
    refine wN H fun p5 w6 h5 H => ?_
    refine wSA H 1 rfl rfl rfl rfl fun w7 H => ?_
    refine wBlk (wIff rfl (wJump (false, ()) rfl (wIff rfl ?_)))
    refine wL H 1 v (add_mk _ _ _) rfl rfl ?_
    refine wCall (find_r sec v w7) ?_
    rintro x w8 ⟨rfl, hk8⟩
    refine ⟨(_, ()), rfl, ?_⟩
    have H := H.made hk8
    have hfail : ∀ (w' : World) (c : Int) (L' : HL), ST w5 [f] w' (FiL f L i2 st' 0 0 :: L') → pSection s sec n p st = .fault a c →
        (T.call 26 [.pointer (some ⟨f, 0, none⟩), .int .i64 c, .int .i64 (a : Int)] [.b .bool] fun (r5 : Bool × Unit) => T.ret [.bool r5.1]).wp Tryz.prog (FileR s ts L f w (pSection s sec n p st)) w' := fun w' c L' H' hp => by
      refine wCall (fail_r (H'.get (i := 0) rfl) c (a : Int)) ?_
      rintro x w6 ⟨rfl, hk6, hb6⟩
      refine ⟨(false, ()), rfl, wRet ⟨(hkk.trans H'.keep (fun x hx _ => hx)).trans hk6 (fun x hx _ => hx), ?_⟩⟩
      rw [hp]
      exact ⟨rfl, i2, st', hb6⟩
    cases hf : findS sec v with
    | none =>
      rw [hf] at hps
      refine wIft rfl ?_
      refine wL H 1 (a : Int) (add_mk _ _ _) rfl rfl ?_
      exact hfail _ 122 _ H hps
    | some key =>
      rw [hf] at hps
      simp only [] at hps
      have hkey : ∀ j, key = some j → j < 16 := fun j hj => by subst hj; exact (findS_sec hf).1
      refine wIff (by
        cases key with
        | none => rfl
        | some j => show ((j : Int) == (-2)) = false; rw [beq_eq_false_iff_ne]; omega) ?_
      refine wBlkK (fun xs w' => w' = w8 ∧ xs.1 = given key st') ?_ (fun rest => ?_)
      · rintro ⟨y, ⟨⟩⟩ w' ⟨rfl, hy⟩
        simp only [] at hy
        subst hy
        refine wIf (fun hg => ?_) (fun hg => ?_)
        · have hg' : given key st' = true := hg
          rw [if_pos hg'] at hps
          refine wL H 1 (a : Int) (add_mk _ _ _) rfl rfl ?_
          exact hfail _ 123 _ H hps
        · have hg' : given key st' = false := hg
          rw [if_neg (by rw [hg']; simp)] at hps
          refine wN H fun p19 w9 h9 H => ?_
          refine wSA H 2 rfl rfl rfl rfl fun w10 H => ?_
          refine wBlkK (fun xs w' => ∃ kv : Ty73, (∀ j, key = some j → kv = keyV (kd j)) ∧ ST w5 [f] w' [FiL f L i2 st' 0 0, (p5, cellsO (tkC ⟨2, a, v⟩) 63), (p19, cellsO (bencs K73 kv) 73)]) ?_ (fun rest2 => ?_)
          · rintro ⟨⟩ w' ⟨kv, hkv, H⟩
            refine wLA H 2 kv rfl rfl rfl ?_
            have hkw := hkk.trans H.keep (fun x hx _ => hx)
            refine wCall (given_r hs (ht.keep hkw (by simp)) hr2 (H.get (i := 0) rfl) hkey kv hkv) ?_
            rintro x w11 ⟨hk11, hx11⟩
            have hkw2 := hkw.trans hk11 (fun x hx _ => hx)
            cases hpv : pValue s q key st' with
            | ok qs =>
              obtain ⟨q2, st2⟩ := qs
              rw [hpv] at hx11 hps
              simp only [] at hps
              obtain ⟨rfl, i3, hr3, hb3⟩ := hx11
              have hq := pValue_ok hpv
              refine ⟨(true, ()), rfl, wIff rfl ?_⟩
              refine wJump () rfl ⟨s.size - q2, by omega, n', q2, i3, st2, rfl, by omega, hr3, hps, hkw2, hb3, ?_⟩
              exact hk11.blk ((H.keep).blk hbt (by simpa using hpf)) (by simpa using hpf)
            | fault pos c =>
              rw [hpv] at hx11 hps
              simp only [] at hps
              obtain ⟨rfl, i3, st3, hb3⟩ := hx11
              refine ⟨(false, ()), rfl, wIft rfl (wRet ⟨hkw2, ?_⟩)⟩
              rw [hps]
              exact ⟨rfl, i3, st3, hb3⟩
          · cases key with
            | none =>
              refine wIff rfl (wJump () rfl (rest2 () _ ⟨(bs [], bs [], 0, 0, 0, ()), by simp, H⟩))
            | some j =>
              have hj := hkey j rfl
              refine wIft (by show decide ((j : Int) ≥ 0) = true; simp) ?_
              have hch : decide (0 ≤ (j : Int) ∧ (j : Int) < (16 : Int)) = true := by simp; omega
              refine wChk hch ?_
              have hbt2 : Blk w10 p1 (bencs K74 tabV) 74 := H.keep.blk hbt (by simpa using hpf)
              refine wLoadN (k := .agg K73) hbt2 (o := j * 5) (keyV (kd j)) (by show (⟨p1, 0, none⟩ : Addr).add (((j : Int)).toNat * 5) = _; rw [add_mk]; simp) (fun m v hm => tab_at j hj m v hm) ?_
              refine wSA H 2 rfl rfl rfl rfl fun w11 H => ?_
              exact wJump () rfl (rest2 () _ ⟨keyV (kd j), fun j' hj' => by cases hj'; rfl, H⟩)
      · cases key with
        | none =>
          refine wIff rfl (wIft rfl ?_)
          refine wL H 0 (o := 36) st'.sth (by show ((⟨f, 0, none⟩ : Addr).add 2).add 34 = _; rw [add_mk, add_mk]) rfl rfl ?_
          exact wJump (_, ()) rfl (rest _ _ ⟨rfl, rfl⟩)
        | some j =>
          have hj := hkey j rfl
          refine wIft (by show decide ((j : Int) ≥ 0) = true; simp) ?_
          have hch : decide (0 ≤ (j : Int) ∧ (j : Int) < (16 : Int)) = true := by simp; omega
          refine wChk hch ?_
          refine wL H 0 (o := 20 + j) (st'.th j) (by show (((⟨f, 0, none⟩ : Addr).add 2).add 18).add (((j : Int)).toNat * 1) = _; rw [add_mk, add_mk, add_mk]; simp) rfl (fileC_key L i2 st' 0 0 j hj).2.1 ?_
          refine wIf (fun h3 => wJump (_, ()) rfl (rest _ _ ⟨rfl, ?_⟩)) (fun h3 => ?_)
          · exact h3.symm
          · refine wIff (by show decide ((j : Int) < 0) = false; simp) ?_
            exact wJump (_, ()) rfl (rest _ _ ⟨rfl, h3.symm⟩)

end Go.Proofs.Cf
