/- The reference reads a file: Parse. -/
import Derived.Test.YtphejmchkmciaaaGreatDoorTm
import Derived.Test.YtphejmchkmciaaaGreatDoorSs
set_option maxRecDepth 100000
set_option linter.unusedVariables false
namespace Go.Proofs.Cf
open Go.WF

/-- What the reading of a file comes to. -/
def WholeR (L : Sl) (f : Nat) (w : World) (o : PR St) (x : Ending) (w' : World) : Prop :=
  Keep [f] w w' ∧ match o with
    | .ok st => x = .returned (tupOf [.bool true]) ∧ ∃ i, Blk w' f (fileC L i st 0 0) 42
    | .fault pos c => x = .returned (tupOf [.bool false]) ∧ ∃ i st, Blk w' f (fileC L i st c (pos : Int)) 42

theorem vals_at (L : Sl) (i : Nat) (st : St) (b p : Int) {j : Nat} {v : Value} (hj : (valsC st)[j]? = some v) : (fileC L i st b p)[0 + 2 + j]? = some v := by
  have hjl : j < 35 := by
    rcases Nat.lt_or_ge j 35 with h | h
    · exact h
    · rw [List.getElem?_eq_none (show (valsC st).length ≤ j from h)] at hj; cases hj
  show (Value.slice L.a L.len L.cap :: .int .i64 (i : Int) :: (valsC st ++ [.int .i64 b, .int .i64 p]))[0 + 2 + j]? = some v
  rw [show 0 + 2 + j = j + 1 + 1 from by omega, List.getElem?_cons_succ, List.getElem?_cons_succ, List.getElem?_append_left (show j < (valsC st).length from hjl)]
  exact hj

theorem name_r {s : ByteArray} (hs : s.size ≤ 65536) : Gives 27 [.string s] [.bool (nameOk s)] := rname_c s (by omega)

theorem file_r {s : ByteArray} (hs : s.size ≤ 4096) {ts : List TK} {f : Nat} {L : Sl} {w : World} (ht : Toks w L ts f) (hr : Rem s ts 0 0) (hb : Blk w f (fileC L 0 st0 0 0) 42) :
    Calls Tryz.prog 10 [.pointer (some ⟨f, 0, none⟩)].toArray w (WholeR L f w (pFile s)) := by
  refine calls_tree hm Tryz.func10 (d10_ok ⟨f, 0, none⟩) ?_
  unfold d10
  rw [pFile_eq]
  refine wCall (next_r ht hr hb) ?_
  rintro x w1 ⟨hk1, hx⟩
  have hfail : ∀ (o : PR St) (w0 w' : World) (c pos i : Int) (i : Nat) (st : St) (L' : HL) (pos : Nat), Keep [f] w w0 → ST w0 [f] w' (FiL f L i st 0 0 :: L') → o = .fault pos c →
      (T.call 26 [.pointer (some ⟨f, 0, none⟩), .int .i64 c, .int .i64 (pos : Int)] [.b .bool] fun (r5 : Bool × Unit) => T.ret [.bool r5.1]).wp Tryz.prog (WholeR L f w o) w' := fun o w0 w' c _ _ i st L' pos hk0 H' hp => by
    refine wCall (fail_r (H'.get (i := 0) rfl) c (pos : Int)) ?_
    rintro x w6 ⟨rfl, hk6, hb6⟩
    refine ⟨(false, ()), rfl, wRet ⟨(hk0.trans H'.keep (fun x hx _ => hx)).trans hk6 (fun x hx _ => hx), ?_⟩⟩
    rw [hp]
    exact ⟨rfl, i, st, hb6⟩
  cases hl : lexS s 0 with
  | fin e pos =>
    rw [hl] at hx
    obtain ⟨t, rfl, hb1⟩ := hx
    refine ⟨(tkV t, false, ()), rfl, ?_⟩
    have H : ST w1 [f] w1 [FiL f L 0 st0 121 pos] := ST.one hb1 (by simp)
    refine wN H fun p1 w2 h1 H => ?_
    refine wSA H 1 rfl rfl rfl rfl fun w3 H => ?_
    refine wIft rfl (wRet ⟨hk1.trans H.keep (fun x hx _ => hx), ?_⟩)
    have : pWant s 0 0 resourceS = .fault pos 121 := by simp only [pWant, hl]
    rw [this]
    exact ⟨rfl, 0, st0, H.get (i := 0) rfl⟩
  | tok k a v q =>
    rw [hl] at hx
    obtain ⟨rfl, hb1⟩ := hx
    have hr1 := hr.next hl
    have hpw : pWant s 0 0 resourceS = if k = 0 ∧ v = resourceS then .ok q else .fault a 121 := by simp only [pWant, hl]
    refine ⟨(tkV ⟨k + 2, a, v⟩, true, ()), rfl, ?_⟩
    have H : ST w1 [f] w1 [FiL f L (0 + 1) st0 0 0] := ST.one hb1 (by simp)
    refine wN H fun p1 w2 h1 H => ?_
    refine wSA H 1 rfl rfl rfl rfl fun w3 H => ?_
    refine wIff rfl ?_
    refine wBlkK (fun xs w' => w' = w3 ∧ xs.1 = !(decide (k = 0 ∧ v = resourceS))) ?_ (fun rest => ?_)
    rotate_left
    · refine wL H 1 (k + 2) rfl rfl rfl ?_
      refine wIf (fun h1 => wJump (_, ()) rfl (rest _ _ ⟨rfl, ?_⟩)) (fun h1 => ?_)
      · have h1' : k ≠ 0 := fun e => by subst e; cases h1
        show true = _
        rw [decide_eq_false (fun h => h1' h.1)]
        rfl
      · have h1' : k = 0 := by
          have : ¬ (k + 2 ≠ 2) := fun h => by
            have h2 : (k + 2 != 2) = true := bne_iff_ne.2 h
            rw [show (k + 2 != 2) = false from h1] at h2
            cases h2
          omega
        refine wL H 1 v (add_mk _ _ _) rfl rfl ?_
        refine wJump (_, ()) rfl (rest _ _ ⟨rfl, ?_⟩)
        show (!(v.toList == resourceS.toList)) = _
        rw [str_eq, h1']
        simp
    rintro ⟨y, ⟨⟩⟩ w' ⟨rfl, hy⟩
    simp only [] at hy
    subst hy
    refine wIf (fun hy => ?_) (fun hy => ?_)
    · have hy' : ¬ (k = 0 ∧ v = resourceS) := of_decide_eq_false (by rwa [Bool.not_eq_true'] at hy)
      refine wL H 1 (a : Int) (add_mk _ _ _) rfl rfl ?_
      refine hfail _ w1 _ 121 0 0 (0 + 1) st0 _ a hk1 H ?_
      rw [hpw, if_neg hy']
    have hy' : k = 0 ∧ v = resourceS := of_decide_eq_true (by rwa [Bool.not_eq_false'] at hy)
    rw [hpw, if_pos hy']
    simp only []
    have hkb := hk1.trans H.keep (fun x hx _ => hx)
    refine wCall (next_r (ht.keep hkb (by simp)) hr1 (H.get (i := 0) rfl)) ?_
    rintro x w4 ⟨hk4, hx⟩
    clear hy hy' hpw
    cases hl2 : lexS s q with
    | fin e pos =>
      rw [hl2] at hx
      obtain ⟨t, rfl, hb4⟩ := hx
      refine ⟨(tkV t, false, ()), rfl, ?_⟩
      have H4 := H.upd (i := 0) rfl hk4 hb4
      refine wSA H4 1 rfl rfl rfl rfl fun w5 H => ?_
      refine wIft rfl (wRet ⟨hk1.trans H.keep (fun x hx _ => hx), ?_⟩)
      exact ⟨rfl, 0 + 1, st0, H.get (i := 0) rfl⟩
    | tok k2 a2 v2 q2 =>
      rw [hl2] at hx
      obtain ⟨rfl, hb4⟩ := hx
      have hr2 := hr1.next hl2
      refine ⟨(tkV ⟨k2 + 2, a2, v2⟩, true, ()), rfl, ?_⟩
      have H4 := H.upd (i := 0) rfl hk4 hb4
      simp only []
      refine wSA H4 1 rfl rfl rfl rfl fun w5 H => ?_
      refine wIff rfl ?_
      refine wL H 1 (k2 + 2) rfl rfl rfl ?_
      refine wIf (fun h1 => ?_) (fun h1 => ?_)
      · have h1' : k2 ≠ 0 := fun e => by subst e; cases h1
        refine wL H 1 (a2 : Int) (add_mk _ _ _) rfl rfl ?_
        refine hfail _ w1 _ 121 0 0 (0 + 1 + 1) st0 _ a2 hk1 H ?_
        rw [if_pos h1']
      have h1' : k2 = 0 := by
        have : ¬ (k2 + 2 ≠ 2) := fun h => by
          have h2 : (k2 + 2 != 2) = true := bne_iff_ne.2 h
          rw [show (k2 + 2 != 2) = false from h1] at h2
          cases h2
        omega
      rw [if_neg (by simp [h1'])]
      refine wL H 1 v2 (add_mk _ _ _) rfl rfl ?_
      refine wG (name_r (tok_val hs hl2)) (_, ()) rfl ?_
      refine wIf (fun hn => ?_) (fun hn => ?_)
      · have hn' : nameOk v2 = false := by simpa using hn
        refine wL H 1 (a2 : Int) (add_mk _ _ _) rfl rfl ?_
        refine hfail _ w1 _ 124 0 0 (0 + 1 + 1) st0 _ a2 hk1 H ?_
        rw [if_pos hn']
      have hn' : nameOk v2 = true := by simpa using hn
      rw [if_neg (by rw [hn']; simp)]
      refine wL H 1 v2 (add_mk _ _ _) rfl rfl ?_
      refine wS H 0 (o := 0 + 2) (add_mk _ _ _) rfl (by show 0 + 2 < 39; decide) rfl fun w6 H => ?_
      have hb6 : Blk w6 f (fileC L (0 + 1 + 1) { st0 with nm := v2 } 0 0) 42 := H.get (i := 0) rfl
      have hk6 := hk1.trans H.keep (fun x hx _ => hx)
      refine wCall (mark_r (ht.keep hk6 (by simp)) hr2 hb6 openS) ?_
      rintro x w7 ⟨hk7, hx⟩
      have hk7 := hk6.trans hk7 (fun x hx _ => hx)
      clear H H4
      cases hpw : pWant s q2 1 openS with
      | fault pos c =>
        rw [show pMark s q2 openS { st0 with nm := v2 } = .fault pos c from by simp only [pMark, hpw]] at hx
        obtain ⟨rfl, i3, st3, hb3⟩ := hx
        exact ⟨(false, ()), rfl, wIft rfl (wRet ⟨hk7, rfl, i3, st3, hb3⟩)⟩
      | ok p3 =>
        rw [show pMark s q2 openS { st0 with nm := v2 } = .ok (p3, { st0 with nm := v2 }) from by simp only [pMark, hpw]] at hx
        obtain ⟨rfl, i3, hr3, hb3⟩ := hx
        refine ⟨(true, ()), rfl, wIff rfl ?_⟩
        simp only []
        refine wCall (resource_r hs (ht.keep hk7 (by simp)) hr3 hb3 (s.size + 1) (by omega)) ?_
        rintro x w8 ⟨hk8, hx⟩
        have hk8 := hk7.trans hk8 (fun x hx _ => hx)
        cases hpr : pRes s (s.size + 1) p3 [] { st0 with nm := v2 } with
        | fault pos c =>
          rw [hpr] at hx
          obtain ⟨n, rfl, i4, st4, hb4⟩ := hx
          exact ⟨(n, false, ()), rfl, wIft rfl (wRet ⟨hk8, rfl, i4, st4, hb4⟩)⟩
        | ok r =>
          obtain ⟨a3, q3, st⟩ := r
          rw [hpr] at hx
          obtain ⟨rfl, i4, hr4, hb4⟩ := hx
          refine ⟨((a3 : Int), true, ()), rfl, wIff rfl ?_⟩
          have H : ST w8 [f] w8 [FiL f L i4 st 0 0] := ST.one hb4 (by simp)
          show T.wp Tryz.prog (WholeR L f w (pEnd s a3 q3 st)) _ w8
          refine wBlkK (fun xs w' => w' = w8 ∧ xs.1 = !(st.th 1 && st.th 2)) ?_ (fun rest => ?_)
          · rintro ⟨y, ⟨⟩⟩ w' ⟨rfl, hy⟩
            simp only [] at hy
            subst hy
            refine wIf (fun hy => ?_) (fun hy => ?_)
            · have hy' : (st.th 1 && st.th 2) = false := by rwa [Bool.not_eq_true'] at hy
              refine hfail _ w' _ 125 0 0 i4 st _ a3 hk8 H ?_
              rw [pEnd, if_pos hy']
            · have hy' : (st.th 1 && st.th 2) = true := by rwa [Bool.not_eq_false'] at hy
              have hpe : pEnd s a3 q3 st = if togB (fullV st) = false then .fault a3 124 else
                  match lexS s q3 with
                  | .fin true _ => .ok st
                  | .fin false pos => .fault pos 121
                  | .tok _ a' _ _ => .fault a' 121 := by rw [pEnd, if_neg (by rw [hy']; simp)]; rfl
              refine wLoadN (k := .agg K40) hb4 (o := 0 + 2) (valsV st) (add_mk _ _ _) (fun j v hj => ?_) ?_
              · exact vals_at L i4 st 0 0 hj
              refine wCall (config_r st w') ?_
              rintro x w9 ⟨rfl, hk9⟩
              refine ⟨(cfgV st.nm st.sc (fullV st), ()), rfl, ?_⟩
              have H := H.made hk9
              refine wN H fun p26 w10 h10 H => ?_
              refine wSA H 1 rfl rfl rfl rfl fun w11 H => ?_
              refine wLA H 1 (cfgV st.nm st.sc (fullV st)) rfl rfl rfl ?_
              refine wCall (together_r st.nm st.sc (fullV st) w11) ?_
              rintro x w12 ⟨rfl, hk12⟩
              refine ⟨(_, ()), rfl, ?_⟩
              have H := H.made hk12
              refine wIf (fun hg => ?_) (fun hg => ?_)
              · have hg' : togB (fullV st) = false := by rwa [Bool.not_eq_true'] at hg
                refine hfail _ w' _ 124 0 0 i4 st _ a3 hk8 H ?_
                rw [hpe, if_pos hg']
              · have hg' : togB (fullV st) = true := by rwa [Bool.not_eq_false'] at hg
                rw [hpe, if_neg (by rw [hg']; simp)]
                have hlt := hr4.lt
                have hfew := ht.few
                refine wD H fun w13 H => ?_
                refine wL H 0 L rfl rfl rfl ?_
                refine wL H 0 (i4 : Int) (add_mk _ _ _) rfl rfl ?_
                have hkz := hk8.trans H.keep (fun x hx _ => hx)
                obtain ⟨ha, hc⟩ := (ht.keep hkz (by simp)).at hr4.here
                refine wChk (by rw [ha, ht.len]; simp; omega) ?_
                generalize htk : tkOf s (lexS s q3) = t at hc
                rw [show ((i4 : Int)).toNat = i4 from by simp]
                refine wLoadK (k := .agg K63) (tkV t) hc ?_
                refine wN H fun p33 w14 h14 H => ?_
                have hc3 := ((ht.keep (hk8.trans H.keep (fun x hx _ => hx)) (by simp)).at hr4.here).2
                rw [htk] at hc3
                have hfb : Blk w14 f (fileC L i4 st 0 0) 42 := H.get (i := 0) rfl
                refine wHold ?_ ?_
                · intro x hx
                  simp only [List.mem_cons, List.not_mem_nil, or_false] at hx
                  rcases hx with rfl | rfl | rfl
                  · exact hc3
                  · exact ⟨by rw [add_mk, cell_blk hfb]; rfl, trivial⟩
                  · exact ⟨by rw [cell_blk hfb]; rfl, trivial⟩
                refine wSA H 2 rfl rfl rfl rfl fun w15 H => ?_
                refine wL H 2 t.k rfl rfl rfl ?_
                have htk0 : t.k ≠ 0 → ∀ o : PR St, (o = match lexS s q3 with
                    | .fin true _ => .ok st
                    | .fin false pos => .fault pos 121
                    | .tok _ a' _ _ => .fault a' 121) → o = .fault t.a 121 := fun hne o ho => by
                  rw [ho]
                  subst htk
                  cases hl3 : lexS s q3 with
                  | tok k a v q => rfl
                  | fin e pos =>
                    cases e with
                    | true => rw [hl3] at hne; exact absurd rfl hne
                    | false => rfl
                refine wIf (fun h3 => ?_) (fun h3 => ?_)
                · have h3' : t.k ≠ 0 := (bne_iff_ne).1 h3
                  refine wL H 2 (t.a : Int) (add_mk _ _ _) rfl rfl ?_
                  exact hfail _ w' _ 121 0 0 i4 st _ t.a hk8 H (htk0 h3' _ rfl)
                · have h3' : t.k = 0 := by
                    by_cases h : t.k = 0
                    · exact h
                    · have h4 : (t.k != 0) = true := bne_iff_ne.2 h
                      rw [show (t.k != 0) = false from h3] at h4
                      cases h4
                  have hok : (match lexS s q3 with
                    | .fin true _ => PR.ok st
                    | .fin false pos => .fault pos 121
                    | .tok _ a' _ _ => .fault a' 121) = .ok st := by
                    subst htk
                    cases hl3 : lexS s q3 with
                    | tok k a v q =>
                      rw [hl3] at h3'
                      have h5 : k + 2 = 0 := h3'
                      have := lexS_kind hl3
                      omega
                    | fin e pos =>
                      cases e with
                      | true => rfl
                      | false => rw [hl3] at h3'; cases h3'
                  refine wRet ⟨hk8.trans H.keep (fun x hx _ => hx), ?_⟩
                  rw [hok]
                  exact ⟨rfl, i4, H.get (i := 0) rfl⟩
          · refine wChk (by decide) ?_
            refine wL H 0 (o := 21) (st.th 1) (by show (((⟨f, 0, none⟩ : Addr).add 2).add 18).add (1 * 1) = _; rw [add_mk, add_mk, add_mk]) rfl rfl ?_
            refine wIf (fun h1 => wJump (_, ()) rfl (rest _ _ ⟨rfl, ?_⟩)) (fun h1 => ?_)
            · have h1' : st.th 1 = false := by rwa [Bool.not_eq_true'] at h1
              show true = _
              rw [h1']
              rfl
            · have h1' : st.th 1 = true := by rwa [Bool.not_eq_false'] at h1
              refine wChk (by decide) ?_
              refine wL H 0 (o := 22) (st.th 2) (by show (((⟨f, 0, none⟩ : Addr).add 2).add 18).add (2 * 1) = _; rw [add_mk, add_mk, add_mk]) rfl rfl ?_
              refine wJump (_, ()) rfl (rest _ _ ⟨rfl, ?_⟩)
              show (!st.th 2) = _
              rw [h1']
              rfl

theorem pFile_there {s : ByteArray} {st : St} (h : pFile s = .ok st) : st.th 1 = true ∧ st.th 2 = true := by
  rw [pFile_eq] at h
  cases h1 : pWant s 0 0 resourceS with
  | fault pos c => rw [h1] at h; cases h
  | ok p1 =>
    rw [h1] at h
    simp only [] at h
    cases h2 : lexS s p1 with
    | fin e pos => rw [h2] at h; cases h
    | tok k a v p2 =>
      rw [h2] at h
      simp only [] at h
      split at h
      · cases h
      · split at h
        · cases h
        · cases h3 : pWant s p2 1 openS with
          | fault pos c => rw [h3] at h; cases h
          | ok p3 =>
            rw [h3] at h
            simp only [] at h
            cases h4 : pRes s (s.size + 1) p3 [] { st0 with nm := v } with
            | fault pos c => rw [h4] at h; cases h
            | ok r =>
              obtain ⟨a3, q3, st'⟩ := r
              rw [h4] at h
              have h : pEnd s a3 q3 st' = .ok st := h
              unfold pEnd at h
              split at h
              · cases h
              · rename_i hth
                split at h
                · cases h
                · have hst : st' = st := by
                    cases h5 : lexS s q3 with
                    | tok k a v q => rw [h5] at h; cases h
                    | fin e pos =>
                      rw [h5] at h
                      cases e with
                      | true => cases h; rfl
                      | false => cases h
                  subst hst
                  simpa using hth

theorem cfg_same {st : St} (h : st.th 1 = true ∧ st.th 2 = true) : cfgC st.nm st.sc (progV st) = cfgC st.nm st.sc (fullV st) := by
  have e : progV st = fullV st := by
    funext i
    by_cases h1 : i = 1
    · subst h1; simp [progV, fullV, h.1]
    · by_cases h2 : i = 2
      · subst h2; simp [progV, fullV, h.2]
      · exact progV_full st i h1 h2
  rw [e]

theorem cut_toks {s : ByteArray} (hs : s.size ≤ 4096) {w w' : World} {v : Sl} {f : Nat} (hrow : Row w.heap.size w' 63 3 v (toks s (s.size + 1) 0).length (tksC (toks s (s.size + 1) 0))) (hf : w'.heap.size ≤ f) : Toks w' v (toks s (s.size + 1) 0) f := by
  have hpos : 0 < (toks s (s.size + 1) 0).length := by
    rw [toks]
    cases lexS s 0 <;> simp
  obtain ⟨ad, had⟩ := Option.isSome_iff_exists.1 (rowSome hrow hpos)
  refine ⟨⟨ad, had, ?_, ?_⟩, hrow.len, ?_⟩
  · have := (hrow.ge ad.block (by simp [rowB, had])).2
    omega
  · have := cellsAt_of (w := w') (vs := tksC (toks s (s.size + 1) 0)) 0 (a := ad) (fun j u hj => by rw [Nat.zero_add]; exact hrow.cells had j u hj)
    simpa [Addr.add] using this
  · have := toks_len (s := s) (s.size + 1) 0
    omega

theorem parse_r (s : ByteArray) (w : World) : Calls Tryz.prog 5 [.string s].toArray w fun x w' => x = .returned (tupOf (parseV s)) ∧ Keep [] w w' := by
  refine calls_tree hm Tryz.func5 (d5_ok s) ?_
  unfold d5
  have H : ST w [] w [] := ST.nil [] w
  refine wN H fun p0 w1 h0 H => ?_
  refine wIf (fun hbig => ?_) (fun hbig => ?_)
  · have hbig' : 4096 < s.size := by
      have h : (s.size : Int) > 4096 := of_decide_eq_true hbig
      omega
    refine wSA H 0 rfl rfl rfl rfl fun w2 H => ?_
    refine wLA H 0 (cfgV (bs []) (bs []) fun _ => 0) rfl rfl rfl ?_
    refine wRet ⟨?_, H.keep⟩
    rw [parseV, if_pos hbig']
    rfl
  · have hbig' : ¬ 4096 < s.size := by
      have h : ¬ (s.size : Int) > 4096 := of_decide_eq_false hbig
      omega
    have hs : s.size ≤ 4096 := by omega
    have hpv : parseV s = match pFile s with
        | .ok st => [.agg (cfgC st.nm st.sc (progV st)).toArray, .int .i64 0, .int .i64 0]
        | .fault pos code => [.agg Z23.toArray, .int .i64 (pos : Int), .int .i64 code] := by rw [parseV, if_neg hbig']; rfl
    refine wCall (cut_r hs w1) ?_
    rintro x w2 ⟨hk2, v, rfl, hrow⟩
    refine ⟨(v, ()), rfl, ?_⟩
    have H := H.made hk2
    refine wNew fun f w3 hf hbf hkf _ => ?_
    have H := H.push hkf hbf (by omega)
    have hbf : Blk w3 f (fileC v 0 st0 0 0) 42 := hbf
    have ht : Toks w3 v (toks s (s.size + 1) 0) f := (cut_toks hs hrow (by omega)).keep hkf (by simp)
    have hr : Rem s (toks s (s.size + 1) 0) 0 0 := ⟨Nat.zero_le _, s.size + 1, by omega, rfl⟩
    refine wCall (file_r hs ht hr hbf) ?_
    rintro x w4 ⟨hk4, hx⟩
    cases hpf : pFile s with
    | fault pos c =>
      rw [hpf] at hx hpv
      obtain ⟨rfl, i, st, hb4⟩ := hx
      have H := H.upd (i := 1) rfl hk4 hb4
      refine ⟨(false, ()), rfl, wIft rfl ?_⟩
      refine wD H fun w5 H => ?_
      refine wL H 1 (pos : Int) (add_mk _ _ _) rfl rfl ?_
      refine wL H 1 c (add_mk _ _ _) rfl rfl ?_
      refine wSA H 0 rfl rfl rfl rfl fun w6 H => ?_
      have hb6 : Blk w6 f (fileC v i st c (pos : Int)) 42 := H.get (i := 1) rfl
      refine wHold ?_ ?_
      · intro x hx
        simp only [List.mem_cons, List.not_mem_nil, or_false] at hx
        rcases hx with rfl | rfl
        · exact ⟨by rw [add_mk, cell_blk hb6]; rfl, trivial⟩
        · exact ⟨by rw [add_mk, cell_blk hb6]; rfl, trivial⟩
      refine wLA H 0 (cfgV (bs []) (bs []) fun _ => 0) rfl rfl rfl ?_
      refine wRet ⟨?_, H.keep⟩
      rw [hpv]
      rfl
    | ok st =>
      rw [hpf] at hx hpv
      obtain ⟨rfl, i, hb4⟩ := hx
      have H := H.upd (i := 1) rfl hk4 hb4
      refine ⟨(true, ()), rfl, wIff rfl ?_⟩
      refine wLoadN (k := .agg K40) hb4 (o := 0 + 2) (valsV st) (add_mk _ _ _) (fun j v' hj => vals_at v i st 0 0 hj) ?_
      refine wCall (config_r st w4) ?_
      rintro x w5 ⟨rfl, hk5⟩
      refine ⟨(cfgV st.nm st.sc (fullV st), ()), rfl, ?_⟩
      have H := H.made hk5
      refine wSA H 0 rfl rfl rfl rfl fun w6 H => ?_
      refine wLA H 0 (cfgV st.nm st.sc (fullV st)) rfl rfl rfl ?_
      refine wRet ⟨?_, H.keep⟩
      have hpv : parseV s = [.agg (cfgC st.nm st.sc (progV st)).toArray, .int .i64 0, .int .i64 0] := hpv
      rw [hpv, cfg_same (pFile_there hpf)]
      rfl

/-! ### The law -/
theorem eqFields_refl {P : Program} {w : World} {d : Nat} {xs : Array Value} : ∀ (fs : List Field), (∀ f ∈ fs, ∃ a, (_root_.Go.part f.type xs f.offset).run P w = .ok a w ∧ (Op.equalIn d f.type a a).run P w = .ok true w) → (Op.eqFields d xs xs fs).run P w = .ok true w
  | [], _ => by simp [Op.eqFields]
  | f :: fs, h => by
    obtain ⟨a, h1, h2⟩ := h f (by simp)
    have ih := eqFields_refl fs fun g hg => h g (by simp [hg])
    simp only [Op.eqFields]
    split
    · simp only [Sem.run_bind, h1, Result.andThen_ok, h2, Bool.not_true, Bool.false_eq_true, if_false]
      exact ih
    · exact ih

theorem part_one {P : Program} {w : World} {t : TypeId} {xs : Array Value} {o : Nat} {v : Value} (ha : (isAgg t).run P w = .ok false w) (hx : xs[o]? = some v) : (_root_.Go.part t xs o).run P w = .ok v w := by
  simp only [_root_.Go.part, Sem.run_bind, ha, Result.andThen_ok, Bool.false_eq_true, if_false, hx, Sem.run_pure]

theorem eq_int {w : World} {d : Nat} (n : Int) : (Op.equalIn (d + 1) 3 (.int .i64 n) (.int .i64 n)).run Tryz.prog w = .ok true w := by
  rw [run_equalIn_int w d 3 .i64 .i64 n n Tryz.underlying3]
  simp

theorem eq_str {w : World} {d : Nat} (s : ByteArray) : (Op.equalIn (d + 1) 9 (.string s) (.string s)).run Tryz.prog w = .ok true w := by
  rw [run_equalIn_string w d 9 s s Tryz.underlying9]
  simp

theorem isAgg3r (w : World) : (isAgg 3).run Tryz.prog w = .ok false w := by kernel_rfl
theorem isAgg9r (w : World) : (isAgg 9).run Tryz.prog w = .ok false w := by kernel_rfl
theorem fields23 : Tryz.prog.underlying 23 = some (.struct (Tryz.prog.fieldsOf 23)) := by kernel_rfl

theorem cfg_eq (v : Ty23) (x y : Operand) (w : World) : (do eqGuard .eql 23 x y (.agg (bencs K23 v).toArray) (.agg (bencs K23 v).toArray); binOp .eql 23 (.agg (bencs K23 v).toArray) (.agg (bencs K23 v).toArray)).run Tryz.prog w = .ok (.bool true) w := by
  rw [Sem.run_bind, run_eqGuard_agg w .eql 23 x y _ _ (by kernel_rfl), Result.andThen_ok, run_eql_struct, run_equalIn_struct w 9999 23 _ _ fields23 (by kernel_rfl)]
  rw [eqFields_refl]
  · rfl
  · have hf : (Tryz.prog.fieldsOf 23).toList = [⟨ "Name", 9, 0, false, "", "", 0⟩, ⟨ "Blocks", 3, 1, false, "", "", 16⟩, ⟨ "Size", 3, 2, false, "", "", 24⟩, ⟨ "Slots", 3, 3, false, "", "", 32⟩, ⟨ "Protocol", 3, 4, false, "", "", 40⟩, ⟨ "Window", 3, 5, false, "", "", 48⟩,
        ⟨ "Backlog", 3, 6, false, "", "", 56⟩, ⟨ "Resend", 3, 7, false, "", "", 64⟩, ⟨ "Dead", 3, 8, false, "", "", 72⟩, ⟨ "Epoch", 3, 9, false, "", "", 80⟩, ⟨ "Queue", 3, 10, false, "", "", 88⟩, ⟨ "Secret", 9, 11, false, "", "", 96⟩, ⟨ "Sb0", 3, 12, false, "", "", 112⟩,
        ⟨ "Sb1", 3, 13, false, "", "", 120⟩, ⟨ "Sb2", 3, 14, false, "", "", 128⟩, ⟨ "Rate", 3, 15, false, "", "", 136⟩, ⟨ "Burst", 3, 16, false, "", "", 144⟩, ⟨ "Ahead", 3, 17, false, "", "", 152⟩] := by kernel_rfl
    rw [hf]
    intro f hm
    simp only [List.mem_cons, List.not_mem_nil, or_false] at hm
    rcases hm with rfl | rfl | rfl | rfl | rfl | rfl | rfl | rfl | rfl | rfl | rfl | rfl | rfl | rfl | rfl | rfl | rfl | rfl
    all_goals first
      | exact ⟨_, part_one (isAgg3r w) rfl, eq_int _⟩
      | exact ⟨_, part_one (isAgg9r w) rfl, eq_str _⟩

theorem parseV_shape (s : ByteArray) : ∃ (c : Ty23) (p e : Int), parseV s = [.agg (bencs K23 c).toArray, .int .i64 p, .int .i64 e] := by
  unfold parseV
  split
  · exact ⟨cfgV (bs []) (bs []) (fun _ => 0), 0, 6, rfl⟩
  · cases pFile s with
    | ok st => exact ⟨cfgV st.nm st.sc (progV st), 0, 0, rfl⟩
    | fault pos c => exact ⟨cfgV (bs []) (bs []) (fun _ => 0), pos, c, rfl⟩

/-- The law's walk: it answers true, and changes nothing that was there. -/
theorem law_r (s : ByteArray) (w : World) : Calls Tryz.prog 3 [.string s].toArray w fun x w' => x = .returned (.bool true) ∧ Keep [] w w' := by
  refine calls_tree hm Tryz.func3 (d3_ok s) ?_
  unfold d3
  obtain ⟨c, p, e, hv⟩ := parseV_shape s
  refine wCall (parse_c s w) ?_
  rintro x w1 ⟨rfl, hk1⟩
  refine ⟨(c, p, e, ()), by rw [hv]; rfl, ?_⟩
  have H : ST w [] w1 [] := (ST.nil [] w).made hk1
  refine wN H fun p1 w2 h1 H => ?_
  refine wSA H 0 rfl rfl rfl rfl fun w3 H => ?_
  refine wCall (parse_r s w3) ?_
  rintro x w4 ⟨rfl, hk4⟩
  refine ⟨(c, p, e, ()), by rw [hv]; rfl, ?_⟩
  have H := H.made hk4
  refine wN H fun p3 w5 h5 H => ?_
  refine wSA H 1 rfl rfl rfl rfl fun w6 H => ?_
  refine wBlk ?_
  refine wLA H 0 c rfl rfl rfl ?_
  refine wLA H 1 c rfl rfl rfl ?_
  refine wOp (true, ()) (cfg_eq c _ _ w6) rfl ?_
  refine wIft rfl (wIft (by simp) ?_)
  refine wJump (_, ()) rfl (wRet ⟨?_, H.keep⟩)
  show Ending.returned (.bool (e == e)) = _
  simp

end Go.Proofs.Cf
