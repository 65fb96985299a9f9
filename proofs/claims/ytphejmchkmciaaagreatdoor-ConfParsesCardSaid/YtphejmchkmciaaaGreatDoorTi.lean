/- The reference's reader of a file: where it stands, the next token, a mark. -/
import Derived.Test.YtphejmchkmciaaaGreatDoorTh
import Derived.Test.YtphejmchkmciaaaGreatDoorSo
set_option maxRecDepth 100000
set_option linter.unusedVariables false
namespace Go.Proofs.Cf
open Go.WF

/-- The values' cells. -/
def valsC (st : St) : List Value := [.string st.nm, .string st.sc, .int .i64 (st.is 0), .int .i64 (st.is 1), .int .i64 (st.is 2), .int .i64 (st.is 3), .int .i64 (st.is 4), .int .i64 (st.is 5), .int .i64 (st.is 6), .int .i64 (st.is 7), .int .i64 (st.is 8), .int .i64 (st.is 9), .int .i64 (st.is 10), .int .i64 (st.is 11), .int .i64 (st.is 12), .int .i64 (st.is 13), .int .i64 (st.is 14), .int .i64 (st.is 15),
  .bool (st.th 0), .bool (st.th 1), .bool (st.th 2), .bool (st.th 3), .bool (st.th 4), .bool (st.th 5), .bool (st.th 6), .bool (st.th 7), .bool (st.th 8), .bool (st.th 9), .bool (st.th 10), .bool (st.th 11), .bool (st.th 12), .bool (st.th 13), .bool (st.th 14), .bool (st.th 15), .bool st.sth]

/-- .. as the values of a walk. -/
def valsV (st : St) : Ty40 := (st.nm, st.sc, st.is 0, st.is 1, st.is 2, st.is 3, st.is 4, st.is 5, st.is 6, st.is 7, st.is 8, st.is 9, st.is 10, st.is 11, st.is 12, st.is 13, st.is 14, st.is 15, st.th 0, st.th 1, st.th 2, st.th 3, st.th 4, st.th 5, st.th 6, st.th 7, st.th 8, st.th 9, st.th 10, st.th 11, st.th 12, st.th 13, st.th 14, st.th 15, st.sth, ())

theorem valsV_C (st : St) : bencs K40 (valsV st) = valsC st := rfl

/-- The file's cells. -/
def fileC (L : Sl) (i : Nat) (st : St) (bad pos : Int) : List Value := .slice L.a L.len L.cap :: .int .i64 (i : Int) :: (valsC st ++ [.int .i64 bad, .int .i64 pos])

abbrev FiL (f : Nat) (L : Sl) (i : Nat) (st : St) (bad pos : Int) : Nat × Obj := (f, cellsO (fileC L i st bad pos) 42)

/-- The tokens lie elsewhere. -/
structure Toks (w : World) (L : Sl) (ts : List TK) (f : Nat) : Prop where
  ad : ∃ ad, L.a = some ad ∧ ad.block ≠ f ∧ cellsAt w ad (tksC ts)
  len : L.len = ts.length
  few : ts.length ≤ 65536

theorem Toks.keep {w w' : World} {L : Sl} {ts : List TK} {f : Nat} {S : List Nat} (h : Toks w L ts f) (hk : Keep S w w') (hs : ∀ x ∈ S, x = f) : Toks w' L ts f := by
  obtain ⟨ad, h1, h2, h3⟩ := h.ad
  exact ⟨⟨ad, h1, h2, cellsAt_keep hk (fun hm => h2 (hs _ hm)) h3⟩, h.len, h.few⟩

theorem tksC_at {ts : List TK} {i : Nat} {t : TK} (h : ts[i]? = some t) {j : Nat} {u : Value} (hj : (tkC t)[j]? = some u) : (tksC ts)[i * 3 + j]? = some u := by
  induction ts generalizing i with
  | nil => simp at h
  | cons t' ts ih =>
    show (tkC t' ++ tksC ts)[i * 3 + j]? = some u
    have hj3 : j < 3 := by
      rcases Nat.lt_or_ge j 3 with h' | h'
      · exact h'
      · rw [List.getElem?_eq_none (by simpa using h')] at hj; cases hj
    cases i with
    | zero =>
      simp only [List.getElem?_cons_zero, Option.some.injEq] at h
      subst h
      rw [List.getElem?_append_left (by simpa using hj3)]
      simpa using hj
    | succ i =>
      simp only [List.getElem?_cons_succ] at h
      rw [List.getElem?_append_right (by show 3 ≤ _; omega), show (i + 1) * 3 + j - (tkC t').length = i * 3 + j from by show (i + 1) * 3 + j - 3 = _; omega]
      exact ih h

theorem Toks.at {w : World} {L : Sl} {ts : List TK} {f : Nat} (h : Toks w L ts f) {i : Nat} {t : TK} (ht : ts[i]? = some t) : L.a.isSome = true ∧ cellsAt w ((L.a.getD default).add (i * 3)) (tkC t) := by
  obtain ⟨ad, h1, h2, h3⟩ := h.ad
  rw [h1]
  refine ⟨rfl, cellsAt_of (w := w) (i * 3) fun j u hj => ?_⟩
  exact cellsAt_cell h3 _ _ (tksC_at ht hj)

/-- What is left of the tokens, where the reader of characters would stand. -/
def Rem (s : ByteArray) (ts : List TK) (i p : Nat) : Prop := p ≤ s.size ∧ ∃ n, s.size - p < n ∧ ts.drop i = toks s n p

theorem Rem.here {s : ByteArray} {ts : List TK} {i p : Nat} (h : Rem s ts i p) : ts[i]? = some (tkOf s (lexS s p)) := by
  obtain ⟨_, n, hn, hd⟩ := h
  obtain ⟨n, rfl⟩ : ∃ n', n = n' + 1 := ⟨n - 1, by omega⟩
  have h0 : (ts.drop i)[0]? = some (tkOf s (lexS s p)) := by
    rw [hd, toks]
    cases hl : lexS s p with
    | tok k a v q => rfl
    | fin e pos => rfl
  simpa using h0

theorem Rem.next {s : ByteArray} {ts : List TK} {i p : Nat} (h : Rem s ts i p) {k : Int} {a : Nat} {v : ByteArray} {q : Nat} (hl : lexS s p = .tok k a v q) : Rem s ts (i + 1) q := by
  obtain ⟨_, n, hn, hd⟩ := h
  obtain ⟨n, rfl⟩ : ∃ n', n = n' + 1 := ⟨n - 1, by omega⟩
  have hq := lexS_tok hl
  refine ⟨hq.2, n, by omega, ?_⟩
  have : ts.drop (i + 1) = (ts.drop i).drop 1 := by rw [List.drop_drop]
  rw [this, hd, toks, hl]
  rfl

theorem Rem.lt {s : ByteArray} {ts : List TK} {i p : Nat} (h : Rem s ts i p) : i < ts.length := by
  have := h.here
  rcases Nat.lt_or_ge i ts.length with h' | h'
  · exact h'
  · rw [List.getElem?_eq_none h'] at this; cases this

theorem lexS_finF {s : ByteArray} {p : Nat} {eb : Bool} {pos : Nat} (h : blankTo s p < s.size) (hl : lexS s p = .fin eb pos) : eb = false := by
  unfold lexS at hl
  simp only [] at hl
  rw [if_pos h] at hl
  split at hl
  · cases hl
  · split at hl
    · cases hl
    · split at hl
      · split at hl
        · cases hl
        · cases hl; rfl
      · cases hl; rfl

theorem lexS_finT {s : ByteArray} {p pos : Nat} (h : lexS s p = .fin true pos) : pos = s.size := by
  by_cases hb : blankTo s p < s.size
  · have := lexS_finF hb h
    cases this
  · unfold lexS at h
    simp only [] at h
    rw [if_neg hb] at h
    cases h
    rfl

theorem wLoadK {R : Ending → World → Prop} {k : Kd} {a : Addr} {K : k.Ty → T} {w : World} (x : k.Ty) (h : cellsAt w a (k.cells x)) (hK : (K x).wp Tryz.prog R w) : (T.load k a K).wp Tryz.prog R w := by
  simp only [T.wp]
  exact ⟨x, h, hK⟩

abbrev tkV (t : TK) : Ty63 := (t.k, (t.a : Int), t.v, ())

theorem fail_r {f : Nat} {L : Sl} {i : Nat} {st : St} {b p : Int} {w : World} (hb : Blk w f (fileC L i st b p) 42) (e pos : Int) :
    Calls Tryz.prog 26 [.pointer (some ⟨f, 0, none⟩), .int .i64 e, .int .i64 pos].toArray w fun x w' => x = .returned (tupOf [.bool false]) ∧ Keep [f] w w' ∧ Blk w' f (fileC L i st e pos) 42 := by
  refine calls_tree hm Tryz.func26 (d26_ok ⟨f, 0, none⟩ e pos) ?_
  unfold d26
  have H : ST w [f] w [FiL f L i st b p] := ST.one hb (by simp)
  refine wS H 0 (add_mk _ _ _) rfl (by show 0 + 37 < 39; decide) rfl fun w1 H => ?_
  refine wS H 0 (add_mk _ _ _) rfl (by show 0 + 38 < 39; decide) rfl fun w2 H => ?_
  exact wRet ⟨rfl, H.keep, H.get (i := 0) rfl⟩

/-- What the next token comes to. -/
def NxR (f : Nat) (L : Sl) (i : Nat) (st : St) (w : World) (o : LR) (x : Ending) (w' : World) : Prop :=
  Keep [f] w w' ∧ match o with
    | .tok k a v _ => x = .returned (tupOf [.agg (tkC ⟨k + 2, a, v⟩).toArray, .bool true]) ∧ Blk w' f (fileC L (i + 1) st 0 0) 42
    | .fin _ pos => ∃ t, x = .returned (tupOf [.agg (tkC t).toArray, .bool false]) ∧ Blk w' f (fileC L i st 121 (pos : Int)) 42

theorem lexS_kind {s : ByteArray} {p : Nat} {k : Int} {a : Nat} {v : ByteArray} {q : Nat} (h : lexS s p = .tok k a v q) : k = 0 ∨ k = 1 ∨ k = 2 := by
  unfold lexS at h
  simp only [] at h
  split at h
  · split at h
    · cases h; exact .inl rfl
    · split at h
      · cases h; exact .inr (.inl rfl)
      · split at h
        · split at h
          · cases h; exact .inr (.inr rfl)
          · cases h
        · cases h
  · cases h

theorem next_r {s : ByteArray} {ts : List TK} {f : Nat} {L : Sl} {i p : Nat} {st : St} {w : World} (ht : Toks w L ts f) (hr : Rem s ts i p) (hb : Blk w f (fileC L i st 0 0) 42) :
    Calls Tryz.prog 25 [.pointer (some ⟨f, 0, none⟩)].toArray w (NxR f L i st w (lexS s p)) := by
  refine calls_tree hm Tryz.func25 (d25_ok ⟨f, 0, none⟩) ?_
  unfold d25
  have hlt := hr.lt
  have hfew := ht.few
  have H : ST w [f] w [FiL f L i st 0 0] := ST.one hb (by simp)
  refine wN H fun p0 w1 h0 H => ?_
  refine wD H fun w2 H => ?_
  refine wL H 0 L rfl rfl rfl ?_
  refine wL H 0 (i : Int) (add_mk _ _ _) rfl rfl ?_
  obtain ⟨ha, hc⟩ := (ht.keep H.keep (by simp)).at hr.here
  refine wChk (by rw [ha, ht.len]; simp; omega) ?_
  generalize htk : tkOf s (lexS s p) = t at hc
  rw [show ((i : Int)).toNat = i from by simp]
  refine wLoadK (k := .agg K63) (tkV t) hc ?_
  refine wN H fun p4 w3 h4 H => ?_
  have hc3 := ((ht.keep H.keep (by simp)).at hr.here).2
  rw [htk] at hc3
  have hfb : Blk w3 f (fileC L i st 0 0) 42 := H.get (i := 0) rfl
  refine wHold ?_ ?_
  · intro x hx
    simp only [List.mem_cons, List.not_mem_nil, or_false] at hx
    rcases hx with rfl | rfl | rfl
    · exact hc3
    · exact ⟨by rw [add_mk, cell_blk hfb]; rfl, trivial⟩
    · exact ⟨by rw [cell_blk hfb]; rfl, trivial⟩
  refine wSA H 2 rfl rfl rfl rfl fun w4 H => ?_
  refine wBlkK (fun xs w' => w' = w4 ∧ xs.1 = (t.k == 0 || t.k == 1)) ?_ (fun rest => ?_)
  · rintro ⟨y, ⟨⟩⟩ w' ⟨rfl, hy⟩
    simp only [] at hy
    subst hy
    refine wIf (fun hk => ?_) (fun hk => ?_)
    · have hk' : (t.k == 0 || t.k == 1) = true := hk
      refine wD H fun w5 H => ?_
      refine wLA H 2 (tkV t) rfl rfl rfl ?_
      refine wL H 2 (t.a : Int) (add_mk _ _ _) rfl rfl ?_
      refine wCall (fail_r (H.get (i := 0) rfl) 121 (t.a : Int)) ?_
      rintro x w6 ⟨rfl, hk6, hb6⟩
      refine ⟨(false, ()), rfl, ?_⟩
      have H6 := H.upd (i := 0) rfl hk6 hb6
      refine wHold ?_ ?_
      · intro x hx
        simp only [List.mem_cons, List.not_mem_nil, or_false] at hx
        subst hx
        exact cellsAt_blk (H6.get (i := 2) rfl) _ 0 (fun j u hj => by simpa using hj)
      refine wSA H6 1 rfl rfl rfl rfl fun w7 H7 => ?_
      refine wLA H7 1 (tkV t) rfl rfl rfl ?_
      refine wRet ⟨H7.keep, ?_⟩
      cases hl : lexS s p with
      | tok k a v q =>
        rw [hl] at htk
        have hkk := lexS_kind hl
        subst htk
        have : ((k + 2 == 0) || (k + 2 == 1)) = true := hk'
        simp at this
        omega
      | fin e pos =>
        refine ⟨t, rfl, ?_⟩
        have hpos : (t.a : Int) = (pos : Int) := by
          rw [hl] at htk
          subst htk
          cases e with
          | true => rw [lexS_finT hl]; rfl
          | false => rfl
        have := H7.get (i := 0) rfl
        rw [hpos] at this
        exact this
    · have hk' : (t.k == 0 || t.k == 1) = false := hk
      refine wL H 0 (i : Int) (add_mk _ _ _) rfl rfl ?_
      refine wS H 0 (add_mk _ _ _) rfl (by show 0 + 1 < 39; decide) rfl fun w5 H5 => ?_
      have e3 : IntKind.wrap .i64 ((i : Int) + 1) = ((i + 1 : Nat) : Int) := by rw [wrap64 (by omega) (by omega)]; rfl
      rw [e3] at H5
      refine wLA H5 2 (tkV t) rfl rfl rfl ?_
      refine wSA H5 1 rfl rfl rfl rfl fun w6 H6 => ?_
      refine wLA H6 1 (tkV t) rfl rfl rfl ?_
      refine wRet ⟨H6.keep, ?_⟩
      cases hl : lexS s p with
      | tok k a v q =>
        rw [hl] at htk
        subst htk
        exact ⟨rfl, H6.get (i := 0) rfl⟩
      | fin e pos =>
        rw [hl] at htk
        subst htk
        cases e <;> cases hk'
  · refine wL H 2 t.k rfl rfl rfl ?_
    refine wIf (fun h1 => wJump (_, ()) rfl (rest _ _ ⟨rfl, ?_⟩)) (fun h1 => ?_)
    · show true = _
      rw [h1]; rfl
    · refine wL H 2 t.k rfl rfl rfl ?_
      refine wJump (_, ()) rfl (rest _ _ ⟨rfl, ?_⟩)
      show (t.k == 1) = _
      rw [h1]; rfl

/-- What a part of the file's reading comes to. -/
def FileR (s : ByteArray) (ts : List TK) (L : Sl) (f : Nat) (w : World) (o : PR (Nat × St)) (x : Ending) (w' : World) : Prop :=
  Keep [f] w w' ∧ match o with
    | .ok (q, st) => x = .returned (tupOf [.bool true]) ∧ ∃ i, Rem s ts i q ∧ Blk w' f (fileC L i st 0 0) 42
    | .fault pos c => x = .returned (tupOf [.bool false]) ∧ ∃ i st, Blk w' f (fileC L i st c (pos : Int)) 42

/-- A mark that must be just that. -/
def pMark (s : ByteArray) (p : Nat) (m : ByteArray) (st : St) : PR (Nat × St) :=
  match pWant s p 1 m with
  | .ok q => .ok (q, st)
  | .fault pos c => .fault pos c

theorem mark_r {s : ByteArray} {ts : List TK} {f : Nat} {L : Sl} {i p : Nat} {st : St} {w : World} (ht : Toks w L ts f) (hr : Rem s ts i p) (hb : Blk w f (fileC L i st 0 0) 42) (m : ByteArray) :
    Calls Tryz.prog 28 [.pointer (some ⟨f, 0, none⟩), .string m].toArray w (FileR s ts L f w (pMark s p m st)) := by
  refine calls_tree hm Tryz.func28 (d28_ok ⟨f, 0, none⟩ m) ?_
  unfold d28
  refine wCall (next_r ht hr hb) ?_
  rintro x w1 ⟨hk1, hx⟩
  cases hl : lexS s p with
  | fin e pos =>
    rw [hl] at hx
    obtain ⟨t, rfl, hb1⟩ := hx
    refine ⟨(tkV t, false, ()), rfl, ?_⟩
    have H : ST w1 [f] w1 [FiL f L i st 121 pos] := ST.one hb1 (by simp)
    refine wN H fun p1 w2 h1 H => ?_
    refine wSA H 1 rfl rfl rfl rfl fun w3 H => ?_
    refine wIft rfl (wRet ⟨hk1.trans H.keep (by simp), ?_⟩)
    have : pMark s p m st = .fault pos 121 := by simp only [pMark, pWant, hl]
    rw [this]
    exact ⟨rfl, i, st, H.get (i := 0) rfl⟩
  | tok k a v q =>
    rw [hl] at hx
    obtain ⟨rfl, hb1⟩ := hx
    have hr1 := hr.next hl
    refine ⟨(tkV ⟨k + 2, a, v⟩, true, ()), rfl, ?_⟩
    have H : ST w1 [f] w1 [FiL f L (i + 1) st 0 0] := ST.one hb1 (by simp)
    refine wN H fun p1 w2 h1 H => ?_
    refine wSA H 1 rfl rfl rfl rfl fun w3 H => ?_
    refine wIff rfl ?_
    have hpm : pMark s p m st = if k = 1 ∧ v = m then .ok (q, st) else .fault a 121 := by
      simp only [pMark, pWant, hl]
      by_cases h : k = 1 ∧ v = m
      · rw [if_pos h, if_pos h]
      · rw [if_neg h, if_neg h]
    refine wBlkK (fun xs w' => w' = w3 ∧ xs.1 = !(decide (k = 1 ∧ v = m))) ?_ (fun rest => ?_)
    · rintro ⟨y, ⟨⟩⟩ w' ⟨rfl, hy⟩
      simp only [] at hy
      subst hy
      refine wIf (fun hy => ?_) (fun hy => ?_)
      · have hy' : ¬ (k = 1 ∧ v = m) := of_decide_eq_false (by rwa [Bool.not_eq_true'] at hy)
        refine wL H 1 (a : Int) (add_mk _ _ _) rfl rfl ?_
        refine wCall (fail_r (H.get (i := 0) rfl) 121 (a : Int)) ?_
        rintro x w6 ⟨rfl, hk6, hb6⟩
        refine ⟨(false, ()), rfl, wRet ⟨(hk1.trans H.keep (by simp)).trans hk6 (fun x hx _ => hx), ?_⟩⟩
        rw [hpm, if_neg hy']
        exact ⟨rfl, i + 1, st, hb6⟩
      · have hy' : k = 1 ∧ v = m := of_decide_eq_true (by rwa [Bool.not_eq_false'] at hy)
        refine wRet ⟨hk1.trans H.keep (by simp), ?_⟩
        rw [hpm, if_pos hy']
        exact ⟨rfl, i + 1, hr1, H.get (i := 0) rfl⟩
    · refine wL H 1 (k + 2) rfl rfl rfl ?_
      refine wIf (fun h1 => wJump (_, ()) rfl (rest _ _ ⟨rfl, ?_⟩)) (fun h1 => ?_)
      · have h1' : k ≠ 1 := fun e => by subst e; cases h1
        show true = _
        rw [decide_eq_false (fun h => h1' h.1)]
        rfl
      · have h1' : k = 1 := by
          have : ¬ (k + 2 ≠ 3) := fun h => by
            have h2 : (k + 2 != 3) = true := bne_iff_ne.2 h
            rw [show (k + 2 != 3) = false from h1] at h2
            cases h2
          omega
        refine wL H 1 v (add_mk _ _ _) rfl rfl ?_
        refine wJump (_, ()) rfl (rest _ _ ⟨rfl, ?_⟩)
        show (!(v.toList == m.toList)) = _
        rw [str_eq, h1']
        simp

end Go.Proofs.Cf
