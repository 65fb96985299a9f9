/- The reference reads a value. -/
import Derived.Test.YtphejmchkmciaaaGreatDoorTj
set_option maxRecDepth 100000
set_option linter.unusedVariables false
namespace Go.Proofs.Cf
open Go.WF

/-- What the words of a key come to. -/
def WordsR (k : KD) (w : World) (x : Ending) (w' : World) : Prop :=
  Keep [] w w' ∧ ∃ b1 b2 : Nat, x = .returned (tupOf [.slice (some ⟨b1, 0, none⟩) k.ws.length k.ws.length, .slice (some ⟨b2, 0, none⟩) k.ws.length k.ws.length]) ∧ Blk w' b1 (k.ws.map .string) 9 ∧ Blk w' b2 (k.vs.map (.int .i64)) 3

theorem wIfs {R : Ending → World → Prop} {a b : ByteArray} {t e : T} {w : World} (h1 : a = b → t.wp Tryz.prog R w) (h2 : a ≠ b → e.wp Tryz.prog R w) : (cond (a.toList == b.toList) t e).wp Tryz.prog R w := by
  rw [str_eq]
  exact wIf (fun h => h1 (of_decide_eq_true h)) (fun h => h2 (of_decide_eq_false h))

theorem words_r {i : Nat} (hi : i < 16) (hws : (kd i).ws ≠ []) (w : World) : Calls Tryz.prog 78 [.string (kd i).nm].toArray w (WordsR (kd i) w) := by
  have h4 : i = 0 ∨ i = 10 ∨ i = 11 ∨ i = 12 := by
    have hd : ∀ i : Fin 16, (kd i.val).ws ≠ [] → i.val = 0 ∨ i.val = 10 ∨ i.val = 11 ∨ i.val = 12 := by decide +kernel
    exact hd ⟨i, hi⟩ hws
  refine calls_tree hm Tryz.func78 (d78_ok (kd i).nm) ?_
  unfold d78
  have H : ST w [] w [] := ST.nil [] w
  refine wIfs (fun h0 => ?_) (fun h0 => ?_)
  · obtain rfl : i = 0 := kd_inj hi (by omega) h0
    refine wBuild H [.string (bs [65]), .string (bs [66]), .string (bs [67])] Tryz.underlying79 info9 (z := .string ⟨#[]⟩) rfl (by decide) (fillS3 _ _ _) fun b1 w1 hb1 H => ?_
    refine wBuild H [.int .i64 1, .int .i64 2, .int .i64 3] Tryz.underlying80 info3 (z := .int .i64 0) rfl (by decide) (fillI3 _ _ _) fun b2 w2 hb2 H => ?_
    exact wRet ⟨H.keep, b1, b2, rfl, H.get (i := 0) rfl, H.get (i := 1) rfl⟩
  refine wIfs (fun h1 => ?_) (fun h1 => ?_)
  · obtain rfl : i = 10 := kd_inj hi (by omega) h1
    refine wBuild H [.string (bs [100, 105, 115, 99, 111, 110, 110, 101, 99, 116]), .string (bs [100, 105, 115, 99, 97, 114, 100, 45, 122, 101, 114, 111, 45, 99, 104, 97, 110, 103, 101, 115]), .string (bs [100, 105, 115, 99, 97, 114, 100, 45, 108, 101, 97, 115, 116, 45, 99, 104, 97, 110, 103, 101, 115]), .string (bs [100, 105, 115, 99, 97, 114, 100, 45, 110, 111, 100, 101, 45, 48]), .string (bs [100, 105, 115, 99, 97, 114, 100, 45, 110, 111, 100, 101, 45, 49])] Tryz.underlying79 info9 (z := .string ⟨#[]⟩) rfl (by decide) (fillS5 _ _ _ _ _) fun b1 w1 hb1 H => ?_
    refine wBuild H [.int .i64 0, .int .i64 1, .int .i64 2, .int .i64 3, .int .i64 4] Tryz.underlying80 info3 (z := .int .i64 0) rfl (by decide) (fillI5 _ _ _ _ _) fun b2 w2 hb2 H => ?_
    exact wRet ⟨H.keep, b1, b2, rfl, H.get (i := 0) rfl, H.get (i := 1) rfl⟩
  refine wIfs (fun h2 => ?_) (fun h2 => ?_)
  · obtain rfl : i = 11 := kd_inj hi (by omega) h2
    refine wBuild H [.string (bs [100, 105, 115, 99, 111, 110, 110, 101, 99, 116]), .string (bs [100, 105, 115, 99, 97, 114, 100, 45, 115, 101, 99, 111, 110, 100, 97, 114, 121]), .string (bs [99, 111, 110, 115, 101, 110, 115, 117, 115])] Tryz.underlying79 info9 (z := .string ⟨#[]⟩) rfl (by decide) (fillS3 _ _ _) fun b1 w1 hb1 H => ?_
    refine wBuild H [.int .i64 0, .int .i64 5, .int .i64 6] Tryz.underlying80 info3 (z := .int .i64 0) rfl (by decide) (fillI3 _ _ _) fun b2 w2 hb2 H => ?_
    exact wRet ⟨H.keep, b1, b2, rfl, H.get (i := 0) rfl, H.get (i := 1) rfl⟩
  refine wIfs (fun h3 => ?_) (fun h3 => ?_)
  · obtain rfl : i = 12 := kd_inj hi (by omega) h3
    refine wBuild H [.string (bs [100, 105, 115, 99, 111, 110, 110, 101, 99, 116])] Tryz.underlying79 info9 (z := .string ⟨#[]⟩) rfl (by decide) (fillS1 _) fun b1 w1 hb1 H => ?_
    refine wBuild H [.int .i64 0] Tryz.underlying80 info3 (z := .int .i64 0) rfl (by decide) (fillI1 _) fun b2 w2 hb2 H => ?_
    exact wRet ⟨H.keep, b1, b2, rfl, H.get (i := 0) rfl, H.get (i := 1) rfl⟩
  exfalso
  rcases h4 with rfl | rfl | rfl | rfl
  · exact h0 rfl
  · exact h1 rfl
  · exact h2 rfl
  · exact h3 rfl

theorem value_r {i : Nat} (hi : i < 16) (k : Int) (a : Nat) (v : ByteArray) (hv : v.size ≤ 65536) (w : World) :
    Calls Tryz.prog 69 [.agg (bencs K73 (keyV (kd i))).toArray, .agg (bencs K63 (tkV ⟨k + 2, a, v⟩)).toArray].toArray w (ReadR (if k = 0 then valK (kd i) v else none) w) := by
  obtain ⟨hk1, hk2, _⟩ := kd_num ⟨i, hi⟩
  simp only [] at hk1 hk2
  have ho := kd_ok i hi
  refine calls_tree hm Tryz.func69 (d69_ok (keyV (kd i)) (tkV ⟨k + 2, a, v⟩)) ?_
  unfold d69
  have H : ST w [] w [] := ST.nil [] w
  refine wN H fun p0 w1 h0 H => ?_
  refine wN H fun p1 w2 h1 H => ?_
  refine wL H 1 (k + 2) rfl rfl rfl ?_
  refine wIf (fun h1 => ?_) (fun h1 => ?_)
  · have h1' : k ≠ 0 := fun e => by subst e; cases h1
    refine wRet ⟨H.keep, 0, false, rfl, ?_⟩
    rw [if_neg h1']
    rfl
  have h1' : k = 0 := by
    have : ¬ (k + 2 ≠ 2) := fun h => by
      have h2 : (k + 2 != 2) = true := bne_iff_ne.2 h
      rw [show (k + 2 != 2) = false from h1] at h2
      cases h2
    omega
  rw [if_pos h1']
  refine wL H 0 (kd i).hi (add_mk _ _ _) rfl rfl ?_
  by_cases hws : (kd i).ws = []
  · refine wIft (decide_eq_true (hk1 hws).1) ?_
    have hlo := (hk1 hws).2
    have hval : valK (kd i) v = match numV v with
        | some n => if ((kd i).lo ≤ n ∧ n ≤ (kd i).hi) ∧ ((kd i).sz = true → n = 128 ∨ n = 256 ∨ n = 512 ∨ n = 1024) then some n else none
        | none => none := by
      unfold valK
      rw [hws]
      rfl
    refine wL H 1 v (add_mk _ _ _) rfl rfl ?_
    refine wG (read_r hv) (_, ()) rfl ?_
    refine wLA H 0 (keyV (kd i)) rfl rfl rfl ?_
    refine wCall (fits_r hi hws _ w2) ?_
    rintro x w3 ⟨rfl, hk3⟩
    refine ⟨(_, ()), rfl, wRet ⟨H.keep.trans hk3 (by simp), _, _, rfl, ?_⟩⟩
    rw [hval]
    cases hn : numV v with
    | none =>
      rw [decide_eq_false]
      · rfl
      · show ¬ (((kd i).lo ≤ (-1 : Int) ∧ (-1 : Int) ≤ (kd i).hi) ∧ _)
        omega
    | some n =>
      show (if _ then some n else none) = if (decide _ = true) then some n else none
      simp only [decide_eq_true_eq]
      rfl
  · refine wIff (by rw [show (decide ((kd i).hi > 0)) = false from decide_eq_false (by rw [hk2 hws]; omega)]) ?_
    have hval : valK (kd i) v = wordV v (kd i).ws (kd i).vs := by
      unfold valK
      cases hws' : (kd i).ws with
      | nil => exact absurd hws' hws
      | cons x xs => rfl
    rw [hval]
    refine wL H 0 (kd i).nm rfl rfl rfl ?_
    refine wCall (words_r hi hws w2) ?_
    rintro x w3 ⟨hk3, b1, b2, rfl, hb1, hb2⟩
    refine ⟨(⟨some ⟨b1, 0, none⟩, (kd i).ws.length, (kd i).ws.length⟩, ⟨some ⟨b2, 0, none⟩, (kd i).ws.length, (kd i).ws.length⟩, ()), rfl, ?_⟩
    have H3 := H.made hk3
    generalize kd i = kk at *
    refine wLoop (fun n xs w2 => ∃ i : Nat, xs = ((i : Int), ()) ∧ i ≤ kk.ws.length ∧ n = kk.ws.length - i ∧ Keep [] w3 w2 ∧ wordV v kk.ws kk.vs = wordV v (kk.ws.drop i) (kk.vs.drop i)) kk.ws.length ((0 : Int), ()) rfl ⟨0, rfl, by omega, rfl, Keep.refl _ _, rfl⟩ ?_
    rintro n _ w4 ⟨j, rfl, hj, rfl, hk4, hf⟩
    have H4 := H3.made hk4
    have hb1 := hk4.blk hb1 (by simp)
    have hb2 := hk4.blk hb2 (by simp)
    refine wIf (fun hlt => ?_) (fun hge => ?_)
    · have hlt' : j < kk.ws.length := by
        have h : (j : Int) < (kk.ws.length : Int) := of_decide_eq_true hlt
        omega
      have hvl : j < kk.vs.length := by rw [← ho.len]; exact hlt'
      have hch : ∀ b : Nat, ((some (⟨b, 0, none⟩ : Addr)).isSome && decide (0 ≤ (j : Int) ∧ (j : Int) < (kk.ws.length : Int))) = true := fun b => by simp; omega
      have hdw : kk.ws.drop j = kk.ws[j] :: kk.ws.drop (j + 1) := List.drop_eq_getElem_cons hlt'
      have hdv : kk.vs.drop j = kk.vs[j] :: kk.vs.drop (j + 1) := List.drop_eq_getElem_cons hvl
      have ha : ∀ b : Nat, (⟨b, 0, none⟩ : Addr).add (((j : Int)).toNat * 1) = ⟨b, j, none⟩ := fun b => by rw [add_mk]; simp
      refine wDraw ?_
      have H5 := H4.drew
      refine wChk (hch b1) ?_
      refine wLoad1 (o := j) (show Blk w4.drew b1 _ 9 from hb1) kk.ws[j] (ha b1) (by simp [hlt']; rfl) ?_
      refine wL H5 1 v (add_mk _ _ _) rfl rfl ?_
      refine wIfs (fun h3 => ?_) (fun h3 => ?_)
      · refine wChk (hch b2) ?_
        refine wLoad1 (o := j) (show Blk w4.drew b2 _ 3 from hb2) kk.vs[j] (ha b2) (by simp [hvl]; rfl) ?_
        refine wRet ⟨H5.keep, kk.vs[j], true, rfl, ?_⟩
        rw [hf, hdw, hdv]
        simp [wordV, h3]
      · have e3 : IntKind.wrap .i64 ((j : Int) + 1) = ((j + 1 : Nat) : Int) := by
          have := ho.few
          rw [wrap64 (by omega) (by omega)]; rfl
        refine wJump (((j + 1 : Nat) : Int), ()) ?_ ⟨kk.ws.length - (j + 1), by omega, j + 1, rfl, by omega, rfl, hk4.drew, ?_⟩
        · show [Value.int .i64 (IntKind.wrap .i64 ((j : Int) + 1))] = _
          rw [e3]; rfl
        · rw [hf, hdw, hdv]
          simp [wordV, h3]
    · have hge' : j = kk.ws.length := by
        have h : ¬ (j : Int) < (kk.ws.length : Int) := of_decide_eq_false hge
        omega
      subst hge'
      refine wRet ⟨H4.keep, 0, false, rfl, ?_⟩
      rw [hf, List.drop_length]
      rfl

/-- What comes next in a section: its end, a word, or a fault. -/
inductive PP where
  | close (a q : Nat)
  | word (a : Nat) (v : ByteArray) (q : Nat)
  | fault (pos : Nat) (code : Int)

def pPart (s : ByteArray) (p : Nat) : PP :=
  match lexS s p with
  | .tok k a v q => if k = 1 ∧ v = closeS then .close a q else if k ≠ 0 then .fault a 121 else .word a v q
  | .fin _ pos => .fault pos 121

def PartR (s : ByteArray) (ts : List TK) (L : Sl) (f : Nat) (st : St) (w : World) (o : PP) (x : Ending) (w' : World) : Prop :=
  Keep [f] w w' ∧ match o with
    | .close a q => ∃ t : TK, t.a = a ∧ x = .returned (tupOf [.agg (tkC t).toArray, .bool true, .bool true]) ∧ ∃ i, Rem s ts i q ∧ Blk w' f (fileC L i st 0 0) 42
    | .word a v q => x = .returned (tupOf [.agg (tkC ⟨2, a, v⟩).toArray, .bool false, .bool true]) ∧ ∃ i, Rem s ts i q ∧ Blk w' f (fileC L i st 0 0) 42
    | .fault pos c => ∃ t, x = .returned (tupOf [.agg (tkC t).toArray, .bool false, .bool false]) ∧ ∃ i, Blk w' f (fileC L i st c (pos : Int)) 42

theorem part_r {s : ByteArray} {ts : List TK} {f : Nat} {L : Sl} {i p : Nat} {st : St} {w : World} (ht : Toks w L ts f) (hr : Rem s ts i p) (hb : Blk w f (fileC L i st 0 0) 42) :
    Calls Tryz.prog 42 [.pointer (some ⟨f, 0, none⟩)].toArray w (PartR s ts L f st w (pPart s p)) := by
  refine calls_tree hm Tryz.func42 (d42_ok ⟨f, 0, none⟩) ?_
  unfold d42
  have H0 : ST w [f] w [FiL f L i st 0 0] := ST.one hb (by simp)
  refine wN H0 fun p0 w0 h0 H0 => ?_
  have hp0 : p0 ≠ f := fun e => by
    have := lt_of_obj (H0.get (i := 0) rfl)
    have h2 := H0.nodup
    simp at h2
    exact h2 e.symm
  refine wCall (next_r (ht.keep H0.keep (by simp)) hr (H0.get (i := 0) rfl)) ?_
  rintro x w1 ⟨hk1, hx⟩
  cases hl : lexS s p with
  | fin e pos =>
    rw [show pPart s p = .fault pos 121 from by simp only [pPart, hl]]
    rw [hl] at hx
    obtain ⟨t, rfl, hb1⟩ := hx
    refine ⟨(tkV t, false, ()), rfl, ?_⟩
    have H := H0.upd (i := 0) rfl hk1 hb1
    refine wN H fun p1 w2 h1 H => ?_
    refine wSA H 2 rfl rfl rfl rfl fun w3 H => ?_
    refine wIft rfl ?_
    refine wLA H 2 (tkV t) rfl rfl rfl ?_
    refine wSA H 1 rfl rfl rfl rfl fun w4 H => ?_
    refine wLA H 1 (tkV t) rfl rfl rfl ?_
    exact wRet ⟨H.keep, t, rfl, i, H.get (i := 0) rfl⟩
  | tok k a v q =>
    rw [hl] at hx
    obtain ⟨rfl, hb1⟩ := hx
    have hr1 := hr.next hl
    refine ⟨(tkV ⟨k + 2, a, v⟩, true, ()), rfl, ?_⟩
    have H := H0.upd (i := 0) rfl hk1 hb1
    refine wN H fun p1 w2 h1 H => ?_
    refine wSA H 2 rfl rfl rfl rfl fun w3 H => ?_
    refine wIff rfl ?_
    refine wBlkK (fun xs w' => w' = w3 ∧ xs.1 = decide (k = 1 ∧ v = closeS)) ?_ (fun rest => ?_)
    · rintro ⟨y, ⟨⟩⟩ w' ⟨rfl, hy⟩
      simp only [] at hy
      subst hy
      refine wIf (fun hy => ?_) (fun hy => ?_)
      · have hy' := of_decide_eq_true hy
        refine wLA H 2 (tkV ⟨k + 2, a, v⟩) rfl rfl rfl ?_
        refine wSA H 1 rfl rfl rfl rfl fun w4 H => ?_
        refine wLA H 1 (tkV ⟨k + 2, a, v⟩) rfl rfl rfl ?_
        refine wRet ⟨H.keep, ?_⟩
        rw [show pPart s p = .close a q from by simp only [pPart, hl]; rw [if_pos hy']]
        exact ⟨⟨k + 2, a, v⟩, rfl, rfl, i + 1, hr1, H.get (i := 0) rfl⟩
      · have hy' := of_decide_eq_false hy
        refine wL H 2 (k + 2) rfl rfl rfl ?_
        refine wIf (fun h2 => ?_) (fun h2 => ?_)
        · have h2' : k ≠ 0 := fun e => by subst e; cases h2
          refine wD H fun w4 H => ?_
          refine wLA H 2 (tkV ⟨k + 2, a, v⟩) rfl rfl rfl ?_
          refine wL H 2 (a : Int) (add_mk _ _ _) rfl rfl ?_
          refine wCall (fail_r (H.get (i := 0) rfl) 121 (a : Int)) ?_
          rintro x w6 ⟨rfl, hk6, hb6⟩
          refine ⟨(false, ()), rfl, ?_⟩
          have H6 := H.upd (i := 0) rfl hk6 hb6
          refine wHold ?_ ?_
          · intro x hx
            simp only [List.mem_cons, List.not_mem_nil, or_false] at hx
            subst hx
            exact cellsAt_blk (H6.get (i := 2) rfl) _ 0 (fun j u hj => by simpa using hj)
          refine wSA H6 1 rfl rfl rfl rfl fun w7 H7 => ?_
          refine wLA H7 1 (tkV ⟨k + 2, a, v⟩) rfl rfl rfl ?_
          refine wRet ⟨H7.keep, ?_⟩
          rw [show pPart s p = .fault a 121 from by simp only [pPart, hl]; rw [if_neg hy', if_pos h2']]
          exact ⟨⟨k + 2, a, v⟩, rfl, i + 1, H7.get (i := 0) rfl⟩
        · have h2' : k = 0 := by
            have : ¬ (k + 2 ≠ 2) := fun h => by
              have h3 : (k + 2 != 2) = true := bne_iff_ne.2 h
              rw [show (k + 2 != 2) = false from h2] at h3
              cases h3
            omega
          refine wLA H 2 (tkV ⟨k + 2, a, v⟩) rfl rfl rfl ?_
          refine wSA H 1 rfl rfl rfl rfl fun w4 H => ?_
          refine wLA H 1 (tkV ⟨k + 2, a, v⟩) rfl rfl rfl ?_
          refine wRet ⟨H.keep, ?_⟩
          rw [show pPart s p = .word a v q from by simp only [pPart, hl]; rw [if_neg hy', if_neg (by simp [h2'])]]
          subst h2'
          exact ⟨rfl, i + 1, hr1, H.get (i := 0) rfl⟩
    · refine wL H 2 (k + 2) rfl rfl rfl ?_
      refine wIf (fun h1 => ?_) (fun h1 => wJump (_, ()) rfl (rest _ _ ⟨rfl, ?_⟩))
      · have h1' : k = 1 := by
          have : k + 2 = 3 := (beq_iff_eq).1 h1
          omega
        refine wL H 2 v (add_mk _ _ _) rfl rfl ?_
        refine wJump (_, ()) rfl (rest _ _ ⟨rfl, ?_⟩)
        show (v.toList == closeS.toList) = _
        rw [str_eq, h1']
        simp
      · have h1' : k ≠ 1 := fun e => by subst e; cases h1
        show false = _
        rw [decide_eq_false (fun h => h1' h.1)]

end Go.Proofs.Cf
