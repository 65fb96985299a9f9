/- The reference reads the resource's parts, and lays the Config out. -/
import Derived.Test.YtphejmchkmciaaaGreatDoorTl
import Derived.Test.YtphejmchkmciaaaGreatDoorSq
set_option maxRecDepth 100000
set_option linter.unusedVariables false
namespace Go.Proofs.Cf
open Go.WF

theorem together_r (nm sc : ByteArray) (f : Nat → Int) (w : World) : Calls Tryz.prog 30 [.agg (bencs K23 (cfgV nm sc f)).toArray].toArray w fun x w' => x = .returned (tupOf [.bool (togB f)]) ∧ Keep [] w w' := by
  refine calls_tree hm Tryz.func30 (d30_ok (cfgV nm sc f)) ?_
  unfold d30
  have H : ST w [] w [] := ST.nil [] w
  refine wN H fun b w1 hb H => ?_
  refine wBlk ?_
  refine wL H 0 (f 7) (add_mk _ _ _) rfl rfl ?_
  refine wL H 0 (f 6) (add_mk _ _ _) rfl rfl ?_
  refine wIf (fun h => ?_) (fun h => ?_)
  · refine wL H 0 (f 5) (add_mk _ _ _) rfl rfl ?_
    refine wL H 0 (f 15) (add_mk _ _ _) rfl rfl ?_
    refine wL H 0 (f 9) (add_mk _ _ _) rfl rfl ?_
    refine wL H 0 (f 8) (add_mk _ _ _) rfl rfl ?_
    refine wJump (_, ()) rfl (wRet ⟨?_, H.keep⟩)
    unfold togB
    rw [h, Bool.true_and]
  · refine wJump (_, ()) rfl (wRet ⟨?_, H.keep⟩)
    unfold togB
    rw [h, Bool.false_and]

theorem valsC_key (st : St) (j : Nat) (hj : j < 16) :
    (∀ n : Int, (valsC st).set (2 + j) (.int .i64 n) = valsC { st with is := upd st.is j n }) ∧ (valsC st)[18 + j]? = some (.bool (st.th j)) ∧ (valsC st).length = 35 := by
  match j, hj with
  | 0, _ | 1, _ | 2, _ | 3, _ | 4, _ | 5, _ | 6, _ | 7, _ | 8, _ | 9, _ | 10, _ | 11, _ | 12, _ | 13, _ | 14, _ | 15, _ => exact ⟨fun n => rfl, rfl, rfl⟩
  | n + 16, h => exact absurd h (by omega)

/-- The values with the first i of them laid out. -/
def midS (st : St) (i : Nat) : St := { st with is := fun j => if j < i then fullV st j else st.is j }

theorem midS_zero (st : St) : midS st 0 = st := by
  simp [midS]

theorem midS_step (st : St) (i : Nat) : midS st (i + 1) = { midS st i with is := upd (midS st i).is i (fullV st i) } := by
  simp only [midS, St.mk.injEq, true_and, and_true]
  funext j
  simp only [upd]
  by_cases h1 : j = i
  · subst h1; simp
  · by_cases h2 : j < i
    · rw [if_pos (by omega), if_neg h1, if_pos h2]
    · rw [if_neg (by omega), if_neg h1, if_neg h2]

theorem midS_there (st : St) (i : Nat) (h : st.th i = true) : midS st (i + 1) = midS st i := by
  simp only [midS, St.mk.injEq, true_and, and_true]
  funext j
  by_cases h1 : j = i
  · subst h1; simp [fullV, h]
  · by_cases h2 : j < i
    · rw [if_pos (by omega), if_pos h2]
    · rw [if_neg (by omega), if_neg h2]

theorem config_r (st : St) (w : World) : Calls Tryz.prog 11 [.agg (bencs K40 (valsV st)).toArray].toArray w fun x w' => x = .returned (tupOf [.agg (bencs K23 (cfgV st.nm st.sc (fullV st))).toArray]) ∧ Keep [] w w' := by
  refine calls_tree hm Tryz.func11 (d11_ok (valsV st)) ?_
  unfold d11
  have H : ST w [] w [] := ST.nil [] w
  refine wN H fun p0 w1 h0 H => ?_
  refine wN H fun p1 w2 h1 H => ?_
  refine wCall (table_r w2) ?_
  rintro x w3 ⟨rfl, hk3⟩
  refine ⟨(tabV, ()), rfl, ?_⟩
  have H := H.made hk3
  refine wN H fun p3 w4 h3 H => ?_
  refine wSA H 2 rfl rfl rfl rfl fun w5 H => ?_
  refine wLoop (fun m xs w' => ∃ i : Nat, xs = ((i : Int), ()) ∧ i ≤ 16 ∧ m = 16 - i ∧ ST w [] w' [(p0, cellsO (valsC (midS st i)) 40), (p1, cellsO Z23 23), (p3, cellsO (bencs K74 tabV) 74)]) 16 ((0 : Int), ()) rfl ⟨0, rfl, by omega, rfl, by rw [midS_zero]; exact H⟩ ?_
  rintro m _ w6 ⟨i, rfl, hi, rfl, H⟩
  refine wIf (fun hlt => ?_) (fun hge => ?_)
  · have hlt' : i < 16 := by
      have h : (i : Int) < 16 := of_decide_eq_true hlt
      omega
    have hch : decide (0 ≤ (i : Int) ∧ (i : Int) < (16 : Int)) = true := by simp; omega
    have e1 : ((i : Int)).toNat = i := by simp
    have e3 : IntKind.wrap .i64 ((i : Int) + 1) = ((i + 1 : Nat) : Int) := by rw [wrap64 (by omega) (by omega)]; rfl
    obtain ⟨hset, hth, hlen⟩ := valsC_key (midS st i) i hlt'
    refine wBlkK (fun xs w' => ST w [] w' [(p0, cellsO (valsC (midS st (i + 1))) 40), (p1, cellsO Z23 23), (p3, cellsO (bencs K74 tabV) 74)]) ?_ (fun rest => ?_)
    · rintro ⟨⟩ w' H
      refine wJump (((i + 1 : Nat) : Int), ()) ?_ ⟨16 - (i + 1), by omega, i + 1, rfl, by omega, rfl, H⟩
      show [Value.int .i64 (IntKind.wrap .i64 ((i : Int) + 1))] = _
      rw [e3]; rfl
    · refine wChk hch ?_
      refine wL H 0 (o := 18 + i) (st.th i) (by show ((⟨p0, 0, none⟩ : Addr).add 18).add (((i : Int)).toNat * 1) = _; rw [e1, add_mk, add_mk]; simp) rfl hth ?_
      refine wIf (fun h1 => ?_) (fun h1 => ?_)
      · have h1' : st.th i = false := by simpa using h1
        refine wChk hch ?_
        refine wL H 2 (o := i * 5 + 4) (kd i).dflt (by show ((⟨p3, 0, none⟩ : Addr).add (((i : Int)).toNat * 5)).add 4 = _; rw [e1, add_mk, add_mk, Nat.zero_add]) rfl (tab_at i hlt' 4 _ rfl) ?_
        refine wChk hch ?_
        refine wS H 0 (o := 2 + i) (by show ((⟨p0, 0, none⟩ : Addr).add 2).add (((i : Int)).toNat * 1) = _; rw [e1, add_mk, add_mk]; simp) rfl (by rw [hlen]; omega) rfl fun w7 H => ?_
        refine wJump () rfl (rest () _ ?_)
        have e4 : fullV st i = (kd i).dflt := by simp [fullV, h1']
        rw [midS_step, e4, ← hset]
        exact H
      · have h1' : st.th i = true := by simpa using h1
        refine wJump () rfl (rest () _ ?_)
        rw [midS_there st i h1']
        exact H
  · have hge' : i = 16 := by
      have h : ¬ (i : Int) < 16 := of_decide_eq_false hge
      omega
    subst hge'
    refine wLoadN (k := .agg K37) (H.get (i := 0) rfl) (o := 0 + 2) ((fullV st 0), (fullV st 1), (fullV st 2), (fullV st 3), (fullV st 4), (fullV st 5), (fullV st 6), (fullV st 7), (fullV st 8), (fullV st 9), (fullV st 10), (fullV st 11), (fullV st 12), (fullV st 13), (fullV st 14), (fullV st 15), ()) (add_mk _ _ _) (fun j v hj => ?_) ?_
    · match j, hj with
      | 0, hj | 1, hj | 2, hj | 3, hj | 4, hj | 5, hj | 6, hj | 7, hj | 8, hj | 9, hj | 10, hj | 11, hj | 12, hj | 13, hj | 14, hj | 15, hj => exact hj
      | n + 16, hj => exact absurd (show none = some v from hj) (by intro h; cases h)
    refine wN H fun p11 w7 h11 H => ?_
    refine wSA H 3 rfl rfl rfl rfl fun w8 H => ?_
    refine wL H 0 st.nm rfl rfl rfl ?_
    refine wL H 0 st.sc (add_mk _ _ _) rfl rfl ?_
    refine wChk (by decide) (wL H 3 (fullV st 0) (add_mk _ _ _) rfl rfl ?_)
    refine wChk (by decide) (wL H 3 (fullV st 1) (add_mk _ _ _) rfl rfl ?_)
    refine wChk (by decide) (wL H 3 (fullV st 2) (add_mk _ _ _) rfl rfl ?_)
    refine wChk (by decide) (wL H 3 (fullV st 3) (add_mk _ _ _) rfl rfl ?_)
    refine wChk (by decide) (wL H 3 (fullV st 4) (add_mk _ _ _) rfl rfl ?_)
    refine wChk (by decide) (wL H 3 (fullV st 5) (add_mk _ _ _) rfl rfl ?_)
    refine wChk (by decide) (wL H 3 (fullV st 6) (add_mk _ _ _) rfl rfl ?_)
    refine wChk (by decide) (wL H 3 (fullV st 7) (add_mk _ _ _) rfl rfl ?_)
    refine wChk (by decide) (wL H 3 (fullV st 8) (add_mk _ _ _) rfl rfl ?_)
    refine wChk (by decide) (wL H 3 (fullV st 9) (add_mk _ _ _) rfl rfl ?_)
    refine wChk (by decide) (wL H 3 (fullV st 10) (add_mk _ _ _) rfl rfl ?_)
    refine wChk (by decide) (wL H 3 (fullV st 11) (add_mk _ _ _) rfl rfl ?_)
    refine wChk (by decide) (wL H 3 (fullV st 12) (add_mk _ _ _) rfl rfl ?_)
    refine wChk (by decide) (wL H 3 (fullV st 13) (add_mk _ _ _) rfl rfl ?_)
    refine wChk (by decide) (wL H 3 (fullV st 14) (add_mk _ _ _) rfl rfl ?_)
    refine wChk (by decide) (wL H 3 (fullV st 15) (add_mk _ _ _) rfl rfl ?_)
    refine wSA H 1 rfl rfl rfl rfl fun w9 H => ?_
    refine wLA H 1 (cfgV st.nm st.sc (fullV st)) rfl rfl rfl ?_
    exact wRet ⟨rfl, H.keep⟩

/-- A part of the resource. -/
def pBody (s : ByteArray) (q : Nat) (v : ByteArray) (st : St) : PR (Nat × St) :=
  if v = protocolS then pValue s q (some 0) st else
  match pWant s q 1 openS with
  | .ok q' => pSection s v (s.size + 1) q' st
  | .fault pos c => .fault pos c

theorem pRes_step (s : ByteArray) (n p : Nat) (seen : List ByteArray) (st : St) : pRes s (n + 1) p seen st = match pPart s p with
    | .close a q => .ok (a, q, st)
    | .fault pos c => .fault pos c
    | .word a v q => if v ≠ protocolS ∧ v ≠ deviceS ∧ v ≠ netS ∧ v ≠ syncerS then .fault a 122 else
      if hasK seen v = true then .fault a 123 else
      match pBody s q v st with
      | .ok (q', st') => pRes s n q' (seen ++ [v]) st'
      | .fault pos c => .fault pos c := by
  rw [pRes, pPart]
  cases hl : lexS s p with
  | fin e pos => rfl
  | tok k a v q =>
    simp only []
    by_cases h1 : k = 1 ∧ v = closeS
    · rw [if_pos h1, if_pos h1]
    · rw [if_neg h1, if_neg h1]
      by_cases h2 : k ≠ 0
      · rw [if_pos h2, if_pos h2]
      · rw [if_neg h2, if_neg h2]
        simp only []
        by_cases h3 : v ≠ protocolS ∧ v ≠ deviceS ∧ v ≠ netS ∧ v ≠ syncerS
        · rw [if_pos h3, if_pos h3]
        · rw [if_neg h3, if_neg h3]
          by_cases h4 : hasK seen v = true
          · rw [if_pos h4, if_pos h4]
          · rw [if_neg h4, if_neg h4]
            by_cases h5 : v = protocolS
            · rw [if_pos h5, pBody, if_pos h5]
              cases pValue s q (some 0) st <;> rfl
            · rw [if_neg h5, pBody, if_neg h5]
              cases pWant s q 1 openS with
              | ok q' => cases hh : pSection s v (s.size + 1) q' st <;> simp only [hh]
              | fault pos c => rfl

theorem pBody_ok {s : ByteArray} {q : Nat} {v : ByteArray} {st st' : St} {q' : Nat} (h : pBody s q v st = .ok (q', st')) : q < q' ∧ q' ≤ s.size := by
  unfold pBody at h
  split at h
  · have := pValue_ok h; exact ⟨this.1, this.2.1⟩
  · cases hw : pWant s q 1 openS with
    | ok q1 =>
      rw [hw] at h
      have h1 := pWant_ok hw
      have h2 := pSection_ok h
      omega
    | fault pos c => rw [hw] at h; cases h

/-- What the reading of the parts comes to. -/
def ResR (s : ByteArray) (ts : List TK) (L : Sl) (f : Nat) (w : World) (o : PR (Nat × Nat × St)) (x : Ending) (w' : World) : Prop :=
  Keep [f] w w' ∧ match o with
    | .ok (a, q, st) => x = .returned (tupOf [.int .i64 (a : Int), .bool true]) ∧ ∃ i, Rem s ts i q ∧ Blk w' f (fileC L i st 0 0) 42
    | .fault pos c => ∃ n : Int, x = .returned (tupOf [.int .i64 n, .bool false]) ∧ ∃ i st, Blk w' f (fileC L i st c (pos : Int)) 42

theorem rowSome {w : World} {base e size n : Nat} {v : Sl} {xs : List Value} (h : Row base w e size v n xs) (hn : 0 < n) : v.a.isSome = true := by
  rcases h.2 with ⟨_, h0⟩ | ⟨g, cap, cur, hv, _⟩
  · omega
  · simp only [Value.slice.injEq] at hv
    rw [hv.1]
    rfl

theorem hasK_at {ks : List ByteArray} {v : ByteArray} {j : Nat} (h : ks[j]? = some v) : hasK ks v = true := by
  simp only [hasK, List.any_eq_true, decide_eq_true_eq]
  exact ⟨v, List.mem_of_getElem? h, rfl⟩

theorem hasK_take {ks : List ByteArray} {v x : ByteArray} {j : Nat} (h : ks[j]? = some x) (hx : x ≠ v) (hp : hasK (ks.take j) v = false) : hasK (ks.take (j + 1)) v = false := by
  rw [List.take_add_one, h]
  simp only [Option.toList_some]
  rw [hasK_snoc, hp, decide_eq_false (fun e => hx e.symm)]
  rfl

theorem resource_r {s : ByteArray} (hs : s.size ≤ 4096) {ts : List TK} {f : Nat} {L : Sl} {i p : Nat} {st : St} {w : World} (ht : Toks w L ts f) (hr : Rem s ts i p) (hb : Blk w f (fileC L i st 0 0) 42) (n : Nat) (hn : s.size - p < n) :
    Calls Tryz.prog 29 [.pointer (some ⟨f, 0, none⟩)].toArray w (ResR s ts L f w (pRes s n p [] st)) := by
  refine calls_tree hm Tryz.func29 (d29_ok ⟨f, 0, none⟩) ?_
  unfold d29
  refine wCall (table_r w) ?_
  rintro x w1 ⟨rfl, hk1⟩
  refine ⟨(tabV, ()), rfl, ?_⟩
  have H : ST w [f] w [FiL f L i st 0 0] := ST.one hb (by simp)
  have H := H.made hk1
  refine wN H fun p1 w2 h1 H => ?_
  refine wSA H 1 rfl rfl rfl rfl fun w3 H => ?_
  have hp1 := lt_of_obj (H.get (i := 1) rfl)
  have hfw : f < w.heap.size := hb.lt
  have hw3 := H.keep.size
  have hpf : p1 ≠ f := fun e => by
    have h2 := H.nodup
    simp at h2
    exact h2 e.symm
  refine wLoop (fun m xs w' => ∃ n' p' i' st' seen, m = s.size - p' ∧ s.size - p' < n' ∧ Rem s ts i' p' ∧ pRes s n p [] st = pRes s n' p' seen st' ∧ seen.length ≤ p' ∧ Row w3.heap.size w' 9 1 xs.1 seen.length (seen.map .string) ∧ Keep [f] w w' ∧ w3.heap.size ≤ w'.heap.size ∧ Blk w' f (fileC L i' st' 0 0) 42 ∧ Blk w' p1 (bencs K74 tabV) 74) (s.size - p) (⟨none, 0, 0⟩, ()) rfl
    ⟨n, p, i, st, [], rfl, hn, hr, rfl, Nat.zero_le _, Row.nil _ _ _ _, H.keep, Nat.le_refl _, H.get (i := 0) rfl, H.get (i := 1) rfl⟩ ?_
  rintro _ ⟨sl, ⟨⟩⟩ w4 ⟨n', p', i', st', seen, rfl, hn', hr', hps, hsl, hrow, hk, hsz, hbf, hbt⟩
  clear H hk1
  replace hrow : Row w3.heap.size w4 9 1 sl seen.length (seen.map .string) := hrow
  have hrf : ∀ b ∈ rowB sl, b ∉ [f] := fun b hb hm => by
    have := (hrow.ge b hb).1
    have := List.mem_singleton.1 hm
    omega
  obtain ⟨n', rfl⟩ : ∃ m, n' = m + 1 := ⟨n' - 1, by omega⟩
  rw [pRes_step] at hps
  refine wCall (part_r (ht.keep hk (by simp)) hr' hbf) ?_
  rintro x w5 ⟨hk5, hx⟩
  have hkk := hk.trans hk5 (fun x hx _ => hx)
  have hbt := hk5.blk hbt (by simpa using hpf)
  have hrow := hrow.keep hk5 hrf
  have hsz5 := Nat.le_trans hsz hk5.size
  cases hpp : pPart s p' with
  | close a q =>
    rw [hpp] at hx hps
    simp only [] at hps
    obtain ⟨t, hta, rfl, i2, hr2, hb2⟩ := hx
    refine ⟨(tkV t, true, true, ()), rfl, ?_⟩
    have H : ST w5 [f] w5 [FiL f L i2 st' 0 0] := ST.one hb2 (by simp)
    refine wN H fun p5 w6 h5 H => ?_
    refine wSA H 1 rfl rfl rfl rfl fun w7 H => ?_
    refine wBlk (wIff rfl (wJump (true, ()) rfl (wIft rfl ?_)))
    refine wL H 1 (t.a : Int) (add_mk _ _ _) rfl rfl ?_
    refine wRet ⟨hkk.trans H.keep (fun x hx _ => hx), ?_⟩
    rw [hps, hta]
    exact ⟨rfl, i2, hr2, H.get (i := 0) rfl⟩
  | fault pos c =>
    rw [hpp] at hx hps
    simp only [] at hps
    obtain ⟨t, rfl, i2, hb2⟩ := hx
    refine ⟨(tkV t, false, false, ()), rfl, ?_⟩
    have H : ST w5 [f] w5 [FiL f L i2 st' c pos] := ST.one hb2 (by simp)
    refine wN H fun p5 w6 h5 H => ?_
    refine wSA H 1 rfl rfl rfl rfl fun w7 H => ?_
    refine wBlk (wIft rfl (wJump (true, ()) rfl (wIft rfl ?_)))
    refine wL H 1 (t.a : Int) (add_mk _ _ _) rfl rfl ?_
    refine wRet ⟨hkk.trans H.keep (fun x hx _ => hx), ?_⟩
    rw [hps]
    exact ⟨_, rfl, i2, st', H.get (i := 0) rfl⟩
  | word a v q =>
    rw [hpp] at hx hps
    simp only [] at hps
    obtain ⟨rfl, i2, hr2, hb2⟩ := hx
    have hw := pPart_word hpp
    refine ⟨(tkV ⟨2, a, v⟩, false, true, ()), rfl, ?_⟩
    have H : ST w5 [f] w5 [FiL f L i2 st' 0 0] := ST.one hb2 (by simp)
    refine wN H fun p5 w6 h5 H => ?_
    refine wSA H 1 rfl rfl rfl rfl fun w7 H => ?_
    refine wBlk (wIff rfl (wJump (false, ()) rfl (wIff rfl ?_)))
    refine wL H 1 v (add_mk _ _ _) rfl rfl ?_
    have hfail : ∀ (w' : World) (c : Int) (L' : HL), ST w5 [f] w' (FiL f L i2 st' 0 0 :: L') → pRes s n p [] st = .fault a c →
        (T.call 26 [.pointer (some ⟨f, 0, none⟩), .int .i64 c, .int .i64 (a : Int)] [.b .bool] fun (r5 : Bool × Unit) => T.ret [.int .i64 0, .bool r5.1]).wp Tryz.prog (ResR s ts L f w (pRes s n p [] st)) w' := fun w' c L' H' hp => by
      refine wCall (fail_r (H'.get (i := 0) rfl) c (a : Int)) ?_
      rintro x w6 ⟨rfl, hk6, hb6⟩
      refine ⟨(false, ()), rfl, wRet ⟨(hkk.trans H'.keep (fun x hx _ => hx)).trans hk6 (fun x hx _ => hx), ?_⟩⟩
      rw [hp]
      exact ⟨_, rfl, i2, st', hb6⟩
    refine wBlkK (fun xs w' => w' = w7 ∧ xs.1 = decide (v ≠ protocolS ∧ v ≠ deviceS ∧ v ≠ netS ∧ v ≠ syncerS)) ?_ (fun rest => ?_)
    · rintro ⟨y, ⟨⟩⟩ w' ⟨rfl, hy⟩
      simp only [] at hy
      subst hy
      refine wIf (fun hy => ?_) (fun hy => ?_)
      · have hy' := of_decide_eq_true hy
        rw [if_pos hy'] at hps
        refine wL H 1 (a : Int) (add_mk _ _ _) rfl rfl ?_
        exact hfail _ 122 _ H hps
      · have hy' := of_decide_eq_false hy
        rw [if_neg hy'] at hps
        have hrow := hrow.keep H.keep hrf
        have hlen := hrow.len
        refine wLoop (fun m xs w2 => ∃ j : Nat, xs = ((j : Int), ()) ∧ j ≤ seen.length ∧ m = seen.length - j ∧ w2 = w' ∧ hasK (seen.take j) v = false) seen.length ((0 : Int), ()) rfl ⟨0, rfl, by omega, rfl, rfl, rfl⟩ ?_
        rintro m _ w8 ⟨j, rfl, hj, rfl, rfl, hno⟩
        refine wIf (fun hlt => ?_) (fun hge => ?_)
        · have hlt' : j < seen.length := by
            have h : (j : Int) < (sl.len : Int) := of_decide_eq_true hlt
            rw [hlen] at h
            omega
          have hsome := rowSome hrow (by omega)
          obtain ⟨ad, had⟩ := Option.isSome_iff_exists.1 hsome
          have hcell := hrow.cells had j (.string seen[j]) (by rw [List.getElem?_map, List.getElem?_eq_getElem hlt']; rfl)
          refine wChk (by show (sl.a.isSome && decide (0 ≤ (j : Int) ∧ (j : Int) < (sl.len : Int))) = true; rw [hsome, hlen]; simp; omega) ?_
          refine wLoadK (k := .b .string) seen[j] ?_ ?_
          · refine ⟨?_, trivial⟩
            rw [show (sl.a.getD default).add (((j : Int)).toNat * 1) = ad.add j from by rw [had]; simp]
            exact hcell
          refine wIfs (fun h3 => ?_) (fun h3 => ?_)
          · rw [if_pos (hasK_at (j := j) (by rw [List.getElem?_eq_getElem hlt', h3]))] at hps
            refine wL H 1 (a : Int) (add_mk _ _ _) rfl rfl ?_
            exact hfail _ 123 _ H hps
          · have e3 : IntKind.wrap .i64 ((j : Int) + 1) = ((j + 1 : Nat) : Int) := by
              have := hr'.1
              rw [wrap64 (by omega) (by omega)]; rfl
            refine wJump (((j + 1 : Nat) : Int), ()) ?_ ⟨seen.length - (j + 1), by omega, j + 1, rfl, by omega, rfl, rfl, hasK_take (List.getElem?_eq_getElem hlt') h3 hno⟩
            show [Value.int .i64 (IntKind.wrap .i64 ((j : Int) + 1))] = _
            rw [e3]; rfl
        · have hge' : j = seen.length := by
            have h : ¬ (j : Int) < (sl.len : Int) := of_decide_eq_false hge
            rw [hlen] at h
            omega
          subst hge'
          rw [List.take_length] at hno
          rw [if_neg (by rw [hno]; simp)] at hps
          have hp' := hr'.1
          refine wBuild H [.string v] Tryz.underlying79 info9 (z := .string ⟨#[]⟩) rfl (by decide) (fillS1 _) fun bb w9 hbb H => ?_
          have hrow9 : Row w3.heap.size w9 9 1 sl seen.length (seen.map .string) := by
            have h0 : Row w3.heap.size w5 9 1 sl seen.length (seen.map .string) := ‹Row w3.heap.size w5 9 1 sl seen.length (seen.map .string)›
            exact h0.keep H.keep hrf
          refine wAppR (news := [.string v]) (x := ⟨some ⟨bb, 0, none⟩, 1, 1⟩) Tryz.underlying79 info9 (z := .string ⟨#[]⟩) rfl rfl (by decide) hrow9 rfl (m := 1) rfl rfl (cellsAt_blk (H.get (i := 2) rfl) _ 0 fun j u hj => by simpa using hj) rfl
            (by simp only [maxLen]; omega) (by rw [show Tryz.t9.bytes = 16 from rfl]; omega) (Nat.le_trans hsz5 H.keep.size) fun v' w10 hr10 hk10 => ?_
          have hkw9 := hkk.trans H.keep (fun x hx _ => hx)
          have hkw10 : Keep [f] w w10 := hkw9.trans hk10 (fun x hx hlt => by
            have := (hrow.ge x hx).1
            omega)
          have hnf : ∀ b, b < w3.heap.size → b ∉ rowB sl := fun b hb hm => by
            have := (hrow.ge b hm).1
            omega
          have hb10 : Blk w10 f (fileC L i2 st' 0 0) 42 := hk10.blk (H.get (i := 0) rfl) (hnf f (by omega))
          have ht10 : Blk w10 p1 (bencs K74 tabV) 74 := hk10.blk ((H.keep).blk hbt (by simpa using hpf)) (hnf p1 hp1)
          have hsz10 : w3.heap.size ≤ w10.heap.size := Nat.le_trans (Nat.le_trans hsz5 H.keep.size) hk10.size
          have hr10' : Row w3.heap.size w10 9 1 v' (seen ++ [v]).length ((seen ++ [v]).map .string) := by
            rw [List.length_append, List.map_append]
            exact hr10
          have hrf' : ∀ b ∈ rowB v', b ∉ [f] := fun b hb hm => by
            have := (hr10'.ge b hb).1
            have := List.mem_singleton.1 hm
            omega
          refine wBlkK (fun xs w' => Keep [f] w10 w' ∧ match pBody s q v st' with
            | .ok (q', st2) => xs.1 = true ∧ ∃ i, Rem s ts i q' ∧ Blk w' f (fileC L i st2 0 0) 42
            | .fault pos c => xs.1 = false ∧ ∃ i st, Blk w' f (fileC L i st c (pos : Int)) 42) ?_ (fun rest3 => ?_)
          · rintro ⟨y, ⟨⟩⟩ w11 ⟨hk11, hy⟩
            have hkw11 := hkw10.trans hk11 (fun x hx _ => hx)
            cases hpb : pBody s q v st' with
            | fault pos c =>
              rw [hpb] at hy hps
              obtain ⟨hy, i3, st3, hb3⟩ := hy
              simp only [] at hy
              subst hy
              refine wIft rfl (wRet ⟨hkw11, ?_⟩)
              rw [hps]
              exact ⟨_, rfl, i3, st3, hb3⟩
            | ok qs =>
              obtain ⟨q2, st2⟩ := qs
              rw [hpb] at hy hps
              simp only [] at hps
              obtain ⟨hy, i3, hr3, hb3⟩ := hy
              simp only [] at hy
              subst hy
              have hq := pBody_ok hpb
              refine wIff rfl ?_
              refine wJump (v', ()) rfl ⟨s.size - q2, by omega, n', q2, i3, st2, seen ++ [v], rfl, by omega, hr3, hps, by rw [List.length_append]; simp; omega, hr10'.keep hk11 hrf', hkw11, Nat.le_trans hsz10 hk11.size, hb3, ?_⟩
              exact hk11.blk ht10 (by simpa using hpf)
          · have hgoal : ∀ (o : PR (Nat × St)) (w' w'' : World) (x : Ending), pBody s q v st' = o → Keep [f] w10 w' → FileR s ts L f w' o x w'' → ∃ b : Bool, x = .returned (tupOf [.bool b]) ∧ (Keep [f] w10 w'' ∧ match pBody s q v st' with
                | .ok (q', st2) => b = true ∧ ∃ i, Rem s ts i q' ∧ Blk w'' f (fileC L i st2 0 0) 42
                | .fault pos c => b = false ∧ ∃ i st, Blk w'' f (fileC L i st c (pos : Int)) 42) := fun o w' w'' x ho hk' hx => by
              rw [ho]
              obtain ⟨hk'', hx⟩ := hx
              cases o with
              | ok qs => exact ⟨true, hx.1, hk'.trans hk'' (fun x hx _ => hx), rfl, hx.2⟩
              | fault pos c => exact ⟨false, hx.1, hk'.trans hk'' (fun x hx _ => hx), rfl, hx.2⟩
            refine wIfs (fun h5 => ?_) (fun h5 => ?_)
            · refine wChk (by decide) ?_
              refine wLoadN (k := .agg K73) ht10 (o := 0 * 5) (keyV (kd 0)) (add_mk _ _ _) (fun m v hm => tab_at 0 (by omega) m v hm) ?_
              refine wCall (given_r hs (ht.keep hkw10 (by simp)) hr2 hb10 (key := some 0) (fun j hj => by cases hj; omega) (keyV (kd 0)) (fun j hj => by cases hj; rfl)) ?_
              intro x w11 hx
              obtain ⟨b, rfl, hm⟩ := hgoal _ _ _ _ (by rw [pBody, if_pos h5]) (Keep.refl _ _) hx
              exact ⟨(b, ()), rfl, wJump (b, ()) rfl (rest3 (b, ()) _ hm)⟩
            · refine wCall (mark_r (ht.keep hkw10 (by simp)) hr2 hb10 openS) ?_
              intro x w11 hx
              cases hpw : pWant s q 1 openS with
              | fault pos c =>
                have hpm : pMark s q openS st' = .fault pos c := by simp only [pMark, hpw]
                obtain ⟨b, rfl, hm⟩ := hgoal _ _ _ _ (by rw [pBody, if_neg h5, hpw, hpm]) (Keep.refl _ _) hx
                have hb : b = false := by
                  rw [pBody, if_neg h5, hpw] at hm
                  exact hm.2.1
                subst hb
                exact ⟨(false, ()), rfl, wIff rfl (wJump (false, ()) rfl (rest3 (false, ()) _ hm))⟩
              | ok q' =>
                have hpm : pMark s q openS st' = .ok (q', st') := by simp only [pMark, hpw]
                rw [hpm] at hx
                obtain ⟨hk11, rfl, i3, hr3, hb3⟩ := hx
                have hq := pWant_ok hpw
                refine ⟨(true, ()), rfl, wIft rfl ?_⟩
                refine wCall (section_r hs (ht.keep (hkw10.trans hk11 (fun x hx _ => hx)) (by simp)) hr3 hb3 v (s.size + 1) (by omega)) ?_
                intro x w12 hx
                obtain ⟨b, rfl, hm⟩ := hgoal _ _ _ _ (by rw [pBody, if_neg h5, hpw]) hk11 hx
                exact ⟨(b, ()), rfl, wJump (b, ()) rfl (rest3 (b, ()) _ hm)⟩
    · by_cases g1 : v = protocolS
      · refine wIff (by rw [str_eq, decide_eq_true (show v = bs [112, 114, 111, 116, 111, 99, 111, 108] from g1)]; rfl) (wJump (_, ()) rfl (rest _ _ ⟨rfl, ?_⟩))
        show false = _
        rw [decide_eq_false (fun h => h.1 g1)]
      refine wIft (by rw [str_eq, decide_eq_false (show ¬ v = bs [112, 114, 111, 116, 111, 99, 111, 108] from g1)]; rfl) ?_
      by_cases g2 : v = deviceS
      · refine wIff (by rw [str_eq, decide_eq_true (show v = bs [100, 101, 118, 105, 99, 101] from g2)]; rfl) (wJump (_, ()) rfl (rest _ _ ⟨rfl, ?_⟩))
        show false = _
        rw [decide_eq_false (fun h => h.2.1 g2)]
      refine wIft (by rw [str_eq, decide_eq_false (show ¬ v = bs [100, 101, 118, 105, 99, 101] from g2)]; rfl) ?_
      by_cases g3 : v = netS
      · refine wIff (by rw [str_eq, decide_eq_true (show v = bs [110, 101, 116] from g3)]; rfl) (wJump (_, ()) rfl (rest _ _ ⟨rfl, ?_⟩))
        show false = _
        rw [decide_eq_false (fun h => h.2.2.1 g3)]
      refine wIft (by rw [str_eq, decide_eq_false (show ¬ v = bs [110, 101, 116] from g3)]; rfl) ?_
      refine wJump (_, ()) rfl (rest _ _ ⟨rfl, ?_⟩)
      show (!(v.toList == syncerS.toList)) = _
      rw [str_eq]
      by_cases g4 : v = syncerS
      · rw [decide_eq_true g4, decide_eq_false (fun h => h.2.2.2 g4)]; rfl
      · rw [decide_eq_false g4, decide_eq_true ⟨g1, g2, g3, g4⟩]; rfl

end Go.Proofs.Cf
