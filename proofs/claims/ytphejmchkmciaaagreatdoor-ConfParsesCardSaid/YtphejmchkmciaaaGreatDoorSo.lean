/- The program reads a section. -/
import Derived.Test.YtphejmchkmciaaaGreatDoorSn
set_option maxRecDepth 100000
namespace Go.Proofs.Cf
open Go.WF

theorem findFrom_some {sec nm : ByteArray} {j : Nat} : ∀ {i : Nat}, findFrom sec nm i = some j → j < 16 ∧ (kd j).sec = sec ∧ (kd j).nm = nm := by
  intro i
  induction h : 16 - i using Nat.strongRecOn generalizing i with
  | _ n ih =>
    intro hf
    rw [findFrom] at hf
    split at hf
    · split at hf
      · rename_i hlt hc
        cases hf
        exact ⟨hlt, hc⟩
      · exact ih (16 - (i + 1)) (by omega) rfl hf
    · cases hf

theorem kd_inj {i j : Nat} (hi : i < 16) (hj : j < 16) (h : (kd i).nm = (kd j).nm) : i = j := by
  have hd : ∀ i j : Fin 16, (kd i.val).nm = (kd j.val).nm → i = j := by decide +kernel
  have := hd ⟨i, hi⟩ ⟨j, hj⟩ h
  simpa using this

theorem kd_secret {i : Nat} (hi : i < 16) : (kd i).nm ≠ secretS := by
  have hd : ∀ i : Fin 16, (kd i.val).nm ≠ secretS := by decide +kernel
  exact hd ⟨i, hi⟩

theorem hasK_snoc (ks : List ByteArray) (v x : ByteArray) : hasK (ks ++ [v]) x = (hasK ks x || decide (x = v)) := by
  simp [hasK, List.any_append]

/-- The names that stood in a section are those whose keys are there. -/
def SecInv (sec : ByteArray) (ks : List ByteArray) (st : St) : Prop :=
  (∀ i, i < 16 → (kd i).sec = sec → hasK ks (kd i).nm = st.th i) ∧ (sec = netS → hasK ks secretS = st.sth)

theorem SecInv.given {sec : ByteArray} {ks : List ByteArray} {st : St} (h : SecInv sec ks st) {v : ByteArray} {key : Option Nat} (hf : findS sec v = some key) : given key st = hasK ks v := by
  unfold findS at hf
  split at hf
  · rename_i hc
    cases hf
    rw [hc.2]
    exact (h.2 hc.1).symm
  · cases hff : findFrom sec v 0 with
    | none => rw [hff] at hf; cases hf
    | some i =>
      rw [hff] at hf
      cases hf
      obtain ⟨hi, h1, h2⟩ := findFrom_some hff
      have := h.1 i hi h1
      rw [h2] at this
      exact this.symm

/-- What setting a key turns. -/
theorem pSet_some {key : Option Nat} {st st' : St} {k : Int} {v : ByteArray} (h : pSet key st k v = some st') : (∀ i, st'.th i = (st.th i || decide (key = some i))) ∧ st'.sth = (st.sth || decide (key = none)) ∧ st'.nm = st.nm := by
  unfold pSet at h
  cases key with
  | none =>
    simp only [] at h
    split at h
    · cases h
    · cases h
      exact ⟨fun i => by simp, by simp, rfl⟩
  | some j =>
    simp only [] at h
    split at h
    · cases h
      refine ⟨fun i => ?_, by simp, rfl⟩
      simp only [upd]
      by_cases hij : i = j
      · subst hij; simp
      · simp only [hij, if_false, Option.some.injEq]
        rw [decide_eq_false (fun e => hij e.symm), Bool.or_false]
    · cases h

theorem SecInv.step {sec : ByteArray} {ks : List ByteArray} {st st' : St} (h : SecInv sec ks st) {v : ByteArray} {key : Option Nat} (hf : findS sec v = some key) (h1 : ∀ i, st'.th i = (st.th i || decide (key = some i))) (h2 : st'.sth = (st.sth || decide (key = none))) : SecInv sec (ks ++ [v]) st' := by
  unfold findS at hf
  refine ⟨fun i hi hs => ?_, fun hs => ?_⟩
  · rw [hasK_snoc, h.1 i hi hs, h1]
    congr 1
    split at hf
    · rename_i hc
      cases hf
      have := kd_secret hi
      rw [← hc.2] at this
      simp [this]
    · cases hff : findFrom sec v 0 with
      | none => rw [hff] at hf; cases hf
      | some j =>
        rw [hff] at hf
        cases hf
        obtain ⟨hj, hj1, hj2⟩ := findFrom_some hff
        apply decide_eq_decide.2
        constructor
        · intro e
          rw [← hj2] at e
          rw [kd_inj hi hj e]
        · intro e
          have : j = i := by simpa using e
          subst this
          exact hj2
  · rw [hasK_snoc, h.2 hs, h2]
    congr 1
    split at hf
    · rename_i hc
      cases hf
      simp [hc.2]
    · rename_i hc
      cases hff : findFrom sec v 0 with
      | none => rw [hff] at hf; cases hf
      | some j =>
        rw [hff] at hf
        cases hf
        have : ¬ secretS = v := fun e => hc ⟨hs, e.symm⟩
        simp [this]

theorem pWant_ok {s : ByteArray} {p : Nat} {k0 : Int} {v0 : ByteArray} {q : Nat} (h : pWant s p k0 v0 = .ok q) : p < q ∧ q ≤ s.size ∧ ∃ a, lexS s p = .tok k0 a v0 q := by
  unfold pWant at h
  cases hl : lexS s p with
  | fin eb pos => rw [hl] at h; cases h
  | tok k a v q' =>
    rw [hl] at h
    simp only [] at h
    split at h
    · rename_i hc
      cases h
      have := lexS_tok hl
      exact ⟨this.1, this.2, a, by rw [hc.1, hc.2]⟩
    · cases h

theorem pValue_ok {s : ByteArray} {p : Nat} {key : Option Nat} {st st' : St} {q : Nat} (h : pValue s p key st = .ok (q, st')) : p < q ∧ q ≤ s.size ∧ ∃ k v, pSet key st k v = some st' := by
  unfold pValue at h
  cases hl : lexS s p with
  | fin eb pos => rw [hl] at h; cases h
  | tok k a v q' =>
    rw [hl] at h
    simp only [] at h
    split at h
    · cases h
    · cases hp : pSet key st k v with
      | none => rw [hp] at h; cases h
      | some st2 =>
        rw [hp] at h
        simp only [] at h
        cases hw : pWant s q' 1 semiS with
        | fault pos c => rw [hw] at h; cases h
        | ok q2 =>
          rw [hw] at h
          cases h
          have h1 := lexS_tok hl
          have h2 := pWant_ok hw
          exact ⟨by omega, h2.2.1, k, v, hp⟩

theorem findS_sec {sec v : ByteArray} {i : Nat} (h : findS sec v = some (some i)) : i < 16 ∧ (kd i).sec = sec := by
  unfold findS at h
  split at h
  · cases h
  · cases hff : findFrom sec v 0 with
    | none => rw [hff] at h; cases h
    | some j =>
      rw [hff] at h
      cases h
      have := findFrom_some hff
      exact ⟨this.1, this.2.1⟩

theorem findS_net {sec v : ByteArray} (h : findS sec v = some none) : sec = netS := by
  unfold findS at h
  split at h
  · rename_i hc; exact hc.1
  · cases hff : findFrom sec v 0 <;> rw [hff] at h <;> cases h

/-- What a section leaves. -/
theorem pSection_ok {s sec : ByteArray} : ∀ {n p : Nat} {st st' : St} {q : Nat}, pSection s sec n p st = .ok (q, st') → p < q ∧ q ≤ s.size ∧ st'.nm = st.nm ∧ (∀ i, i < 16 → (kd i).sec ≠ sec → st'.th i = st.th i) ∧ (sec ≠ netS → st'.sth = st.sth)
  | 0, p, st, st', q, h => by simp [pSection] at h
  | n + 1, p, st, st', q, h => by
    simp only [pSection] at h
    cases hl : lexS s p with
    | fin eb pos => rw [hl] at h; cases h
    | tok k a v q' =>
      rw [hl] at h
      simp only [] at h
      have h1 := lexS_tok hl
      split at h
      · cases h
        exact ⟨h1.1, h1.2, rfl, fun _ _ _ => rfl, fun _ => rfl⟩
      · split at h
        · cases h
        · cases hf : findS sec v with
          | none => rw [hf] at h; cases h
          | some key =>
            rw [hf] at h
            simp only [] at h
            split at h
            · cases h
            · cases hv : pValue s q' key st with
              | fault pos c => rw [hv] at h; cases h
              | ok r =>
                obtain ⟨q2, st2⟩ := r
                rw [hv] at h
                simp only [] at h
                obtain ⟨h2, h3, k', v', hs⟩ := pValue_ok hv
                obtain ⟨a1, a2, a0⟩ := pSet_some hs
                obtain ⟨b1, b2, b0, b3, b4⟩ := pSection_ok h
                refine ⟨by omega, b2, by rw [b0, a0], fun i hi hne => ?_, fun hne => ?_⟩
                · rw [b3 i hi hne, a1]
                  cases key with
                  | none => simp
                  | some j =>
                    have := (findS_sec hf).2
                    have hij : ¬ j = i := fun e => hne (by rw [← e]; exact this)
                    simp [hij]
                · rw [b4 hne, a2]
                  cases key with
                  | none => exact absurd (findS_net hf) hne
                  | some j => simp

/-- What a section's reading comes to. -/
def SectionR (s sec : ByteArray) (r c : Nat) (e : TypeId) (w : World) (o : PR (Nat × St)) (x : Ending) (w' : World) : Prop :=
  Keep [r, c] w w' ∧ match o with
    | .ok (q, st) => ∃ m ks, x = .returned (tupOf [.map (some m)]) ∧ Blk w' r [.string s, .int .i64 (q : Int)] e ∧ w'.heap[c]? = some (CfL c st).2 ∧ w'.heap[m]? = some (mapO ks) ∧ w.heap.size ≤ m ∧ SecInv sec ks st
    | .fault pos code => x = .panicked (faultL pos code)

theorem SectionR.fault {s sec : ByteArray} {r c : Nat} {e : TypeId} {w w' : World} {o : PR (Nat × St)} {pos : Nat} {code : Int} {L : HL} (H : ST w [r, c] w' L) (h : o = .fault pos code) : SectionR s sec r c e w o (.panicked (faultL pos code)) w' := by
  subst h
  exact ⟨H.keep, rfl⟩

theorem info3z : Tryz.t3.zero = some (.int .i64 0) := rfl

theorem section_c {s : ByteArray} (hs : s.size ≤ 4096) (sec : ByteArray) {r c p : Nat} {e : TypeId} (hp : p ≤ s.size) (hrc : r ≠ c) {w : World} {st : St} (hb : Blk w r [.string s, .int .i64 (p : Int)] e) (hc : w.heap[c]? = some (CfL c st).2)
    {n : Nat} (hn : s.size - p < n) (hinv : SecInv sec [] st) :
    Calls Tryz.prog 19 [.pointer (some ⟨r, 0, none⟩), .string sec, .pointer (some ⟨c, 0, none⟩)].toArray w (SectionR s sec r c e w (pSection s sec n p st)) := by
  refine calls_tree hm Tryz.func19 (d19_ok ⟨r, 0, none⟩ sec ⟨c, 0, none⟩) ?_
  unfold d19
  have hrw : r < w.heap.size := hb.lt
  have hcw : c < w.heap.size := lt_of_obj hc
  have H : ST w [r, c] w [RdL r s p e, CfL c st] := ST.cons (ST.one hc (by simp)) hb (by simp) (by simpa using hrc)
  refine wMakeMap H fun m w1 hm1 H => ?_
  have hmw : w.heap.size ≤ m := by rw [hm1]; exact Nat.le_refl _
  refine wLoop (fun k _ w' => ∃ (p' : Nat) (st' : St) (ks : List ByteArray) (n' : Nat), p' ≤ s.size ∧ k = s.size - p' ∧ s.size - p' < n' ∧ SecInv sec ks st' ∧ pSection s sec n p st = pSection s sec n' p' st' ∧ ST w [r, c] w' [RdL r s p' e, CfL c st', (m, mapO ks)]) (s.size - p) () rfl ⟨p, st, [], n, hp, rfl, hn, hinv, rfl, H⟩ ?_
  rintro _ ⟨⟩ w2 ⟨p', st', ks, n', hp', rfl, hn', hinv', hps, H2⟩
  obtain ⟨n'', rfl⟩ : ∃ n'', n' = n'' + 1 := ⟨n' - 1, by omega⟩
  simp only [pSection] at hps
  generalize pSection s sec n p st = PV at hps ⊢
  refine wCall (next_c hs hp' (H2.get (i := 0) rfl)) ?_
  rintro x w3 ⟨hk3, hx⟩
  cases hl : lexS s p' with
  | fin eb pos =>
    rw [hl] at hx hps
    subst hx
    have H3 := H2.keep.trans hk3 (fun x hx _ => by simp at hx; simp [hx])
    refine ⟨H3, ?_⟩
    rw [hps]
  | tok k a v q =>
    rw [hl] at hx hps
    obtain ⟨rfl, hb3⟩ := hx
    simp only [] at hps
    have hq := lexS_tok hl
    refine ⟨((k, (a : Int), v, ()), ()), rfl, ?_⟩
    have H3 : ST w [r, c] w3 [RdL r s q e, CfL c st', (m, mapO ks)] := H2.upd (i := 0) rfl hk3 hb3
    refine wN H3 fun b w4 hb4 H4 => ?_
    refine wSA H4 3 rfl rfl rfl rfl fun w5 H5 => ?_
    refine wBlkK (fun xs w' => w' = w5 ∧ ¬ (k = 1 ∧ v = closeS) ∧ k = 0) ?_ (fun rest => ?_)
    · rintro ⟨⟩ w' ⟨rfl, hcl, hk0⟩
      rw [if_neg hcl, if_neg (by simpa using hk0)] at hps
      refine wL H5 3 v rfl rfl rfl ?_
      refine wCall (find_c sec v w') ?_
      rintro x w6 ⟨hk6, hx⟩
      have H6 := H5.made hk6
      have hfind : (findS sec v = none ∧ x = .returned (tupOf [.pointer none, .bool false])) ∨ ∃ key kp, findS sec v = some key ∧ x = .returned (tupOf [.pointer kp, .bool true]) ∧ KeyPtr w'.heap.size w6 key kp := by
        unfold findS
        by_cases h1 : sec = netS ∧ v = secretS
        · rw [if_pos h1] at hx ⊢
          exact .inr ⟨none, none, rfl, hx, rfl⟩
        · rw [if_neg h1] at hx ⊢
          cases hff : findFrom sec v 0 with
          | none => rw [hff] at hx; exact .inl ⟨rfl, hx⟩
          | some i =>
            rw [hff] at hx
            obtain ⟨ad, hx1, hx2⟩ := hx
            exact .inr ⟨some i, some ad, rfl, hx1, (findFrom_some hff).1, ad, rfl, hx2⟩
      rcases hfind with ⟨hf, rfl⟩ | ⟨key, kp, hf, rfl, hkp⟩
      · rw [hf] at hps
        refine ⟨(none, false, ()), rfl, ?_⟩
        refine wBlk (wIft rfl ?_)
        refine wL H6 3 (a : Int) rfl rfl rfl ?_
        exact wGive (SectionR.fault H6 hps)
      · rw [hf] at hps
        simp only [] at hps
        refine ⟨(kp, true, ()), rfl, ?_⟩
        refine wBlk (wIff rfl (wJump () rfl ?_))
        have hg := hinv'.given hf
        rw [hg] at hps
        refine wBlk ?_
        refine wL H6 3 v rfl rfl rfl ?_
        refine wLookup Tryz.underlying53 Tryz.underlying9 info3 info3z H6 2 rfl ?_
        by_cases hh : hasK ks v = true
        · rw [if_pos hh] at hps
          refine wIft (by rw [if_pos hh]; rfl) ?_
          refine wL H6 3 (a : Int) rfl rfl rfl ?_
          exact wGive (SectionR.fault H6 hps)
        · rw [if_neg hh] at hps
          have hh' : hasK ks v = false := by simpa using hh
          refine wIff (by rw [if_neg hh]; rfl) (wJump () rfl ?_)
          refine wL H6 3 v rfl rfl rfl ?_
          refine wLookup Tryz.underlying53 Tryz.underlying9 info3 info3z H6 2 rfl ?_
          have e1 : IntKind.wrap .i64 ((if hasK ks v = true then (1 : Int) else 0) + 1) = 1 := by rw [if_neg hh]; rfl
          rw [show (((if hasK ks v = true then 1 else 0 : Int), ()) : Int × Unit).1 = (if hasK ks v = true then (1 : Int) else 0) from rfl, e1]
          refine wMapPut Tryz.underlying53 Tryz.underlying9 H6 2 rfl hh' fun w7 H7 hk7 => ?_
          have hmlt : m < w'.heap.size := lt_of_obj (H5.get (i := 2) rfl)
          have hkp7 : KeyPtr w'.heap.size w7 key kp := hkp.keep hk7 (by simpa using hmlt)
          have hsz := H5.keep.size
          refine wCall (value_c hs hq.2 hrc (H7.get (i := 0) rfl) (H7.get (i := 1) rfl) hkp7 (by omega) (by omega)) ?_
          rintro x w8 ⟨hk8, hx8⟩
          have hk8' := H7.keep.trans hk8 (fun x hx _ => hx)
          cases hv : pValue s q key st' with
          | fault pos code =>
            rw [hv] at hx8 hps
            subst hx8
            exact ⟨hk8', by rw [hps]⟩
          | ok qs =>
            obtain ⟨q2, st2⟩ := qs
            rw [hv] at hx8 hps
            simp only [] at hx8 hps
            obtain ⟨rfl, hb8, hc8⟩ := hx8
            obtain ⟨v1, v2, k', v', hset⟩ := pValue_ok hv
            obtain ⟨a1, a2, _⟩ := pSet_some hset
            have hnd := H7.nodup
            simp at hnd
            refine ⟨(), rfl, wJump () rfl ⟨s.size - q2, by omega, q2, st2, ks ++ [v], n'', v2, rfl, by omega, hinv'.step hf a1 a2, hps, hk8', ?_, ?_, ?_⟩⟩
            · intro y hy
              simp only [List.mem_cons, List.not_mem_nil, or_false] at hy
              rcases hy with rfl | rfl | rfl
              · exact hb8
              · exact hc8
              · exact hk8.obj (H7.get (i := 2) rfl) (by simp; exact ⟨fun e => hnd.1.2.1 e.symm, fun e => hnd.2.1.1 e.symm⟩)
            · simp
              exact ⟨⟨hnd.1.1, hnd.1.2.1⟩, hnd.2.1.1⟩
            · intro y hy
              simp only [List.mem_cons, List.not_mem_nil, or_false] at hy
              rcases hy with rfl | rfl | rfl
              · exact .inl (by simp)
              · exact .inl (by simp)
              · exact .inr hmw
    · refine wBlk ?_
      refine wL H5 3 k rfl rfl rfl ?_
      refine wIf (fun h1 => ?_) (fun h1 => ?_)
      · have h1' : k = 1 := by simpa using h1
        refine wL H5 3 v rfl rfl rfl ?_
        refine wJump (_, ()) rfl ?_
        refine wIf (fun h2 => ?_) (fun h2 => ?_)
        · have h2' : v = closeS := of_decide_eq_true (by rw [← str_eq]; exact h2)
          rw [if_pos ⟨h1', h2'⟩] at hps
          refine wRet ⟨H5.keep, ?_⟩
          rw [hps]
          exact ⟨m, ks, rfl, H5.get (i := 0) rfl, H5.get (i := 1) rfl, H5.get (i := 2) rfl, hmw, hinv'⟩
        · have h2' : v ≠ closeS := of_decide_eq_false (by rw [← str_eq]; exact h2)
          rw [if_neg (fun h => h2' h.2), if_pos (by omega)] at hps
          refine wL H5 3 k rfl rfl rfl ?_
          refine wIft (by simp; omega) ?_
          refine wL H5 3 (a : Int) rfl rfl rfl ?_
          exact wGive (SectionR.fault H5 hps)
      · have h1' : k ≠ 1 := by simpa using h1
        refine wJump (_, ()) rfl ?_
        refine wIff rfl ?_
        rw [if_neg (fun h => h1' h.1)] at hps
        refine wL H5 3 k rfl rfl rfl ?_
        refine wIf (fun h2 => ?_) (fun h2 => ?_)
        · have h2' : k ≠ 0 := by simpa using h2
          rw [if_pos h2'] at hps
          refine wL H5 3 (a : Int) rfl rfl rfl ?_
          exact wGive (SectionR.fault H5 hps)
        · have h2' : k = 0 := by simpa using h2
          exact wJump () rfl (rest () _ ⟨rfl, fun h => h1' h.1, h2'⟩)

end Go.Proofs.Cf
