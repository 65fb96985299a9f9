/- The program reads the value of a key. -/
import Derived.Test.YtphejmchkmciaaaGreatDoorSm
set_option maxRecDepth 100000
namespace Go.Proofs.Cf
open Go.WF

/-- The Config lies at c, with what was read. -/
abbrev CfL (c : Nat) (st : St) : Nat × Obj := (c, cellsO (cfgC st.nm st.sc (progV st)) 23)

/-- A key's pointer: nil for the secret's. -/
def KeyPtr (base : Nat) (w : World) (key : Option Nat) (kp : Option Addr) : Prop :=
  match key with
  | none => kp = none
  | some i => i < 16 ∧ ∃ ad, kp = some ad ∧ KeyAt base w ad (kd i) (48 + i)

theorem KeyPtr.keep {base : Nat} {S : List Nat} {w w' : World} {key : Option Nat} {kp : Option Addr} (h : KeyPtr base w key kp) (hk : Keep S w w') (hs : ∀ x ∈ S, x < base) : KeyPtr base w' key kp := by
  unfold KeyPtr at h ⊢
  cases key with
  | none => exact h
  | some i =>
    obtain ⟨hi, ad, h1, h2⟩ := h
    exact ⟨hi, ad, h1, h2.keep hk hs⟩

/-- What a value's reading comes to. -/
def ValueR (s : ByteArray) (r c : Nat) (e : TypeId) (w : World) (o : PR (Nat × St)) (x : Ending) (w' : World) : Prop :=
  Keep [r, c] w w' ∧ match o with
    | .ok (q, st) => x = .returned (tupOf []) ∧ Blk w' r [.string s, .int .i64 (q : Int)] e ∧ w'.heap[c]? = some (CfL c st).2
    | .fault pos code => x = .panicked (faultL pos code)

theorem ValueR.fault {s : ByteArray} {r c : Nat} {e : TypeId} {w w' : World} {o : PR (Nat × St)} {pos : Nat} {code : Int} {L : HL} (H : ST w [r, c] w' L) (h : o = .fault pos code) : ValueR s r c e w o (.panicked (faultL pos code)) w' := by
  subst h
  exact ⟨H.keep, rfl⟩

theorem strTok_len {s : ByteArray} {v : List UInt8} {q : Nat} : ∀ {i : Nat} {acc : List UInt8}, strTok s i acc = .ok (v, q) → v.length ≤ acc.length + 4 * (q - i) := by
  intro i
  induction h : s.size - i using Nat.strongRecOn generalizing i with
  | _ n ih =>
    intro acc hok
    by_cases hlt : i < s.size
    · by_cases h34 : bt s i = 34
      · rw [strTok_quote hlt h34] at hok
        cases hok
        omega
      · by_cases h92 : bt s i = 92
        · cases he : esc s i with
          | none => rw [strTok_escN hlt h92 he] at hok; cases hok
          | some nw =>
            obtain ⟨n', w⟩ := nw
            rw [strTok_escS hlt h92 he] at hok
            have hf := esc_facts h92 he
            have hu := utf_len hf.2.2.1
            have hl := strTok_le hok
            have := ih (s.size - (i + w)) (by omega) rfl hok
            rw [List.length_append] at this
            omega
        · cases hb : badC s i with
          | true => rw [strTok_bad hlt h34 h92 hb] at hok; cases hok
          | false =>
            rw [strTok_chr hlt h34 h92 hb] at hok
            have hf := decode_facts hlt
            have hu := utf_len hf.2.2.1
            have hl := strTok_le hok
            have := ih (s.size - (i + (Utf8.decode s i).2)) (by omega) rfl hok
            rw [List.length_append] at this
            omega
    · rw [strTok_end (by omega)] at hok; cases hok

theorem tok_val {s : ByteArray} (hs : s.size ≤ 4096) {p : Nat} {k : Int} {a : Nat} {v : ByteArray} {q : Nat} (h : lexS s p = .tok k a v q) : v.size ≤ 65536 := by
  unfold lexS at h
  simp only [] at h
  split at h
  · split at h
    · cases h
      simp
      omega
    · split at h
      · cases h
        simp
        omega
      · split at h
        · split at h
          · rename_i vv ee hst
            cases h
            have h1 := strTok_len hst
            have h2 := strTok_le hst
            rw [List.length_nil] at h1
            show vv.toArray.size ≤ 65536
            rw [List.size_toArray]
            omega
          · cases h
        · cases h
  · cases h

/-- Where a token ends it is in the text. -/
theorem tok_size {s : ByteArray} {p : Nat} {k : Int} {a : Nat} {v : ByteArray} {q : Nat} (h : lexS s p = .tok k a v q) : q ≤ s.size := (lexS_tok h).2

theorem value_c {s : ByteArray} (hs : s.size ≤ 4096) {r c p : Nat} {e : TypeId} (hp : p ≤ s.size) (hrc : r ≠ c) {w : World} {st : St} (hb : Blk w r [.string s, .int .i64 (p : Int)] e) (hc : w.heap[c]? = some (CfL c st).2)
    {base : Nat} {key : Option Nat} {kp : Option Addr} (hk : KeyPtr base w key kp) (hrb : r < base) (hcb : c < base) :
    Calls Tryz.prog 18 [.pointer (some ⟨r, 0, none⟩), .pointer kp, .pointer (some ⟨c, 0, none⟩)].toArray w (ValueR s r c e w (pValue s p key st)) := by
  refine calls_tree hm Tryz.func18 (d18_ok (some ⟨r, 0, none⟩) kp (some ⟨c, 0, none⟩)) ?_
  unfold d18
  have H : ST w [r, c] w [RdL r s p e, CfL c st] := ST.cons (ST.one hc (by simp)) hb (by simp) (by simpa using hrc)
  have hSb : ∀ x ∈ [r, c], x < base := by simp; omega
  refine wCall (next_c hs hp hb) ?_
  rintro x w1 ⟨hk1, hx⟩
  cases hl : lexS s p with
  | fin eb pos =>
    rw [hl] at hx
    subst hx
    exact ⟨hk1.mono (by simp), by simp only [pValue, hl]⟩
  | tok k a v q =>
    rw [hl] at hx
    obtain ⟨rfl, hb1⟩ := hx
    have hqs := tok_size hl
    have hpv : pValue s p key st = if k = 1 then .fault a 121 else match pSet key st k v with
        | none => .fault a 124
        | some st' => match pWant s q 1 semiS with
          | .ok q' => .ok (q', st')
          | .fault pos c => .fault pos c := by
      simp only [pValue, hl]
      rfl
    generalize pValue s p key st = PV at *
    refine ⟨((k, (a : Int), v, ()), ()), rfl, ?_⟩
    have H1 : ST w [r, c] w1 [RdL r s q e, CfL c st] := H.upd (i := 0) rfl hk1 hb1
    refine wN H1 fun b w2 hb2 H2 => ?_
    refine wSA H2 2 rfl rfl rfl rfl fun w3 H3 => ?_
    refine wBlk ?_
    refine wL H3 2 k rfl rfl rfl ?_
    refine wIf (fun h1 => ?_) (fun h1 => ?_)
    · have h1' : k = 1 := by simpa using h1
      refine wL H3 2 (a : Int) rfl rfl rfl ?_
      exact wGive (ValueR.fault H3 (by rw [hpv, if_pos h1']))
    have h1' : k ≠ 1 := by simpa using h1
    rw [if_neg h1'] at hpv
    refine wJump () rfl ?_
    refine wBlkK (fun xs w' => ∃ st', pSet key st k v = some st' ∧ ST w [r, c] w' [RdL r s q e, CfL c st', (b, cellsO (bencs K49 (k, (a : Int), v, ())) 49)]) ?_ (fun rest => ?_)
    · rintro ⟨⟩ w4 ⟨st', hst, H4⟩
      rw [hst] at hpv
      refine wCall (want_c hs hqs (H4.get (i := 0) rfl) 1 (bs [59])) ?_
      rintro x w5 ⟨hk5, hx⟩
      have hpw : pWant s q 1 semiS = match lexS s q with
        | .tok k a v q => if k = 1 ∧ v = semiS then .ok q else .fault a 121
        | .fin _ pos => .fault pos 121 := rfl
      cases hl2 : lexS s q with
      | fin eb pos =>
        rw [hl2] at hx hpw
        subst hx
        refine ⟨H4.keep.trans hk5 (fun x hx _ => by simp at hx; simp [hx]), ?_⟩
        rw [hpv, hpw]
      | tok k2 a2 v2 q2 =>
        rw [hl2] at hx hpw
        have hk5' := H4.keep.trans hk5 (fun x hx _ => by simp at hx; simp [hx])
        by_cases hc2 : k2 = 1 ∧ v2 = semiS
        · simp only [] at hx hpw
          rw [if_pos hc2] at hx hpw
          obtain ⟨rfl, hb5⟩ := hx
          refine ⟨((k2, (a2 : Int), v2, ()), ()), rfl, wRet ⟨hk5', ?_⟩⟩
          rw [hpv, hpw]
          refine ⟨rfl, hb5, hk5.obj (H4.get (i := 1) rfl) (by simpa using fun e => hrc e.symm)⟩
        · simp only [] at hx hpw
          rw [if_neg hc2] at hx hpw
          subst hx
          refine ⟨hk5', ?_⟩
          rw [hpv, hpw]
    · cases key with
      | none =>
        have hkp : kp = none := hk
        subst hkp
        refine wIft rfl ?_
        refine wBlk ?_
        refine wL H3 2 v rfl rfl rfl ?_
        refine wIf (fun h2 => ?_) (fun h2 => ?_)
        · have h2' : 64 < v.size := by
            have := of_decide_eq_true h2
            omega
          refine wL H3 2 (a : Int) rfl rfl rfl ?_
          have hps : pSet none st k v = none := if_pos h2'
          exact wGive (ValueR.fault H3 (by rw [hpv, hps]))
        · have h2' : ¬ 64 < v.size := by
            have := of_decide_eq_false h2
            omega
          have hps : pSet none st k v = some { st with sc := v, sth := true } := if_neg h2'
          refine wJump () rfl ?_
          refine wL H3 2 v rfl rfl rfl ?_
          refine wChk rfl ?_
          refine wS H3 1 (by show (⟨c, 0, none⟩ : Addr).add 11 = _; rw [add_mk]) rfl (by show 0 + 11 < 18; decide) rfl fun w4 H4 => ?_
          exact wJump () rfl (rest () w4 ⟨_, hps, H4⟩)
      | some i =>
        obtain ⟨hi, ad, hkp, hkey⟩ := hk
        subst hkp
        have hkey3 := hkey.keep H3.keep hSb
        refine wIff rfl ?_
        refine wLA H3 2 (k, (a : Int), v, ()) rfl rfl rfl ?_
        refine wCall (read_c hkey3 (kd_ok i hi) k (a : Int) v (tok_val hs hl)) ?_
        rintro x w4 ⟨hk4, n, ok, rfl, hro⟩
        refine ⟨(n, ok, ()), rfl, ?_⟩
        have H4 := H3.made hk4
        have hps : pSet (some i) st k v = if ok then some { st with is := upd st.is i n, th := upd st.th i true } else none := by
          simp only [pSet]
          rw [hro]
          cases ok <;> rfl
        refine wBlk ?_
        cases ok with
        | false =>
          refine wIft rfl ?_
          refine wL H4 2 (a : Int) rfl rfl rfl ?_
          exact wGive (ValueR.fault H4 (by rw [hpv, hps]; rfl))
        | true =>
          refine wIff rfl ?_
          refine wJump () rfl ?_
          refine wChk rfl ?_
          have hkey4 := hkey3.keep hk4 (by simp)
          obtain ⟨ws, vs, hat, _⟩ := hkey4
          refine wLoadC hat.2 (o := 7) (.func (.func (48 + i)) #[] #[]) rfl rfl ?_
          refine wField hi ?_
          refine wChk rfl ?_
          obtain ⟨hset, hlt⟩ := cfgC_set st.nm st.sc (progV st) i hi n
          refine wS H4 1 rfl rfl (by show (kd i).cell < 18; exact hlt) rfl fun w5 H5 => ?_
          refine wJump () rfl (rest () w5 ⟨_, hps, ?_⟩)
          rw [hset, ← progV_upd] at H5
          exact H5

end Go.Proofs.Cf
