/- The program reads a string token. -/
import Derived.Test.YtphejmchkmciaaaGreatDoorSf
set_option maxRecDepth 100000
namespace Go.Proofs.Cf
open Go.WF

/-- What a string token's reading comes to. -/
def QuotedR (s : ByteArray) (r : Nat) (e : TypeId) (w : World) (t : Except Nat (List UInt8 × Nat)) (x : Ending) (w' : World) : Prop :=
  Keep [r] w w' ∧ match t with
    | .ok (v, q) => x = .returned (tupOf [.string ⟨v.toArray⟩]) ∧ Blk w' r [.string s, .int .i64 (q : Int)] e
    | .error pos => x = .panicked (faultL pos 121)

theorem pre3_ext {s : ByteArray} {q : Nat} (h : q ≤ s.size) : pre3 (s.extract q s.size) 239 191 189 = decide (q + 3 ≤ s.size ∧ bt s q = 239 ∧ bt s (q + 1) = 191 ∧ bt s (q + 2) = 189) := by
  rw [Bool.eq_iff_iff]
  simp only [pre3, Bool.and_eq_true, decide_eq_true_eq, bt_ext, size_ext, Nat.add_zero]
  omega

theorem quoted_c {s : ByteArray} (hs : s.size ≤ 4096) {r p : Nat} {e : TypeId} (hp : p < s.size) {w : World} (hb : Blk w r [.string s, .int .i64 (p : Int)] e) :
    Calls Tryz.prog 33 [.pointer (some ⟨r, 0, none⟩)].toArray w (QuotedR s r e w (strTok s (p + 1) [])) := by
  refine calls_tree hm Tryz.func33 (d33_ok ⟨r, 0, none⟩) ?_
  unfold d33
  have H : ST w [r] w [RdL r s p e] := ST.one hb (by simp)
  refine wD H fun w1 H => ?_
  refine wL H 0 _ rfl rfl rfl ?_
  refine wL H 0 _ rfl rfl rfl ?_
  have e1 : IntKind.wrap .i64 ((p : Int) + 1) = ((p + 1 : Nat) : Int) := by rw [wrap64 (by omega) (by omega)]; rfl
  rw [e1]
  refine wChk (by simp; omega) ?_
  refine wL H 0 _ rfl rfl rfl ?_
  rw [e1]
  have eS : s.extract ((p + 1 : Nat) : Int).toNat (s.size : Int).toNat = s.extract (p + 1) s.size := rfl
  rw [eS]
  have hrw : r < w.heap.size := hb.lt
  have hcut : ∀ i : Nat, (s.extract (p + 1) s.size).extract i (s.extract (p + 1) s.size).size = s.extract (p + 1 + i) s.size := fun i => ext_ext (by omega)
  have hdec : ∀ i : Nat, Utf8.decode (s.extract (p + 1) s.size) i = Utf8.decode s (p + 1 + i) := fun i => decode_ext (by omega)
  have hbs : (s.extract (p + 1) s.size).size = s.size - (p + 1) := size_ext
  generalize s.extract (p + 1) s.size = body at hcut hdec hbs
  refine wBuild H [] Tryz.underlying86 info5 (z := .int .u8 0) rfl (by decide) fillB0 fun b w2 hb2 H => ?_
  refine wRange Tryz.underlying9 H fun it w3 hit H => ?_
  have hgb := H.get (i := 1) rfl
  have hnd := H.nodup
  simp at hnd
  have hbw : w.heap.size ≤ b := by
    rcases H.own (b, cellsO [] 5) (by simp) with h | h
    · rw [List.mem_singleton] at h
      exact absurd h.symm hnd.1.1
    · exact h
  have hiw : w.heap.size ≤ it := by
    rcases H.own (it, .stringIter body 0) (by simp) with h | h
    · rw [List.mem_singleton] at h
      exact absurd h.symm hnd.1.2
    · exact h
  have hrow : Row w.heap.size w3 5 1 ⟨some ⟨b, 0, none⟩, 0, 0⟩ 0 [] := ⟨rfl, .inr ⟨b, 0, #[], rfl, hbw, hgb, Nat.le_refl _, by simp [maxLen], rfl, rfl⟩⟩
  replace H : ST w [r] w3 [RdL r s p e, (it, .stringIter body 0)] := H.sub (by simp)
  refine wLoop (fun n xs w' => ∃ (pos sk : Nat) (acc : List UInt8), xs.2.1 = (sk : Int) ∧ pos ≤ body.size ∧ n = body.size - pos ∧ ST w [r] w' [RdL r s p e, (it, .stringIter body pos)] ∧ Row w.heap.size w' 5 1 xs.1 acc.length (bcells acc) ∧ it ∉ rowB xs.1 ∧
      acc.length ≤ 4 * max pos sk ∧ max pos sk ≤ body.size ∧ (∀ j, pos ≤ j → j < sk → bt s (p + 1 + j) < 128) ∧ strTok s (p + 1) [] = strTok s (p + 1 + max pos sk) acc)
    body.size (⟨some ⟨b, 0, none⟩, 0, 0⟩, 0, ()) rfl ⟨0, 0, [], rfl, Nat.zero_le _, rfl, H, hrow, fun h => hnd.2 (List.mem_singleton.1 h).symm, by simp, by simp, by omega, by simp⟩ ?_
  rintro n ⟨v, _, ⟨⟩⟩ w4 ⟨pos, sk, acc, rfl, hpos, rfl, H, hrow, hitv, hacc, hmx, hasc, hst⟩
  have hok : ∀ {L' : HL} {w6 : World}, ST w [r] w6 L' → (∀ t, strTok s (p + 1) [] = .error t → QuotedR s r e w (strTok s (p + 1) []) (.panicked (faultL t 121)) w6) := fun H' t ht => by
    rw [ht]; exact ⟨H'.keep, rfl⟩
  refine wNextS H 1 rfl (fun hlt w5 H hk5 => ?_) (fun hge => ?_)
  · rw [hdec pos] at H ⊢
    have hq : p + 1 + pos < s.size := by omega
    obtain ⟨hw1, hw2, hsc, h128⟩ := decode_facts hq
    have hlow : bt s (p + 1 + pos) < 128 → Utf8.decode s (p + 1 + pos) = ((bt s (p + 1 + pos)).toNat, 1) := decode_low
    have hb0 := bt_lo s (p + 1 + pos)
    generalize hD : Utf8.decode s (p + 1 + pos) = D at *
    obtain ⟨c, wd⟩ := D
    simp only [] at hw1 hw2 hsc h128
    replace hrow := hrow.keep hk5 (fun x hx hm => hitv (by rw [List.mem_singleton] at hm; rwa [hm] at hx))
    refine wIf (fun hsk => ?_) (fun hsk => ?_)
    · -- inside an escape
      simp only [decide_eq_true_eq] at hsk
      have hsk' : pos < sk := by exact_mod_cast hsk
      have h1 := hlow (hasc pos (Nat.le_refl _) hsk')
      simp only [Prod.mk.injEq] at h1
      have hwd : wd = 1 := h1.2
      subst hwd
      refine wJump (v, (sk : Int), ()) rfl ⟨body.size - (pos + 1), by omega, pos + 1, sk, acc, rfl, by omega, rfl, H, hrow, hitv, ?_, by omega, fun j hj hj' => hasc j (by omega) hj', ?_⟩
      · have : max (pos + 1) sk = max pos sk := by omega
        rw [this]; exact hacc
      · have : max (pos + 1) sk = max pos sk := by omega
        rw [this]; exact hst
    simp only [decide_eq_false_iff_not] at hsk
    have hsk' : sk ≤ pos := by
      have : ¬ ((pos : Int) < (sk : Int)) := hsk
      omega
    have hmax : max pos sk = pos := by omega
    rw [hmax] at hst hacc
    have e2 : IntKind.wrap .i64 (((p + 1 : Nat) : Int) + (pos : Int)) = ((p + 1 + pos : Nat) : Int) := by rw [wrap64 (by omega) (by omega)]; omega
    refine wIf (fun h34 => ?_) (fun h34 => ?_)
    · -- the end
      have hc34 : c = 34 := by simp only [beq_iff_eq] at h34; exact_mod_cast h34
      have hbt : bt s (p + 1 + pos) = 34 := by
        by_cases hl : bt s (p + 1 + pos) < 128
        · have := hlow hl
          simp only [Prod.mk.injEq] at this
          omega
        · have := h128 (by omega); omega
      rw [e2]
      refine wSK H 0 rfl rfl (by simp) rfl fun w6 H hk6 => ?_
      have hrow6 := hrow.keep hk6 (fun x hx hm => by
        have hm' : x = r := List.mem_singleton.1 hm
        have := (hrow.ge x hx).1
        omega)
      obtain ⟨t1, t2, t3⟩ := hrow6.toString
      refine wToString Tryz.underlying86 Tryz.underlying9 Tryz.underlying5 t1 t2 t3 (wRet ⟨H.keep, ?_⟩)
      rw [hst, strTok_quote hq hbt]
      refine ⟨rfl, ?_⟩
      have e3 : IntKind.wrap .i64 (((p + 1 + pos : Nat) : Int) + 1) = ((p + 1 + pos + 1 : Nat) : Int) := by rw [wrap64 (by omega) (by omega)]; rfl
      rw [e3] at H
      exact H.get (i := 0) rfl
    have hbt34 : bt s (p + 1 + pos) ≠ 34 := fun h => by
      have := hlow (by omega)
      simp only [Prod.mk.injEq] at this
      simp only [beq_eq_false_iff_ne, ne_eq] at h34
      apply h34
      omega
    refine wIf (fun h92 => ?_) (fun h92 => ?_)
    · -- an escape
      have hc92 : c = 92 := by simp only [beq_iff_eq] at h92; exact_mod_cast h92
      have hbt : bt s (p + 1 + pos) = 92 := by
        by_cases hl : bt s (p + 1 + pos) < 128
        · have := hlow hl
          simp only [Prod.mk.injEq] at this
          omega
        · have := h128 (by omega); omega
      have hwd : wd = 1 := by
        have := hlow (by omega)
        simp only [Prod.mk.injEq] at this
        exact this.2
      subst hwd
      refine wChk (by simp; omega) ?_
      have eC : body.extract (pos : Int).toNat (body.size : Int).toNat = s.extract (p + 1 + pos) s.size := hcut pos
      rw [eC]
      have hE : esc (s.extract (p + 1 + pos) s.size) 0 = esc s (p + 1 + pos) := esc_ext (by omega)
      have hb92 : bt (s.extract (p + 1 + pos) s.size) 0 = 92 := by rw [bt_ext]; exact hbt
      have hcall := escape_c (s.extract (p + 1 + pos) s.size) (by rw [size_ext]; omega) hb92
      rw [hE] at hcall
      refine wG hcall (_, _, ()) rfl ?_
      cases hes : esc s (p + 1 + pos) with
      | none =>
        refine wBlk (wIft (by rfl) ?_)
        rw [e2]
        exact wGive (hok H _ (by rw [hst]; exact strTok_escN hq hbt hes))
      | some nw =>
        obtain ⟨n, k⟩ := nw
        obtain ⟨hk2, hkz, hns, hka⟩ := esc_facts hbt hes
        refine wBlk (wIff ?_ (wJump () rfl ?_))
        · show ((k : Int) == 0) = false
          simp
          omega
        refine wCall (appendRune_c n hns hrow H.keep.size (by omega)) ?_
        rintro x w6 ⟨v', rfl, hk6, hrow6⟩
        refine ⟨(v', ()), rfl, ?_⟩
        have H6 := H.app hk6 (fun x hx y hy => ?_) (fun x hx => .inr (hrow.ge x hx).1)
        · have hnit : it ∉ rowB v' := fun hm => by
            obtain ⟨cur, hc⟩ := hrow6.obj it hm
            have := H6.get (i := 1) rfl
            rw [hc] at this
            cases this
          have e4 : IntKind.wrap .i64 ((pos : Int) + (k : Int)) = ((pos + k : Nat) : Int) := by rw [wrap64 (by omega) (by omega)]; omega
          have hm2 : max (pos + 1) (pos + k) = pos + k := by omega
          have hul := utf_len hns
          refine wJump (v', ((pos + k : Nat) : Int), ()) ?_ ⟨body.size - (pos + 1), by omega, pos + 1, pos + k, acc ++ utf n, rfl, by omega, rfl, H6, hrow6, hnit, ?_, by omega, fun j hj hj' => ?_, ?_⟩
          · show _ = [Value.slice v'.a v'.len v'.cap, .int .i64 ((pos + k : Nat) : Int)]
            rw [← e4]
            rfl
          · rw [hm2, List.length_append]; omega
          · have := hka (j - pos) (by omega)
            rwa [show p + 1 + pos + (j - pos) = p + 1 + j from by omega] at this
          · rw [hm2, hst, strTok_escS hq hbt hes, Nat.add_assoc (p + 1)]
        · rcases List.mem_cons.1 hy with rfl | hy
          · have := (hrow.ge x hx).1
            show r ≠ x
            omega
          · have hy := List.mem_singleton.1 hy
            subst hy
            exact fun e => hitv (by rw [show it = x from e]; exact hx)
    · -- a character
      have hbt92 : bt s (p + 1 + pos) ≠ 92 := fun h => by
        have := hlow (by omega)
        simp only [Prod.mk.injEq] at this
        simp only [beq_eq_false_iff_ne, ne_eq] at h92
        apply h92
        omega
      have hbadD : badC s (p + 1 + pos) = (decide ((c : Int) < 32) || (decide ((c : Int) = 127) || (decide (c = 65533) && !(decide (p + 1 + pos + 3 ≤ s.size ∧ bt s (p + 1 + pos) = 239 ∧ bt s (p + 1 + pos + 1) = 191 ∧ bt s (p + 1 + pos + 2) = 189))))) := by
        unfold badC
        rw [hD]
      refine wBlkK (fun xs w' => w' = w5 ∧ xs.1 = badC s (p + 1 + pos)) ?_ (fun rest => ?_)
      · rintro ⟨b', ⟨⟩⟩ w' ⟨rfl, hb'⟩
        refine wIf (fun h1 => ?_) (fun h1 => ?_)
        · rw [e2]
          exact wGive (hok H _ (by rw [hst]; exact strTok_bad hq hbt34 hbt92 (by rw [← hb']; exact h1)))
        · have hgood : badC s (p + 1 + pos) = false := by rw [← hb']; exact h1
          refine wCall (appendRune_c (c : Int) hsc hrow H.keep.size (by omega)) ?_
          rintro x w6 ⟨v', rfl, hk6, hrow6⟩
          refine ⟨(v', ()), rfl, ?_⟩
          have H6 := H.app hk6 (fun x hx y hy => ?_) (fun x hx => .inr (hrow.ge x hx).1)
          · have hnit : it ∉ rowB v' := fun hm => by
              obtain ⟨cur, hc⟩ := hrow6.obj it hm
              have := H6.get (i := 1) rfl
              rw [hc] at this
              cases this
            have hm2 : max (pos + wd) sk = pos + wd := by omega
            have hul := utf_len hsc
            refine wJump (v', (sk : Int), ()) rfl ⟨body.size - (pos + wd), by omega, pos + wd, sk, acc ++ utf c, rfl, by omega, rfl, H6, hrow6, hnit, ?_, by omega, fun j hj hj' => by omega, ?_⟩
            · rw [hm2, List.length_append]; omega
            · rw [hm2, hst, strTok_chr hq hbt34 hbt92 hgood, hD, Nat.add_assoc (p + 1)]
          · rcases List.mem_cons.1 hy with rfl | hy
            · have := (hrow.ge x hx).1
              show r ≠ x
              omega
            · have hy := List.mem_singleton.1 hy
              subst hy
              exact fun e => hitv (by rw [show it = x from e]; exact hx)
      · rw [hbadD] at rest
        refine wIf (fun h1 => wJump (_, ()) rfl (rest _ _ ⟨rfl, ?_⟩)) (fun h1 => ?_)
        · show true = _
          rw [h1]; rfl
        refine wIf (fun h2 => wJump (_, ()) rfl (rest _ _ ⟨rfl, ?_⟩)) (fun h2 => ?_)
        · show true = _
          simp only [beq_iff_eq] at h2
          rw [h1, decide_eq_true h2]; rfl
        refine wIf (fun h3 => ?_) (fun h3 => wJump (_, ()) rfl (rest _ _ ⟨rfl, ?_⟩))
        · refine wChk (by simp; omega) ?_
          have eC : body.extract (pos : Int).toNat (body.size : Int).toNat = s.extract (p + 1 + pos) s.size := hcut pos
          rw [eC]
          refine wG (hasPrefix_c _ 239 191 189) (_, ()) rfl ?_
          refine wJump (_, ()) rfl (rest _ _ ⟨rfl, ?_⟩)
          have hpe : pre3 (s.extract (p + 1 + pos) s.size) (239 : UInt8).toNat (191 : UInt8).toNat (189 : UInt8).toNat = _ := pre3_ext (by omega)
          show (!_) = _
          rw [hpe]
          simp only [beq_iff_eq] at h3
          simp only [beq_eq_false_iff_ne, ne_eq] at h2
          rw [h1, decide_eq_false h2, decide_eq_true (show c = 65533 by have h4 : (c : Int) = 65533 := h3; omega)]
          rfl
        · show false = _
          simp only [beq_eq_false_iff_ne, ne_eq] at h2 h3
          rw [h1, decide_eq_false h2, decide_eq_false (show ¬ c = 65533 from fun e => h3 (by rw [e]; rfl))]
          rfl
  · have hm : max pos sk = body.size := by omega
    rw [hm] at hst
    have : strTok s (p + 1) [] = .error s.size := by rw [hst]; exact strTok_end (by omega)
    refine wL H 0 _ rfl rfl rfl ?_
    exact wGive (hok H _ this)

end Go.Proofs.Cf
