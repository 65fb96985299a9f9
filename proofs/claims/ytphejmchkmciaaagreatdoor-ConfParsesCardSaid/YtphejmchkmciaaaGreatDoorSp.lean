/- The program reads a resource. -/
import Derived.Test.YtphejmchkmciaaaGreatDoorSo
set_option maxRecDepth 100000
namespace Go.Proofs.Cf
open Go.WF

theorem usual_c (w : World) : Calls Tryz.prog 12 #[] w fun x w' => x = .returned (tupOf [.agg (bencs K23 (cfgV (bs []) (bs []) usualV)).toArray]) ∧ Keep [] w w' := by
  refine calls_tree hm Tryz.func12 d12_ok ?_
  unfold d12
  have H : ST w [] w [] := ST.nil [] w
  refine wN H fun b w1 hb H => ?_
  refine wSA H 0 rfl rfl rfl rfl fun w2 H => ?_
  refine wLA H 0 (cfgV (bs []) (bs []) usualV) rfl rfl rfl ?_
  exact wRet ⟨rfl, H.keep⟩

theorem together_c (nm sc : ByteArray) (f : Nat → Int) (w : World) : Calls Tryz.prog 20 [.agg (bencs K23 (cfgV nm sc f)).toArray].toArray w fun x w' => x = .returned (tupOf [.bool (togB f)]) ∧ Keep [] w w' := by
  refine calls_tree hm Tryz.func20 (d20_ok (cfgV nm sc f)) ?_
  unfold d20
  have H : ST w [] w [] := ST.nil [] w
  refine wN H fun b w1 hb H => ?_
  refine wBlk ?_
  refine wL H 0 (f 7) (add_mk _ _ _) rfl rfl ?_
  refine wL H 0 (f 6) (add_mk _ _ _) rfl rfl ?_
  refine wIf (fun h => ?_) (fun h => ?_)
  · refine wL H 0 (f 5) (add_mk _ _ _) rfl rfl ?_
    refine wL H 0 (f 15) (add_mk _ _ _) rfl rfl ?_
    refine wL H 0 (f 9) (add_mk _ _ _) rfl rfl ?_
    refine wL H 0 (f 8) (add_mk _ _ _) rfl rfl ?_
    refine wJump (_, ()) rfl (wRet ⟨?_, H.keep⟩)
    unfold togB
    rw [h, Bool.true_and]
  · refine wJump (_, ()) rfl (wRet ⟨?_, H.keep⟩)
    unfold togB
    rw [h, Bool.false_and]

theorem progV_full (st : St) (i : Nat) (h1 : i ≠ 1) (h2 : i ≠ 2) : progV st i = fullV st i := by
  simp [progV, fullV, usualV, h1, h2]

theorem togB_prog (st : St) : togB (progV st) = togB (fullV st) := by
  unfold togB
  rw [progV_full st 7 (by decide) (by decide), progV_full st 6 (by decide) (by decide), progV_full st 5 (by decide) (by decide), progV_full st 15 (by decide) (by decide), progV_full st 9 (by decide) (by decide), progV_full st 8 (by decide) (by decide)]

theorem blankTo_idem (s : ByteArray) (i : Nat) : blankTo s (blankTo s i) = blankTo s i := by
  induction h : s.size - i using Nat.strongRecOn generalizing i with
  | _ n ih =>
    by_cases hlt : i < s.size
    · by_cases hb : isBlank (bt s i) = true
      · have e : blankTo s i = blankTo s (i + 1) := by rw [blankTo, dif_pos hlt, if_pos hb]
        rw [e]
        exact ih (s.size - (i + 1)) (by omega) (i + 1) rfl
      · by_cases h35 : bt s i = 35
        · have e : blankTo s i = blankTo s (lineEnd s (i + 1)) := by rw [blankTo, dif_pos hlt, if_neg hb, if_pos h35]
          rw [e]
          have := lineEnd_ge s (i + 1)
          exact ih (s.size - lineEnd s (i + 1)) (by omega) (lineEnd s (i + 1)) rfl
        · have e : blankTo s i = i := by rw [blankTo, dif_pos hlt, if_neg hb, if_neg h35]
          rw [e, e]
    · have e : blankTo s i = i := by rw [blankTo, dif_neg hlt]
      rw [e, e]

theorem lexS_blank (s : ByteArray) (p : Nat) : lexS s (blankTo s p) = lexS s p := by
  unfold lexS
  rw [blankTo_idem]

theorem lexS_end {s : ByteArray} {p : Nat} (h : ¬ blankTo s p < s.size) : lexS s p = .fin true s.size := by
  unfold lexS
  simp only []
  rw [if_neg h]

theorem lexS_fin {s : ByteArray} {p : Nat} {eb : Bool} {pos : Nat} (h : blankTo s p < s.size) (hl : lexS s p = .fin eb pos) : eb = false := by
  unfold lexS at hl
  simp only [] at hl
  rw [if_pos h] at hl
  split at hl
  · cases hl
  · split at hl
    · cases hl
    · split at hl
      · split at hl
        · cases hl
        · cases hl; rfl
      · cases hl; rfl

/-- The section in which a key's part stands. -/
def secN (i : Nat) : ByteArray := if i = 0 then protocolS else (kd i).sec

/-- What stands in no part that was read is not there. -/
def GlobInv (seen : List ByteArray) (st : St) : Prop := (∀ i, i < 16 → hasK seen (secN i) = false → st.th i = false) ∧ (hasK seen netS = false → st.sth = false)

def DevInv (dks : List ByteArray) (st : St) : Prop := hasK dks (kd 1).nm = st.th 1 ∧ hasK dks (kd 2).nm = st.th 2

theorem sec_secN {i : Nat} {v : ByteArray} (h : (kd i).sec = v) (hv : v = deviceS ∨ v = netS ∨ v = syncerS) : secN i = v := by
  unfold secN
  split
  · rename_i h0
    subst h0
    have : (kd 0).sec = bs [] := rfl
    rw [this] at h
    exfalso
    rcases hv with rfl | rfl | rfl <;> exact absurd h (by decide)
  · exact h

theorem GlobInv.sec {seen : List ByteArray} {st : St} (h : GlobInv seen st) {v : ByteArray} (hv : v = deviceS ∨ v = netS ∨ v = syncerS) (hn : hasK seen v = false) : SecInv v [] st :=
  ⟨fun i hi hs => by rw [h.1 i hi (by rw [sec_secN hs hv]; exact hn)]; rfl, fun hs => by rw [h.2 (by rw [← hs]; exact hn)]; rfl⟩

theorem GlobInv.next {seen : List ByteArray} {st st' : St} (h : GlobInv seen st) {v : ByteArray} (h1 : ∀ i, i < 16 → (kd i).sec ≠ v → st'.th i = st.th i) (h2 : v ≠ netS → st'.sth = st.sth) (hv : v = deviceS ∨ v = netS ∨ v = syncerS) : GlobInv (seen ++ [v]) st' := by
  refine ⟨fun i hi hs => ?_, fun hs => ?_⟩
  · rw [hasK_snoc] at hs
    simp only [Bool.or_eq_false_iff, decide_eq_false_iff_not] at hs
    have hne : (kd i).sec ≠ v := fun e => hs.2 (sec_secN e hv)
    rw [h1 i hi hne]
    exact h.1 i hi hs.1
  · rw [hasK_snoc] at hs
    simp only [Bool.or_eq_false_iff, decide_eq_false_iff_not] at hs
    rw [h2 (fun e => hs.2 e.symm)]
    exact h.2 hs.1

theorem GlobInv.prot {seen : List ByteArray} {st st' : St} (h : GlobInv seen st) (h1 : ∀ i, st'.th i = (st.th i || decide ((some 0 : Option Nat) = some i))) (h2 : st'.sth = (st.sth || decide ((some 0 : Option Nat) = none))) : GlobInv (seen ++ [protocolS]) st' := by
  refine ⟨fun i hi hs => ?_, fun hs => ?_⟩
  · rw [hasK_snoc] at hs
    simp only [Bool.or_eq_false_iff, decide_eq_false_iff_not] at hs
    have hne : ¬ (0 = i) := fun e => hs.2 (by rw [← e]; rfl)
    rw [h1, h.1 i hi hs.1]
    simp [hne]
  · rw [hasK_snoc] at hs
    simp only [Bool.or_eq_false_iff, decide_eq_false_iff_not] at hs
    rw [h2, h.2 hs.1]
    rfl

theorem find_prot : findFrom (bs []) protocolS 0 = some 0 := by
  rw [findFrom, dif_pos (by omega), if_pos ⟨rfl, rfl⟩]

theorem find_noprot {v : ByteArray} (h : v ≠ protocolS) : findFrom (bs []) v 0 = none := by
  cases hf : findFrom (bs []) v 0 with
  | none => rfl
  | some j =>
    obtain ⟨hj, h1, h2⟩ := findFrom_some hf
    exfalso
    have hd : ∀ j : Fin 16, (kd j.val).sec = bs [] → j.val = 0 := by decide +kernel
    have := hd ⟨j, hj⟩ h1
    simp only [] at this
    subst this
    exact h h2.symm

/-- What a resource's reading comes to. -/
def ResourceR (r : Nat) (w : World) (o : PR St) (x : Ending) (w' : World) : Prop :=
  Keep [r] w w' ∧ match o with
    | .ok st => x = .returned (tupOf [.agg (cfgC st.nm st.sc (progV st)).toArray])
    | .fault pos code => x = .panicked (faultL pos code)

theorem ResourceR.fault {r : Nat} {w w' : World} {o : PR St} {pos : Nat} {code : Int} {L : HL} (H : ST w [r] w' L) (h : o = .fault pos code) : ResourceR r w o (.panicked (faultL pos code)) w' := by
  subst h
  exact ⟨H.keep, rfl⟩

end Go.Proofs.Cf
