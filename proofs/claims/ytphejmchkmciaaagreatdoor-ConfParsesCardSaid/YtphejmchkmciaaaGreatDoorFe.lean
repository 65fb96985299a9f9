/- A region that draws its order: one walk of a canonical order, with what the loads read held behind each operation with an effect, serves every order. No statement about the program stands here. -/
import Derived.Test.YtphejmchkmciaaaGreatDoorFd
namespace Go.WF
section
variable {P : Program} {R : Ending → World → Prop} {ops : Array Oper}

abbrev Loads := List (Nat × Addr × List Value)

/-- An operation with an effect that waits for load i has come up. -/
def Shut (P : Program) (ops : Array Oper) (listed : Array Bool) (i : Nat) : Prop := ∃ d, listed.getD d false = true ∧ isEff P ops d = true ∧ waitsT ops ops.size d i = true

/-- What the loads gave stands still, but for those for which something with an effect has waited. -/
def V (P : Program) (ops : Array Oper) (L : Loads) (listed : Array Bool) (w : World) : Prop := ∀ p ∈ L, Shut P ops listed p.1 ∨ cellsAt w p.2.1 p.2.2

/-- What has come up has come up behind what it waits for. -/
def Down (ops : Array Oper) (listed : Array Bool) : Prop := ∀ j oj, ops[j]? = some oj → listed.getD j false = true → ∀ e ∈ oj.after, Region.binds .any e = true → listed.getD e.on false = true

theorem getD_set (listed : Array Bool) (i j : Nat) (d : Bool) (h : i < listed.size) : (listed.setIfInBounds i true).getD j d = if i = j then true else listed.getD j d := by
  simp only [Array.getD_eq_getD_getElem?, Array.getElem?_setIfInBounds]
  by_cases hij : i = j
  · subst hij; simp [h]
  · simp [hij]

theorem ready_spec {listed : Array Bool} {i : Nat} (h : i ∈ Region.ready .any ops listed) : listed.getD i true = false ∧ i < listed.size ∧ ∃ oi, ops[i]? = some oi ∧ ∀ e ∈ oi.after, Region.binds .any e = true → listed.getD e.on false = true := by
  obtain ⟨h1, oi, h2, h3⟩ := mem_ready.1 h
  refine ⟨h1, ?_, oi, h2, h3⟩
  rcases Nat.lt_or_ge i listed.size with h' | h'
  · exact h'
  · simp [Array.getD_eq_getD_getElem?, Array.getElem?_eq_none h'] at h1

theorem Down.set {listed : Array Bool} {i : Nat} (hd : Down ops listed) (h : i ∈ Region.ready .any ops listed) : Down ops (listed.setIfInBounds i true) := by
  obtain ⟨h1, hs, oi, h2, h3⟩ := ready_spec h
  intro j oj hj hl e he hb
  rw [getD_set _ _ _ _ hs] at hl ⊢
  split
  · rfl
  · by_cases hij : i = j
    · subst hij
      rw [h2] at hj
      cases hj
      exact h3 e he hb
    · simp only [hij, if_false] at hl
      exact hd j oj hj hl e he hb

/-- Who waits for something comes up behind it. -/
theorem Down.waits {listed : Array Bool} (hd : Down ops listed) {i : Nat} : ∀ (n j : Nat), waitsT ops n j i = true → (listed.getD j false = true ∨ j ∈ Region.ready .any ops listed) → listed.getD i false = true
  | 0, j, h, _ => by simp [waitsT] at h
  | n + 1, j, h, hj => by
    unfold waitsT at h
    split at h
    · rename_i oj hoj
      obtain ⟨e, he, hb⟩ := Array.any_eq_true'.1 h
      simp only [Bool.and_eq_true, Bool.or_eq_true, beq_iff_eq] at hb
      have hon : listed.getD e.on false = true := by
        rcases hj with hj | hj
        · exact hd j oj hoj hj e he hb.1
        · obtain ⟨_, _, o', h2, h3⟩ := ready_spec hj
          rw [hoj] at h2
          cases h2
          exact h3 e he hb.1
      rcases hb.2 with rfl | hw
      · exact hon
      · exact hd.waits n e.on hw (.inl hon)
    · cases h

/-- Whatever order is picked from here on, and what the loads gave stands still behind every operation. -/
def wpAnyV (P : Program) (ops : Array Oper) (Q : Exit → Act → World → Prop) (L : Loads) : Nat → Array Bool → Act → World → Prop
  | 0, listed, a, w => Region.ready .any ops listed = [] ∧ Q .normal a w
  | fuel + 1, listed, a, w =>
    (Region.ready .any ops listed = [] → Q .normal a w) ∧
    ∀ i ∈ Region.ready .any ops listed, wpOp P ops Q i (fun a' w' => V P ops L (listed.setIfInBounds i true) w' ∧ wpAnyV P ops Q L fuel (listed.setIfInBounds i true) a' w') a w

theorem wpAny_of_V {Q : Exit → Act → World → Prop} {L : Loads} : ∀ (fuel : Nat) (listed : Array Bool) (a : Act) (w : World), wpAnyV P ops Q L fuel listed a w → wpAny P .any ops Q fuel listed a w
  | 0, _, _, _, h => h
  | fuel + 1, _, _, _, h => ⟨h.1, fun i hi => wpOp_mono (fun a' w' h' => wpAny_of_V fuel _ a' w' h'.2) (h.2 i hi)⟩

theorem wpAnyV_mono {Q : Exit → Act → World → Prop} {L L' : Loads} (hl : ∀ p ∈ L, p ∈ L') : ∀ (fuel : Nat) (listed : Array Bool) (a : Act) (w : World), wpAnyV P ops Q L' fuel listed a w → wpAnyV P ops Q L fuel listed a w
  | 0, _, _, _, h => h
  | fuel + 1, _, _, _, h => ⟨h.1, fun i hi => wpOp_mono (fun a' w' h' => ⟨fun p hp => h'.1 p (hl p hp), wpAnyV_mono hl fuel _ a' w' h'.2⟩) (h.2 i hi)⟩

theorem V.set {L : Loads} {listed : Array Bool} {w : World} {j : Nat} (h : V P ops L listed w) (hj : j < listed.size) : V P ops L (listed.setIfInBounds j true) w := by
  intro p hp
  rcases h p hp with ⟨d, h1, h2, h3⟩ | h
  · refine .inl ⟨d, ?_, h2, h3⟩
    rw [getD_set _ _ _ _ hj]
    split
    · rfl
    · exact h1
  · exact .inr h

/-- **Taken first**: an operation that may come up, leaves the world alone, and yields one value in every world in which what the loads gave stands still. -/
theorem wpAnyV_first {Q : Exit → Act → World → Prop} {L : Loads} {i : Nat} {oi : Oper} {v : Value} (hi : ops[i]? = some oi) (he : isEff P ops i = false)
    (hsel : ∀ (j : Nat) (o : Oper) cs b, ops[j]? = some o → o.op ≠ .select cs b) (hQ : ∀ c a w, Q (.panic c) (a.put oi.dst v) w → Q (.panic c) a w) :
    ∀ (fuel : Nat) (listed : Array Bool) (a : Act) (w : World), Down ops listed →
      (∀ j oj, ops[j]? = some oj → j ≠ i → listed.getD j true = false → (∀ e ∈ oj.after, Region.binds .any e = true → e.on ≠ i) → oi.apart ops oj = true) →
      i ∈ Region.ready .any ops listed →
      ((Region.wanted oi (yielded ops a.tmps) = true ∧ ∀ listed' w', Down ops listed' → listed'.getD i false = false → V P ops L listed' w' → (execOp a.eval oi).run P w' = .ok (.value v) w') ∨
        (Region.wanted oi (yielded ops a.tmps) = false ∧ v = undef)) →
      V P ops L listed w →
      wpAnyV P ops Q L fuel (listed.setIfInBounds i true) (a.put oi.dst v) w → wpAnyV P ops Q L (fuel + 1) listed a w := by
  intro fuel
  induction fuel with
  | zero =>
    intro listed a w hd _ hr hy hS H
    refine ⟨fun h => (by rw [h] at hr; cases hr), fun j hj => ?_⟩
    obtain ⟨hun, hsz, _⟩ := ready_spec hr
    have hun' : listed.getD i false = false := by
      simp only [Array.getD_eq_getD_getElem?] at hun ⊢
      simp [hsz] at hun ⊢; exact hun
    by_cases hji : j = i
    · subst hji
      unfold wpOp
      simp only [hi]
      have hV' : V P ops L (listed.setIfInBounds j true) w := hS.set hsz
      rcases hy with ⟨hw, hv⟩ | ⟨hw, rfl⟩
      · simp only [hw, if_true, Oper.wp, hv listed w hd hun' hS, Oper.upon]; exact .inl ⟨hV', H⟩
      · simp only [hw, Bool.false_eq_true, if_false]; exact ⟨hV', H⟩
    · have := ready_mono hj hji
      rw [H.1] at this
      cases this
  | succ fuel ih =>
    intro listed a w hd hfree hr hy hS H
    obtain ⟨hun, hsz, _⟩ := ready_spec hr
    have hun' : listed.getD i false = false := by
      simp only [Array.getD_eq_getD_getElem?] at hun ⊢
      simp [hsz] at hun ⊢; exact hun
    refine ⟨fun h => (by rw [h] at hr; cases hr), fun j hj => ?_⟩
    by_cases hji : j = i
    · subst hji
      unfold wpOp
      simp only [hi]
      have hV' : V P ops L (listed.setIfInBounds j true) w := hS.set hsz
      rcases hy with ⟨hw, hv⟩ | ⟨hw, rfl⟩
      · simp only [hw, if_true, Oper.wp, hv listed w hd hun' hS, Oper.upon]; exact .inl ⟨hV', H⟩
      · simp only [hw, Bool.false_eq_true, if_false]; exact ⟨hV', H⟩
    · have h1 := H.2 j (ready_mono hj hji)
      obtain ⟨hjun, oj, hoj, hall⟩ := mem_ready.1 hj
      obtain ⟨_, hjsz, _⟩ := ready_spec hj
      have hnot : ∀ e ∈ oj.after, Region.binds .any e = true → e.on ≠ i := fun e he hb heq => by
        have h1 := hall e he hb
        rw [heq, hun'] at h1
        cases h1
      -- the value, as an operation that yields in the worlds at hand
      have hyS : YieldsIf P ops (fun w' => ∃ listed', Down ops listed' ∧ listed'.getD i false = false ∧ V P ops L listed' w') oi v a := by
        rcases hy with ⟨hw, hv⟩ | h
        · exact .inl ⟨hw, fun w' ⟨l', h1, h2, h3⟩ => hv l' w' h1 h2 h3⟩
        · exact .inr h
      have h2 := wpOp_putIf hoj (hfree j oj hoj hji hjun hnot) (fun cs b => hsel i oi cs b hi) (fun cs b => hsel j oj cs b hoj) hQ hyS h1
      have hfree' : ∀ k ok, ops[k]? = some ok → k ≠ i → (listed.setIfInBounds j true).getD k true = false →
          (∀ e ∈ ok.after, Region.binds .any e = true → e.on ≠ i) → oi.apart ops ok = true := fun k ok hk hki hun hno => by
        refine hfree k ok hk hki ?_ hno
        rw [getD_set _ _ _ _ hjsz] at hun
        by_cases hjk : j = k
        · subst hjk; exact hjun
        · simp only [hjk, if_false] at hun; exact hun
      refine wpOp_mono (fun a' w' h3 => ?_) h2
      obtain ⟨hyA, hVA, hrest⟩ := h3
      have hV' : V P ops L (listed.setIfInBounds j true) w' := fun p hp => (hVA p hp).imp (fun ⟨d, hd1, hd2, hd3⟩ => ⟨d, by
        rw [getD_set _ _ _ _ (by simpa using hjsz), getD_set _ _ _ _ hsz] at hd1
        rw [getD_set _ _ _ _ hjsz]
        by_cases hjd : j = d
        · simp [hjd]
        · simp only [hjd, if_false] at hd1 ⊢
          by_cases hid : i = d
          · subst hid; rw [he] at hd2; cases hd2
          · simp only [hid, if_false] at hd1; exact hd1, hd2, hd3⟩) id
      refine ⟨hV', ih (listed.setIfInBounds j true) a' w' (hd.set hj) hfree' (ready_mono hr (Ne.symm hji)) ?_ hV' ?_⟩
      · rcases hyA with ⟨hw, hv⟩ | h
        · exact .inl ⟨hw, fun l' w'' h1 h2 h3 => hv w'' ⟨l', h1, h2, h3⟩⟩
        · exact .inr h
      · rw [Array.setIfInBounds_comm _ _ hji]
        exact hrest
end
end Go.WF
