/- A region: in the text's order, and in whatever order the tape picks. No statement about the program stands here. -/
import Derived.Test.YtphejmchkmciaaaGreatDoorFc
namespace Go.WF
section
variable {P : Program} {R : Ending → World → Prop}

/-! ### The frame -/
structure Agr (fr : Fr) (tmps : Array Value) : Prop where
  len : fr.length ≤ tmps.size
  val : ∀ i v, Fr.get fr i = some v → tmps[i]? = some v

theorem get_set (fr : Fr) (d i : Nat) (x : Option Value) : Fr.get (fr.set d x) i = if d = i ∧ d < fr.length then x else Fr.get fr i := by
  unfold Fr.get
  rw [List.getElem?_set]
  by_cases h : d = i
  · subst h
    by_cases hl : d < fr.length
    · simp [hl]
    · simp [hl]
  · simp [h]

theorem Agr.put {fr : Fr} {a : Act} (h : Agr fr a.tmps) (dst : Option Tmp) (v : Value) : Agr (put fr dst v) (a.put dst v).tmps := by
  cases dst with
  | none => exact h
  | some d =>
    refine ⟨by simpa [WF.put, Act.put] using h.len, fun i u hu => ?_⟩
    simp only [WF.put] at hu
    rw [get_set] at hu
    simp only [Act.put, Array.getElem?_setIfInBounds]
    by_cases hd : d = i
    · subst hd
      by_cases hl : d < fr.length
      · have hlt : d < a.tmps.size := Nat.lt_of_lt_of_le hl h.len
        simp only [hl, and_true, if_true] at hu
        simp [hlt, hu]
      · simp only [hl, and_false, if_false] at hu
        have : fr.length ≤ d := Nat.le_of_not_lt hl
        simp [Fr.get, List.getElem?_eq_none this] at hu
    · simp only [hd, false_and, if_false] at hu
      simp only [hd, if_false]
      exact h.val i u hu

theorem Agr.set {fr : Fr} {tmps : Array Value} (h : Agr fr tmps) {t : Nat} {v : Value} (hv : tmps[t]? = some v) : Agr (fr.set t (some v)) tmps := by
  refine ⟨by simpa using h.len, fun i u hu => ?_⟩
  rw [get_set] at hu
  split at hu
  · rename_i hc
    obtain ⟨rfl, _⟩ := hc
    simp only [Option.some.injEq] at hu
    rw [← hu]; exact hv
  · exact h.val i u hu

theorem Agr.eval {fr : Fr} {a : Act} (h : Agr fr a.tmps) {x : Operand} (hk : known fr x = true) : ev fr x = a.eval x := by
  cases x with
  | tmp t =>
    simp only [known] at hk
    obtain ⟨v, hv⟩ := Option.isSome_iff_exists.1 hk
    have := h.val t v hv
    simp [ev, Act.eval, hv, Array.getD_eq_getD_getElem?, this]
  | const v => rfl
  | global g => rfl
  | func f => rfl

theorem Agr.exec {fr : Fr} {a : Act} {o : Oper} (h : Agr fr a.tmps) (hs : ∀ cs b, o.op ≠ .select cs b) (hk : o.op.operands.all (known fr) = true) : execOp a.eval o = execOp (ev fr) o :=
  execOp_congr o hs fun x hx => (h.eval (by
    have := Array.all_eq_true'.1 hk x hx
    exact this)).symm

/-- The slots outside a list are as they were. -/
structure Out (ds : List (Nat × TypeId)) (fr fr' : Fr) : Prop where
  len : fr'.length = fr.length
  same : ∀ i, i ∉ ds.map (·.1) → Fr.get fr' i = Fr.get fr i

theorem Out.refl (ds : List (Nat × TypeId)) (fr : Fr) : Out ds fr fr := ⟨rfl, fun _ _ => rfl⟩

theorem Out.trans {ds : List (Nat × TypeId)} {a b c : Fr} (h : Out ds a b) (h' : Out ds b c) : Out ds a c := ⟨h'.len.trans h.len, fun i hi => (h'.same i hi).trans (h.same i hi)⟩

theorem Out.mono {ds es : List (Nat × TypeId)} {a b : Fr} (h : Out ds a b) (hs : ∀ x, x ∈ ds.map (·.1) → x ∈ es.map (·.1)) : Out es a b := ⟨h.len, fun i hi => h.same i fun h' => hi (hs i h')⟩

theorem Out.set {ds : List (Nat × TypeId)} {fr : Fr} {t : Nat} {x : Option Value} (h : t ∈ ds.map (·.1)) : Out ds fr (fr.set t x) := by
  refine ⟨by simp, fun i hi => ?_⟩
  rw [get_set, if_neg]
  rintro ⟨rfl, _⟩
  exact hi h

theorem Out.put {ds : List (Nat × TypeId)} {fr : Fr} {d : Option Tmp} {v : Value} (h : ∀ t, d = some t → t ∈ ds.map (·.1)) : Out ds fr (put fr d v) := by
  cases d with
  | none => exact Out.refl _ _
  | some t => exact Out.set (h t rfl)

theorem mem_dstsOps {o : Oper} {d : Tmp} (hd : o.dst = some d) : ∀ {l : List Oper}, o ∈ l → d ∈ (dstsOps l).map (·.1)
  | [], h => by cases h
  | p :: l, h => by
    rcases List.mem_cons.1 h with rfl | h
    · simp [dstsOps, hd]
    · have ih := mem_dstsOps hd h
      unfold dstsOps
      split
      · exact List.mem_cons_of_mem _ ih
      · exact ih

theorem guardSlot_mem {ops : Array Oper} {o : Oper} {t : Tmp} (h : guardSlot ops o = some t) : t ∈ (dstsOps ops.toList).map (·.1) := by
  unfold guardSlot at h
  split at h
  · rename_i j _ _
    cases hj : ops[j]? with
    | none => simp [hj] at h
    | some oj =>
      simp only [hj, Option.bind_some] at h
      exact mem_dstsOps h (by
        have := Array.mem_of_getElem? hj
        exact Array.mem_toList_iff.2 this)
  · cases h

theorem known_set {fr : Fr} {t : Nat} {v : Value} {x : Operand} (h : known fr x = true) : known (fr.set t (some v)) x = true := by
  cases x with
  | tmp i =>
    simp only [known] at h ⊢
    rw [get_set]
    split
    · rfl
    · exact h
  | _ => rfl

/-! ### A guard -/
theorem guard_sound {ops : Array Oper} {o : Oper} {fr : Fr} {a : Act} {run skip : Fr → T} {w : World} (h : Agr fr a.tmps) (hg : (guardT ops o fr run skip).wp P R w) :
    ∃ fr', Agr fr' a.tmps ∧ Out (dstsOps ops.toList) fr fr' ∧ (∀ x, known fr x = true → known fr' x = true) ∧
      (if Region.wanted o (yielded ops a.tmps) then (run fr').wp P R w else (skip fr').wp P R w) := by
  unfold guardT at hg
  split at hg
  · rename_i hgd
    exact ⟨fr, h, Out.refl _ _, fun _ hx => hx, by simp only [Region.wanted, hgd, if_true]; exact hg⟩
  · rename_i j want hgd
    split at hg
    · exact hg.elim
    · rename_i t ht
      have hy : ∀ v, a.tmps[t]? = some v → yielded ops a.tmps j = (match v with | .bool b => some b | _ => none) := by
        intro v hv
        unfold guardSlot at ht
        rw [hgd] at ht
        simp only at ht
        unfold yielded
        rw [ht]
        simp only [Option.bind_some, hv]
        cases v <;> rfl
      split at hg
      · rename_i b hb
        have hv := h.val t _ hb
        have hyb := hy _ hv
        simp only at hyb
        rw [cond_iff] at hg
        cases b with
        | true =>
          refine ⟨_, h.set hv, Out.set (guardSlot_mem ht), fun _ hx => known_set hx, ?_⟩
          have := hg.1 rfl
          simp only [Region.wanted, hgd, hyb]
          cases want <;> simpa using this
        | false =>
          refine ⟨_, h.set hv, Out.set (guardSlot_mem ht), fun _ hx => known_set hx, ?_⟩
          have := hg.2 rfl
          simp only [Region.wanted, hgd, hyb]
          cases want <;> simpa using this
      · rename_i b hb
        have hv := h.val t _ hb
        have hyb := hy _ hv
        refine ⟨fr, h, Out.refl _ _, fun _ hx => hx, ?_⟩
        simp only [Region.wanted, hgd, hyb]
        simpa using hg
      · exact hg.elim

/-! ### What a region comes to -/
/-- Behind a region. -/
def QR (R : Ending → World → Prop) (d : List Deferred) (next : Act → World → Prop) : Exit → Act → World → Prop
  | .normal, a, w => next a w
  | .panic c, a, w => R (.panicked c) w ∧ a.defers = d
  | .outgrown, _, w => R .outgrown w
  | _, _, _ => False

def NextK (P : Program) (R : Ending → World → Prop) (ds : List (Nat × TypeId)) (fr : Fr) (d : List Deferred) (K : Fr → T) (a : Act) (w : World) : Prop :=
  ∃ fr', Agr fr' a.tmps ∧ a.defers = d ∧ Out ds fr fr' ∧ (K fr').wp P R w

theorem NextK.out {ds : List (Nat × TypeId)} {fr fr' : Fr} {d : List Deferred} {K : Fr → T} {a : Act} {w : World} (h : NextK P R ds fr' d K a w) (ho : Out ds fr fr') : NextK P R ds fr d K a w :=
  let ⟨g, h1, h2, h3, h4⟩ := h
  ⟨g, h1, h2, ho.trans h3, h4⟩

theorem loadOp_run {ρ : Operand → Value} {o : Oper} {k : Kd} {ad : Addr} {c : Bool} (hl : loadOp P ρ o = some (k, ad, c)) (hc : c = true) (x : k.Ty) {w : World} (hx : cellsAt w ad (k.cells x)) :
    (execOp ρ o).run P w = .ok (.value (k.enc x)) w := by
  unfold loadOp at hl
  split at hl
  · rename_i t y hop
    split at hl
    · rename_i hf
      split at hl
      · rename_i p hpv
        simp only [Option.some.injEq, Prod.mk.injEq] at hl
        obtain ⟨rfl, rfl, rfl⟩ := hl
        cases p with
        | none => simp at hc
        | some ad =>
          simp only [execOp, hop, hpv]
          refine run_vOf ?_
          simp only [Instr.loadAt, Instr.sureAddr, Sem.run_bind, Sem.run_pure, Result.andThen_ok]
          exact loadVar_run hf x hx
      · cases hl
    · cases hl
  · cases hl

theorem runP_sound {o : Oper} {fr : Fr} {a : Act} {w : World} {K : Value → T} {next : Act → World → Prop} {Q : Exit → Act → World → Prop} (h : Agr fr a.tmps) (hs : ∀ cs b, o.op ≠ .select cs b)
    (hk : o.op.operands.all (known fr) = true) (hK : ∀ v w', (K v).wp P R w' → next (a.put o.dst v) w') (hp : ∀ c w', R (.panicked c) w' → Q (.panic c) a w') (ho : ∀ w', R .outgrown w' → LetsOut Q)
    (hw : (runP P fr o K).wp P R w) : o.wp P a w next Q := by
  unfold Oper.wp
  rw [h.exec hs hk]
  unfold runP at hw
  split at hw
  · split at hw
    · rename_i c v hv
      rw [chk_iff] at hw
      rw [pureOp_run hv hw.1 w]
      exact hK _ _ hw.2
    · exact hw.elim
  · split at hw
    · split at hw
      · rename_i k ad c hl
        rw [chk_iff] at hw
        obtain ⟨hc, hw⟩ := hw
        simp only [T.wp] at hw
        obtain ⟨x, hx, hw⟩ := hw
        rw [loadOp_run hl hc x hx]
        exact hK _ _ hw
      · exact hw.elim
    · exact eff_sound hK hp ho (fun _ => rfl) hw

theorem upon_mono {o : Oper} {a : Act} {K K' : Act → World → Prop} {Q Q' : Exit → Act → World → Prop} (hk : ∀ a w, K a w → K' a w) (hq : ∀ e a w, e ≠ .normal → Q e a w → Q' e a w) {r : Result Next}
    (h : o.upon P a K Q r) : o.upon P a K' Q' r := by
  cases r with
  | ok n w' =>
    cases n <;> simp only [Oper.upon] at h ⊢
    case value v => exact hk _ _ h
    case skip => exact hk _ _ h
    case defer d => exact hk _ _ h
    case enter f args =>
      refine h.mono fun e w'' he => ?_
      cases e with
      | returned v => exact hk _ _ he
      | panicked c => exact hq _ _ _ (by simp) he
      | outgrown => obtain ⟨a0, w0, h0⟩ := he; exact ⟨a0, w0, hq _ _ _ (by simp) h0⟩
    case row row args => exact Rows.mono h fun v w'' he => hk _ _ he
  | halt x w' =>
    cases x <;> simp only [Oper.upon] at h ⊢
    case panic v => exact hq _ _ _ (by simp) h

theorem wpList_mono' {ops : Array Oper} {Q Q' : Exit → Act → World → Prop} (hq : ∀ e a w, Q e a w → Q' e a w) : ∀ {l : List Oper} {a : Act} {w : World}, wpList P ops Q l a w → wpList P ops Q' l a w
  | [], a, w, h => hq _ _ _ h
  | o :: l, a, w, h => by
    simp only [wpList] at h ⊢
    split
    · rename_i hw
      simp only [hw, if_true] at h
      rcases h with h | ⟨h1, a0, w0, h2⟩
      · exact .inl (upon_mono (fun a w h => wpList_mono' hq h) (fun e a w _ h => hq e a w h) h)
      · exact .inr ⟨h1, a0, w0, hq _ _ _ h2⟩
    · rename_i hw
      simp only [hw] at h
      exact wpList_mono' hq h

theorem runP_noSelect {o : Oper} {fr : Fr} {K : Value → T} {w : World} (hw : (runP P fr o K).wp P R w) : ∀ cs b, o.op ≠ .select cs b := by
  intro cs b hop
  unfold runP at hw
  simp only [isPure, hop, isLoad, Bool.false_eq_true, if_false, effOp] at hw
  exact hw

theorem text_sound {ops : Array Oper} {d : List Deferred} {K : Fr → T} : ∀ (l : List Oper) (fr : Fr) (a : Act) (w : World), (∀ o ∈ l, o ∈ ops.toList) → Agr fr a.tmps → a.defers = d →
    (compText P ops l fr K).wp P R w → wpList P ops (QR R d (NextK P R (dstsOps ops.toList) fr d K)) l a w
  | [], fr, a, w, _, h, hd, hw => ⟨fr, h, hd, Out.refl _ _, hw⟩
  | o :: l, fr, a, w, hm, h, hd, hw => by
    simp only [compText] at hw
    split at hw
    · rename_i hkn
      simp only [opsKnown, Bool.and_eq_true] at hkn
      obtain ⟨fr', h', hout, hkno, hg⟩ := guard_sound h hw
      have hmo : o ∈ ops.toList := hm o (List.mem_cons_self ..)
      have hdst : ∀ t, o.dst = some t → t ∈ (dstsOps ops.toList).map (·.1) := fun t ht => mem_dstsOps ht hmo
      have ih : ∀ (v : Value) (w' : World), (compText P ops l (put fr' o.dst v) K).wp P R w' → wpList P ops (QR R d (NextK P R (dstsOps ops.toList) fr d K)) l (a.put o.dst v) w' := by
        intro v w' hv
        have := text_sound l (put fr' o.dst v) (a.put o.dst v) w' (fun p hp => hm p (List.mem_cons_of_mem _ hp)) (h'.put _ _) (by cases o.dst <;> exact hd) hv
        refine wpList_mono' (fun e a'' w'' hq => ?_) this
        cases e with
        | normal => exact NextK.out hq (hout.trans (Out.put hdst))
        | _ => exact hq
      simp only [wpList]
      split
      · rename_i hwant
        simp only [hwant, if_true] at hg
        have hk' : o.op.operands.all (known fr') = true := Array.all_eq_true'.2 fun x hx => hkno x (Array.all_eq_true'.1 hkn.1 x hx)
        exact .inl (runP_sound h' (runP_noSelect hg) hk' ih (fun c w' hr => ⟨hr, hd⟩) (fun w' hr => ⟨a, w', hr⟩) hg)
      · rename_i hwant
        simp only [hwant] at hg
        exact ih undef w hg
    · exact hw.elim

theorem text_region {id : Nat} {ops : Array Oper} {fr : Fr} {a : Act} {w : World} {K : Fr → T} (h : Agr fr a.tmps) (hw : (compText P ops ops.toList fr K).wp P R w) :
    (Code.region id ops false).wp P (QR R a.defers (NextK P R (dstsOps ops.toList) fr a.defers K)) a w :=
  wp_region_list (text_sound ops.toList fr a w (fun _ h => h) h rfl hw)
end
end Go.WF
