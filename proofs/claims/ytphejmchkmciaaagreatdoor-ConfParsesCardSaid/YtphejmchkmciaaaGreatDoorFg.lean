/- The compiler is sound: a function's tree that holds of a world makes the call so. No statement about the program stands here. -/
import Derived.Test.YtphejmchkmciaaaGreatDoorFf
namespace Go.WF
section
variable {P : Program} {R : Ending → World → Prop}

/-- Behind a code. -/
def QC (P : Program) (R : Ending → World → Prop) (ds : List (Nat × TypeId)) (fr : Fr) (d : List Deferred) (K : KE → Fr → T) : Exit → Act → World → Prop
  | .normal, a, w => NextK P R ds fr d (K .normal) a w
  | .exit id, a, w => NextK P R ds fr d (K (.exit id)) a w
  | .ret, a, w => NextK P R ds fr d (K .ret) a w
  | .goto _, _, _ => False
  | .panic c, a, w => R (.panicked c) w ∧ a.defers = d
  | .outgrown, _, w => R .outgrown w

theorem QC.grow {ds es : List (Nat × TypeId)} {fr fr' : Fr} {d : List Deferred} {K : KE → Fr → T} {e : Exit} {a : Act} {w : World} (h : QC P R es fr' d K e a w) (hs : ∀ x, x ∈ es.map (·.1) → x ∈ ds.map (·.1)) (ho : Out ds fr fr') :
    QC P R ds fr d K e a w := by
  have gn : ∀ {K : Fr → T}, NextK P R es fr' d K a w → NextK P R ds fr d K a w := fun ⟨g, h1, h2, h3, h4⟩ => ⟨g, h1, h2, ho.trans (h3.mono hs), h4⟩
  cases e with
  | normal => exact gn h
  | exit id => exact gn h
  | ret => exact gn h
  | goto l => exact h
  | panic c => exact h
  | outgrown => exact h

theorem QC.normal {ds : List (Nat × TypeId)} {fr : Fr} {d : List Deferred} {K : KE → Fr → T} : ∀ {e : Exit} {a : Act} {w : World}, QR R d (NextK P R ds fr d (K .normal)) e a w → QC P R ds fr d K e a w
  | .normal, _, _, h => h
  | .panic _, _, _, h => h
  | .outgrown, _, _, h => h
  | .exit _, _, _, h => h.elim
  | .goto _, _, _, h => h.elim
  | .ret, _, _, h => h.elim

theorem get_forget : ∀ (ds : List Nat) (fr : Fr) (i : Nat) (v : Value), Fr.get (forget fr ds) i = some v → i ∉ ds ∧ Fr.get fr i = some v
  | [], fr, i, v, h => ⟨by simp, h⟩
  | d :: ds, fr, i, v, h => by
    obtain ⟨h1, h2⟩ := get_forget ds _ i v h
    rw [get_set] at h2
    split at h2
    · cases h2
    · rename_i hc
      refine ⟨?_, h2⟩
      simp only [List.mem_cons, not_or]
      refine ⟨fun h => hc ⟨h.symm, ?_⟩, h1⟩
      subst h
      simp only [Fr.get] at h2
      rcases Nat.lt_or_ge i fr.length with hl | hl
      · exact hl
      · simp [List.getElem?_eq_none hl] at h2

theorem forget_length : ∀ (ds : List Nat) (fr : Fr), (forget fr ds).length = fr.length
  | [], _ => rfl
  | d :: ds, fr => by simp [forget, forget_length ds]

theorem putAll_length : ∀ (ds : List Nat) (vs : List Value) (fr : Fr), (putAll fr ds vs).length = fr.length
  | [], _, _ => by simp [putAll]
  | d :: ds, [], _ => by simp [putAll]
  | d :: ds, v :: vs, fr => by simp [putAll, putAll_length ds]

theorem agr_putAll {tmps : Array Value} : ∀ (sl : List Nat) (vs : List Value) (fr fr' : Fr), Agr fr tmps → Agr fr' tmps → vals fr' sl = some vs → Agr (putAll fr sl vs) tmps
  | [], _, fr, fr', h, _, _ => by simpa [putAll] using h
  | d :: ds, vs, fr, fr', h, h', hv => by
    unfold vals at hv
    split at hv
    · rename_i v us hd hus
      simp only [Option.some.injEq] at hv
      subst hv
      exact agr_putAll ds us _ fr' (h.set (h'.val d v hd)) h' hus
    · cases hv

theorem agr_join {tmps : Array Value} {fr fr' : Fr} {ds : List (Nat × TypeId)} {sl : List Nat} {vs : List Value} (h : Agr fr' tmps) (ho : Out ds fr fr') (hv : vals fr' sl = some vs) :
    Agr (putAll (forget fr (ds.map (·.1))) sl vs) tmps := by
  refine agr_putAll sl vs _ fr' ⟨by rw [forget_length, ← ho.len]; exact h.len, fun i v hi => ?_⟩ h hv
  obtain ⟨h1, h2⟩ := get_forget _ _ _ _ hi
  exact h.val i v (by rw [ho.same i h1]; exact h2)

theorem out_join {fr : Fr} {ds : List (Nat × TypeId)} : ∀ (sl : List Nat) (vs : List Value), (∀ x ∈ sl, x ∈ ds.map (·.1)) → Out ds fr (putAll (forget fr (ds.map (·.1))) sl vs) := by
  have hf : ∀ (l : List Nat) (g : Fr), (∀ x ∈ l, x ∈ ds.map (·.1)) → Out ds g (forget g l) := by
    intro l
    induction l with
    | nil => intro g _; exact Out.refl _ _
    | cons d l ih => intro g hl; exact (Out.set (hl d (List.mem_cons_self ..))).trans (ih _ fun x hx => hl x (List.mem_cons_of_mem _ hx))
  have hp : ∀ (l : List Nat) (vs : List Value) (g : Fr), (∀ x ∈ l, x ∈ ds.map (·.1)) → Out ds g (putAll g l vs) := by
    intro l
    induction l with
    | nil => intro vs g _; simpa [putAll] using Out.refl ds g
    | cons d l ih =>
      intro vs g hl
      cases vs with
      | nil => simpa [putAll] using Out.refl ds g
      | cons v vs => exact (Out.set (hl d (List.mem_cons_self ..))).trans (ih _ _ fun x hx => hl x (List.mem_cons_of_mem _ hx))
  exact fun sl vs h => (hf _ _ fun x hx => hx).trans (hp _ _ _ h)

theorem joinSlots_sub (ds : List (Nat × TypeId)) (L : List Nat) : ∀ x ∈ (joinSlots ds L).map (·.1), x ∈ ds.map (·.1) := by
  have key : ∀ (l acc : List (Nat × TypeId)), ∀ x ∈ l.foldl (fun acc d => if L.contains d.1 && !(acc.any (·.1 == d.1)) then d :: acc else acc) acc, x ∈ l ∨ x ∈ acc := by
    intro l
    induction l with
    | nil => intro acc x hx; exact .inr hx
    | cons d l ih =>
      intro acc x hx
      rcases ih _ x hx with h | h
      · exact .inl (List.mem_cons_of_mem _ h)
      · simp only at h
        split at h
        · rcases List.mem_cons.1 h with rfl | h
          · exact .inl (List.mem_cons_self ..)
          · exact .inr h
        · exact .inr h
  intro x hx
  obtain ⟨d, hd, rfl⟩ := List.mem_map.1 hx
  simp only [joinSlots, List.mem_reverse] at hd
  rcases key ds [] d hd with h | h
  · exact List.mem_map.2 ⟨d, h, rfl⟩
  · cases h

theorem wp_jumpTo {j : Lab} {o : Option (List Value)} {w : World} (h : (jumpTo j o).wp P R w) : ∃ vs, o = some vs ∧ j vs w := by
  cases o with
  | none => exact h.elim
  | some vs => exact ⟨vs, rfl, h⟩

theorem comp_sound (hm : P.follows .mixedOrders = true) (RS : List Nat) : ∀ (c : Code) (env : List (Nat × List Nat)) (L : List Nat) (fr : Fr) (K : KE → Fr → T) (a : Act) (w : World), Agr fr a.tmps →
    (comp P RS c env L fr K).wp P R w → c.wp P (QC P R (dsts c) fr a.defers K) a w := by
  intro c
  induction c with
  | skip => intro env L fr K a w h hw; exact wp_skip ⟨fr, h, rfl, Out.refl _ _, hw⟩
  | region id ops draw =>
    intro env L fr K a w h hw
    exact Code.wp_mono (fun e a w h => QC.normal h) (region_sound hm h hw)
  | seq x y ihx ihy =>
    intro env L fr K a w h hw
    have hmy : ∀ z, z ∈ (dsts y).map (·.1) → z ∈ (dsts (.seq x y)).map (·.1) := fun z hz => by simp only [dsts, List.map_append]; exact List.mem_append_right _ hz
    have hmx : ∀ z, z ∈ (dsts x).map (·.1) → z ∈ (dsts (.seq x y)).map (·.1) := fun z hz => by simp only [dsts, List.map_append]; exact List.mem_append_left _ hz
    simp only [comp] at hw
    refine wp_seq ?_
    split at hw
    · simp only [T.wp] at hw
      refine Code.wp_mono ?_ (ihx env _ fr _ a w h hw)
      intro e a' w' hq
      cases e with
      | normal =>
        obtain ⟨fr', h1, h2, h3, h4⟩ := hq
        obtain ⟨vs, hvs, xs, rfl, h5⟩ := wp_jumpTo h4
        have hag := agr_join h1 h3 hvs
        show y.wp P _ a' w'
        rw [← h2]
        exact Code.wp_mono (fun e a w hq => hq.grow hmy ((out_join _ _ (joinSlots_sub _ _)).mono hmx)) (ihy env L _ K a' w' hag h5)
      | exit id => exact QC.grow (e := .exit id) hq hmx (Out.refl _ _)
      | ret => exact QC.grow (e := .ret) hq hmx (Out.refl _ _)
      | goto l => exact hq
      | panic c => exact hq
      | outgrown => exact hq
    · refine Code.wp_mono ?_ (ihx env _ fr _ a w h hw)
      intro e a' w' hq
      cases e with
      | normal =>
        obtain ⟨fr', h1, h2, h3, h4⟩ := hq
        show y.wp P _ a' w'
        rw [← h2]
        exact Code.wp_mono (fun e a w hq => hq.grow hmy (h3.mono hmx)) (ihy env L fr' K a' w' h1 h4)
      | exit id => exact QC.grow (e := .exit id) hq hmx (Out.refl _ _)
      | ret => exact QC.grow (e := .ret) hq hmx (Out.refl _ _)
      | goto l => exact hq
      | panic c => exact hq
      | outgrown => exact hq
  | cond c x y ihx ihy =>
    intro env L fr K a w h hw
    have hmy : ∀ z, z ∈ (dsts y).map (·.1) → z ∈ (dsts (.cond c x y)).map (·.1) := fun z hz => by simp only [dsts, List.map_append]; exact List.mem_append_right _ hz
    have hmx : ∀ z, z ∈ (dsts x).map (·.1) → z ∈ (dsts (.cond c x y)).map (·.1) := fun z hz => by simp only [dsts, List.map_append]; exact List.mem_append_left _ hz
    simp only [comp] at hw
    split at hw
    · rename_i hk
      split at hw
      · rename_i b hb
        rw [h.eval hk] at hb
        rw [cond_iff] at hw
        refine Go.wp_cond hb ?_
        cases b with
        | true => exact Code.wp_mono (fun e a w hq => QC.grow hq hmx (Out.refl _ _)) (ihx env L fr K a w h (hw.1 rfl))
        | false => exact Code.wp_mono (fun e a w hq => QC.grow hq hmy (Out.refl _ _)) (ihy env L fr K a w h (hw.2 rfl))
      · exact hw.elim
    · exact hw.elim
  | block id c ih =>
    intro env L fr K a w h hw
    simp only [comp] at hw
    refine wp_block (Code.wp_mono ?_ (ih _ L fr _ a w h hw))
    intro e a' w' hq
    cases e with
    | normal => exact hq
    | exit id' =>
      simp only [Exit.inBlock]
      split
      · rename_i hid
        subst hid
        obtain ⟨fr', h1, h2, h3, h4⟩ := hq
        simp only [if_true] at h4
        exact ⟨fr', h1, h2, h3, h4⟩
      · rename_i hid
        obtain ⟨fr', h1, h2, h3, h4⟩ := hq
        simp only [hid, if_false] at h4
        exact ⟨fr', h1, h2, h3, h4⟩
    | ret => exact hq
    | goto l => exact hq
    | panic c => exact hq
    | outgrown => exact hq
  | loop b ih =>
    intro env L fr K a w h hw
    simp only [comp] at hw
    split at hw
    · rename_i init hinit
      simp only [T.wp] at hw
      obtain ⟨I, ⟨n, xs, hxs, hI⟩, hround⟩ := hw
      refine wp_loop_ghost (fun n a' w' => ∃ xs, I n xs w' ∧ a'.defers = a.defers ∧ Agr (putAll (forget fr ((dsts b).map (·.1))) ((joinSlots (dsts b) (live RS b env (live RS b env []))).map (·.1)) (encs _ xs)) a'.tmps) n
        ⟨xs, hI, rfl, by rw [← hxs]; exact agr_join h (Out.refl _ _) hinit⟩ ?_
      rintro n a' w' ⟨xs, hI', hd, hag⟩
      refine Code.wp_mono ?_ (ih env _ _ _ a' w' hag (hround n xs w' hI'))
      intro e a'' w'' hq
      have hob : Out (dsts (.loop b)) fr (putAll (forget fr ((dsts b).map (·.1))) ((joinSlots (dsts b) (live RS b env (live RS b env []))).map (·.1)) (encs _ xs)) := out_join _ _ (joinSlots_sub _ _)
      cases e with
      | normal =>
        obtain ⟨fr', h1, h2, h3, h4⟩ := hq
        obtain ⟨vs, hvs, m, hm', xs', rfl, hI''⟩ := wp_jumpTo h4
        exact ⟨m, hm', xs', hI'', by rw [h2, hd], agr_join h1 (hob.trans h3) hvs⟩
      | exit id => rw [← hd]; exact QC.grow (e := .exit id) hq (fun _ hz => hz) hob
      | ret => rw [← hd]; exact QC.grow (e := .ret) hq (fun _ hz => hz) hob
      | goto l => exact hq
      | panic c => rw [← hd]; exact hq
      | outgrown => exact hq
    · exact hw.elim
  | exit id => intro env L fr K a w h hw; exact wp_exit ⟨fr, h, rfl, Out.refl _ _, hw⟩
  | ret => intro env L fr K a w h hw; exact wp_ret ⟨fr, h, rfl, Out.refl _ _, hw⟩
  | label l => intro env L fr K a w h hw; exact wp_label ⟨fr, h, rfl, Out.refl _ _, hw⟩
  | scope c ih =>
    intro env L fr K a w h hw
    simp only [comp] at hw
    refine wp_scope_straight (Code.wp_mono ?_ (ih env L fr K a w h hw))
    intro e a' w' hq
    cases e with
    | goto l => exact hq
    | _ => exact hq
  | rangeFunc f ps x y ihx ihy => intro env L fr K a w h hw; exact hw.elim
  | goto l => intro env L fr K a w h hw; exact hw.elim
  | refuse why => intro env L fr K a w h hw; exact hw.elim

/-! ### A function -/
def resOne (tmps : Array Value) : ResultVar → Sem Value
  | .tmp t => pure (tmps.getD t undef)
  | .cell a t => do loadVar t (← asAddr (tmps.getD a undef))

theorem results_eq (fn : Func) (tmps : Array Value) : results fn tmps = (do
    let vs ← fn.results.mapM (resOne tmps)
    pure (if h : vs.size = 1 then vs[0] else .tuple vs)) := rfl

theorem wp_retT {fr : Fr} {tmps : Array Value} {w : World} (h : Agr fr tmps) : ∀ (rs : List ResultVar) (acc : List Value), (retT P fr rs acc).wp P R w →
    ∃ vs, (rs.mapM (resOne tmps)).run P w = .ok vs w ∧ R (.returned (tupOf (acc.reverse ++ vs))) w
  | [], acc, hw => ⟨[], by simp, by simpa [retT, T.wp] using hw⟩
  | .tmp t :: rs, acc, hw => by
    simp only [retT] at hw
    split at hw
    · rename_i v hv
      obtain ⟨vs, h1, h2⟩ := wp_retT h rs _ hw
      have hg : tmps.getD t undef = v := by simp [Array.getD_eq_getD_getElem?, h.val t v hv]
      refine ⟨v :: vs, ?_, by simpa using h2⟩
      simp only [List.mapM_cons, resOne, hg, Sem.run_bind, Sem.run_pure, Result.andThen_ok, h1]
    · exact hw.elim
  | .cell a t :: rs, acc, hw => by
    simp only [retT] at hw
    split at hw
    · rename_i hf
      split at hw
      · rename_i p hp
        rw [chk_iff] at hw
        obtain ⟨hs, hw⟩ := hw
        simp only [T.wp] at hw
        obtain ⟨x, hx, hw⟩ := hw
        obtain ⟨vs, h1, h2⟩ := wp_retT h rs _ hw
        cases p with
        | none => simp at hs
        | some ad =>
          have hg : tmps.getD a undef = .pointer (some ad) := by simp [Array.getD_eq_getD_getElem?, h.val a _ hp]
          refine ⟨(kdOf P t).enc x :: vs, ?_, by simpa using h2⟩
          have hlv : (loadVar t ad).run P w = .ok ((kdOf P t).enc x) w := loadVar_run hf x hx
          simp only [List.mapM_cons, resOne, hg, asAddr, Sem.run_bind, Sem.run_pure, Result.andThen_ok, hlv, h1]
      · exact hw.elim
    · exact hw.elim

theorem tupOf_eq (vs : List Value) : (if h : vs.toArray.size = 1 then vs.toArray[0] else .tuple vs.toArray) = tupOf vs := by
  match vs with
  | [] => rfl
  | [v] => rfl
  | v :: u :: r => simp [tupOf]

theorem results_run {fn : Func} {fr : Fr} {tmps : Array Value} {w : World} (h : Agr fr tmps) (hw : (retT P fr fn.results.toList []).wp P R w) : ∃ v, (results fn tmps).run P w = .ok v w ∧ R (.returned v) w := by
  obtain ⟨vs, h1, h2⟩ := wp_retT h _ _ hw
  refine ⟨tupOf vs, ?_, by simpa using h2⟩
  have e : fn.results.mapM (resOne tmps) = (do let l ← fn.results.toList.mapM (resOne tmps); pure l.toArray) := by
    rw [Array.mapM_eq_mapM_toList]
    simp
  rw [results_eq, e]
  simp only [Sem.run_bind, h1, Result.andThen_ok, Sem.run_pure, tupOf_eq]

theorem agr_fr0 (n : Nat) (args : List Value) : Agr (fr0 n args) (args.toArray ++ Array.replicate (n - args.toArray.size) undef) := by
  refine ⟨by simp [fr0], fun i v hv => ?_⟩
  simp only [Fr.get, fr0] at hv
  rw [Array.getElem?_append]
  rw [List.getElem?_append] at hv
  simp only [List.length_map] at hv
  simp only [List.size_toArray]
  split at hv
  · rename_i hl
    simp only [hl, if_true, List.getElem?_map] at hv ⊢
    cases ha : args[i]? with
    | none => simp [ha] at hv
    | some u => simp only [ha, Option.map_some, Option.join_some, Option.some.injEq] at hv; subst hv; simpa using ha
  · rename_i hl
    simp only [hl, if_false]
    rw [List.getElem?_replicate] at hv
    rw [Array.getElem?_replicate]
    split at hv
    · rename_i h2; simpa [h2] using hv
    · simp at hv

/-- **A function's tree that holds of a world makes the call so.** -/
theorem calls_of (hm : P.follows .mixedOrders = true) {f : FuncId} {fn : Func} (hf : P.funcs[f]? = some fn) {args : List Value} {w : World} (hw : (compF P fn args).wp P R w) : Calls P f args.toArray w R := by
  unfold compF at hw
  split at hw
  · rename_i c hb
    refine calls_of_wp hf hb (Code.wp_mono ?_ (comp_sound hm _ c _ _ _ _ _ w (agr_fr0 fn.ntmps args) hw))
    intro e a w' hq
    cases e with
    | normal => obtain ⟨fr', h1, h2, _, h4⟩ := hq; exact ⟨h2, results_run h1 h4⟩
    | ret => obtain ⟨fr', h1, h2, _, h4⟩ := hq; exact ⟨h2, results_run h1 h4⟩
    | exit id => obtain ⟨fr', h1, h2, _, h4⟩ := hq; exact h4.elim
    | goto l => exact hq.elim
    | panic c => exact ⟨hq.2, hq.1⟩
    | outgrown => exact hq
  · exact hw.elim

/-- The same, of a tree that is written out. -/
theorem calls_tree (hm : P.follows .mixedOrders = true) {f : FuncId} {fn : Func} (hf : P.funcs[f]? = some fn) {args : List Value} {w : World} {t : T} (ht : compF P fn args = t) (hw : t.wp P R w) : Calls P f args.toArray w R :=
  calls_of hm hf (ht ▸ hw)

/-- A call of such a function, inside a tree. -/
theorem wCall0 {f : FuncId} {args : List Value} {ks : List Kd} {K : Tys ks → T} {w : World} (h : Calls P f args.toArray w fun e w' =>
      match e with
      | .returned v => ∃ xs : Tys ks, v = tupOf (encs ks xs) ∧ (K xs).wp P R w'
      | .panicked c => R (.panicked c) w'
      | .outgrown => R .outgrown w') : (T.call f args ks K).wp P R w := by
  simp only [T.wp]; exact h
end
end Go.WF
