/- The program's Parse: what is recovered. -/
import Derived.Test.YtphejmchkmciaaaGreatDoorSq
import Derived.Recover
set_option maxRecDepth 100000
set_option linter.unusedVariables false
namespace Go.Proofs.Cf
open Go.WF

theorem assert46 (p k : Int) (w : World) : (Instr.typeAssert (.iface 46 (.agg #[.int .i64 p, .int .i64 k])) 20 46 true).run Tryz.prog w = .ok (.tuple #[.agg #[.int .i64 p, .int .i64 k], .bool true]) w := by kernel_rfl

theorem landed_c (p k : Int) (w : World) : Calls Tryz.prog 7 [.iface 46 (.agg #[.int .i64 p, .int .i64 k])].toArray w fun x w' => x = .returned (tupOf [.int .i64 p, .int .i64 k]) ∧ Keep [] w w' := by
  refine calls_tree hm Tryz.func7 (d7_ok (some (46, .agg #[.int .i64 p, .int .i64 k]))) ?_
  unfold d7
  have H : ST w [] w [] := ST.nil [] w
  refine wOp ((p, k, ()), true, ()) (assert46 p k w) rfl ?_
  refine wN H fun b w1 hb H => ?_
  refine wSA H 0 rfl rfl rfl rfl fun w2 H => ?_
  refine wBlk (wIff rfl (wJump () rfl ?_))
  refine wD H fun w3 H => ?_
  refine wL H 0 p rfl rfl rfl ?_
  refine wL H 0 k rfl rfl rfl ?_
  exact wRet ⟨rfl, H.keep⟩

/-- A part of a function's code, by its tree. -/
theorem part {P : Program} (hm : P.follows .mixedOrders = true) {RS : List Nat} {L : List Nat} {R : Ending → World → Prop} {c : Code} {fr : Fr} {a : Act} {w : World} (hA : Agr fr a.tmps) (Post : KE → Fr → World → Prop) {t : T}
    (ht : comp P RS c [] L fr (fun e fr' => .jump (fun _ w' => Post e fr' w') []) = t) (hw : t.wp P R w) {Q : Exit → Act → World → Prop}
    (hn : ∀ (a' : Act) (w' : World) (fr' : Fr), Agr fr' a'.tmps → a'.defers = a.defers → Post .normal fr' w' → Q .normal a' w') (hr : ∀ (a' : Act) (w' : World) (fr' : Fr), Agr fr' a'.tmps → a'.defers = a.defers → Post .ret fr' w' → Q .ret a' w')
    (hx : ∀ (i : Nat) (a' : Act) (w' : World) (fr' : Fr), Post (.exit i) fr' w' → False) (hp : ∀ (a' : Act) (w' : World) (ch : List PanicEntry), a'.defers = a.defers → R (.panicked ch) w' → Q (.panic ch) a' w') (ho : ∀ (a' : Act) (w' : World), R .outgrown w' → Q .outgrown a' w') : c.wp P Q a w := by
  subst ht
  refine Code.wp_mono ?_ (comp_sound hm RS c [] L fr _ a w hA hw)
  intro e a' w' hq
  cases e with
  | normal =>
    obtain ⟨fr', h1, h2, _, h4⟩ := hq
    simp only [T.wp] at h4
    exact hn a' w' fr' h1 h2 h4
  | ret =>
    obtain ⟨fr', h1, h2, _, h4⟩ := hq
    simp only [T.wp] at h4
    exact hr a' w' fr' h1 h2 h4
  | exit i =>
    obtain ⟨fr', h1, h2, _, h4⟩ := hq
    simp only [T.wp] at h4
    exact (hx i a' w' fr' h4).elim
  | goto l => exact hq.elim
  | panic ch => exact hp a' w' ch hq.2 hq.1
  | outgrown => exact ho a' w' hq

/-- The code of Parse$1 behind its recover. -/
noncomputable def rest6 : Code := match Tryz.f6.body with
  | some (.seq _ x) => x
  | _ => .skip

noncomputable def head6 : Code := match Tryz.f6.body with
  | some (.seq x _) => x
  | _ => .skip

theorem body6 : Tryz.f6.body = some (.seq head6 rest6) := by kernel_rfl

theorem zeros_no : Z23 = cfgC (bs []) (bs []) (fun _ => 0) := rfl

/-- The frame behind the recover. -/
def fr6 (c a e : Nat) (x : Value) : Fr := [some (.pointer (some ⟨c, 0, none⟩)), some (.pointer (some ⟨a, 0, none⟩)), some (.pointer (some ⟨e, 0, none⟩)), some x, some x, some undef, some undef, some undef, some undef, some undef, some undef, some undef, some undef]

theorem tree6 (c a e : Nat) (p k : Int) (Post : KE → Fr → World → Prop) : ∃ fr' : Int × Int × Unit → Fr, comp Tryz.prog [] rest6 [] [] (fr6 c a e (.iface 46 (.agg #[.int .i64 p, .int .i64 k]))) (fun e fr' => .jump (fun _ w' => Post e fr' w') []) =
    (T.store ⟨c, 0, none⟩ Z23 <|
     T.call 7 [.iface 46 (.agg #[.int .i64 p, .int .i64 k])] [.b (.int .i64), .b (.int .i64)] fun (r : Int × Int × Unit) =>
     T.store ⟨a, 0, none⟩ [.int .i64 r.1] <|
     T.store ⟨e, 0, none⟩ [.int .i64 r.2.1] <|
     T.jump (fun _ w' => Post .normal (fr' r) w') []) := ⟨fun r => (((((((fr6 c a e (.iface 46 (.agg #[.int .i64 p, .int .i64 k]))).set 5 (some (.iface 46 (.agg #[.int .i64 p, .int .i64 k])))).set 6 (some (.bool true))).set 7 (some (.agg Z23.toArray))).set 9 (some (.iface 46 (.agg #[.int .i64 p, .int .i64 k])))).set 10 (some (.tuple #[.int .i64 r.1, .int .i64 r.2.1]))).set 8 (some (.tuple #[.int .i64 r.1, .int .i64 r.2.1]))).set 11 (some (.int .i64 r.1)) |>.set 12 (some (.int .i64 r.2.1)), by kernel_rfl⟩

theorem tree6n (c a e : Nat) (Post : KE → Fr → World → Prop) : ∃ fr' : Fr, comp Tryz.prog [] rest6 [] [] (fr6 c a e .nilIface) (fun e fr' => .jump (fun _ w' => Post e fr' w') []) = T.jump (fun _ w' => Post .normal fr' w') [] :=
  ⟨((fr6 c a e .nilIface).set 5 (some .nilIface)).set 6 (some (.bool false)), by kernel_rfl⟩

theorem agr_list (l : List Value) : Agr (l.map some) l.toArray := by
  refine ⟨by simp, fun i v hv => ?_⟩
  simp only [Fr.get, List.getElem?_map] at hv
  simp only [List.getElem?_toArray]
  cases h : l[i]? with
  | none => rw [h] at hv; simp at hv
  | some u => rw [h] at hv; simpa using hv

/-- The tmps behind the recover. -/
noncomputable abbrev tm6 (c a e : Nat) (x : Value) : List Value := [.pointer (some ⟨c, 0, none⟩), .pointer (some ⟨a, 0, none⟩), .pointer (some ⟨e, 0, none⟩), x, x, undef, undef, undef, undef, undef, undef, undef, undef]

noncomputable def ops6 : Array Oper := match head6 with
  | .region _ ops _ => ops
  | _ => #[]

theorem head6_eq : head6 = .region 0 ops6 false := by kernel_rfl

noncomputable def o60 : Oper := { dst := some 4, op := Op.call { callee := Callee.builtin Builtin.recover, args := #[], argTypes := #[] }, type := 20, pos := "parse.go:179", after := #[], guard := none }
noncomputable def o61 : Oper := { dst := some 3, op := Op.assign (Operand.tmp 4), type := 20, pos := "parse.go:179", after := #[{ on := 0, ground := Ground.data }, { on := 0, ground := Ground.chain }, { on := 0, ground := Ground.phase }], guard := none }

theorem ops6_0 : ops6[0]? = some o60 := by kernel_rfl
theorem ops6_1 : ops6[1]? = some o61 := by kernel_rfl
theorem ops6_size : ops6.size = 2 := by kernel_rfl

theorem run60 (ρ : Operand → Value) (w : World) : (execOp ρ o60).run Tryz.prog w = .ok .recover w := by kernel_rfl
theorem run61 (a : Act) (w : World) : (execOp a.eval o61).run Tryz.prog w = .ok (.value (a.eval (.tmp 4))) w := by kernel_rfl

theorem head_step {Q : Exit → Act → List Frame → World → Prop} {a a1 : Act} {cs cs' : List Frame} {w : World} {v : Value}
    (hr : recoverD cs = some (v, cs') ∨ (recoverD cs = none ∧ cs' = cs ∧ v = .nilIface)) (h1 : (a.put (some 4) v).put (some 3) ((a.put (some 4) v).eval (.tmp 4)) = a1) (h : rest6.wpS Tryz.prog Q a1 cs' w) :
    (Code.seq head6 rest6).wpS Tryz.prog Q a cs w := by
  refine wpS_seq ?_
  rw [head6_eq]
  refine wpS_region ?_
  rw [ops6_size]
  show wpOpsS Tryz.prog ops6 _ [0, 1] a cs w
  have hend : ∀ (a' : Act) (cs2 : List Frame), a' = a.put (some 4) v → cs2 = cs' → wpOpsS Tryz.prog ops6 (Exit.thenS (rest6.wpS Tryz.prog Q) Q) [1] a' cs2 w := by
    rintro a' cs2 rfl rfl
    unfold wpOpsS
    simp only [ops6_1]
    have hw : Region.wanted o61 (yielded ops6 (a.put (some 4) v).tmps) = true := rfl
    rw [if_pos hw, run61]
    simp only [Oper.upon]
    unfold wpOpsS
    show Exit.thenS (rest6.wpS Tryz.prog Q) Q .normal _ _ _
    have hd : o61.dst = some 3 := rfl
    rw [hd, h1]
    exact h
  unfold wpOpsS
  simp only [ops6_0]
  have hw : Region.wanted o60 (yielded ops6 a.tmps) = true := rfl
  rw [if_pos hw, run60]
  simp only []
  rcases hr with hr | ⟨hr, hc, hv⟩
  · rw [hr]
    exact hend _ _ rfl rfl
  · rw [hr]
    exact hend _ _ (by rw [hv]; rfl) hc.symm

/-- The arguments of Parse$1, as tmps. -/
noncomputable abbrev in6 (c a e : Nat) : Act := { tmps := #[.pointer (some ⟨c, 0, none⟩), .pointer (some ⟨a, 0, none⟩), .pointer (some ⟨e, 0, none⟩)] ++ Array.replicate (Tryz.f6.ntmps - 3) undef, defers := [] }

theorem put6 (c a e : Nat) (v : Value) : ((in6 c a e).put (some 4) v).put (some 3) (((in6 c a e).put (some 4) v).eval (.tmp 4)) = { tmps := (tm6 c a e v).toArray, defers := [] } := by kernel_rfl

theorem agr6 (c a e : Nat) (x : Value) : Agr (fr6 c a e x) (tm6 c a e x).toArray := by
  have h := agr_list (tm6 c a e x)
  exact h

theorem results6 (tmps : Array Value) (w : World) : (results Tryz.f6 tmps).run Tryz.prog w = .ok (.tuple #[]) w := by kernel_rfl

/-- What Parse$1 does to its function's results where something was panicked with. -/
theorem recover_c {c a e : Nat} (hca : c ≠ a) (hce : c ≠ e) (hae : a ≠ e) {w : World} {cc : List Value} {x y : Value} (hc : Blk w c cc 23) (hl : cc.length = 18) (ha : Blk w a [x] 3) (he : Blk w e [y] 24) (p k : Int) :
    CallsD Tryz.prog 6 #[.pointer (some ⟨c, 0, none⟩), .pointer (some ⟨a, 0, none⟩), .pointer (some ⟨e, 0, none⟩)] (.panicking (faultL p k)) w fun z u' w' =>
      z = .returned (.tuple #[]) ∧ (∃ v, u' = .panicking [{ v, recovered := true }]) ∧ Keep [c, a, e] w w' ∧ Blk w' c Z23 23 ∧ Blk w' a [.int .i64 p] 3 ∧ Blk w' e [.int .i64 k] 24 := by
  refine callsD_of_wpS Tryz.func6 body6 fun c₀ cs hu => ?_
  show (Code.seq head6 rest6).wpS Tryz.prog _ (in6 c a e) (c₀ :: cs) w
  refine head_step (v := .iface 46 (.agg #[.int .i64 p, .int .i64 k])) (cs' := { c₀ with mode := .panicking [{ v := .iface 46 (.agg #[.int .i64 p, .int .i64 k]), recovered := true }] } :: cs) (.inl ?_) (put6 c a e _) ?_
  · simp only [recoverD, hu]
  · refine wpS_of_wp ?_
    obtain ⟨fr', ht⟩ := tree6 c a e p k (fun ke fr w' => ke = .normal ∧ Keep [c, a, e] w w' ∧ Blk w' c Z23 23 ∧ Blk w' a [.int .i64 p] 3 ∧ Blk w' e [.int .i64 k] 24)
    have hA : Agr (fr6 c a e (.iface 46 (.agg #[.int .i64 p, .int .i64 k]))) (tm6 c a e (.iface 46 (.agg #[.int .i64 p, .int .i64 k]))).toArray := agr6 _ _ _ _
    refine part hm (R := fun _ _ => False) (a := { tmps := _, defers := [] }) hA _ ht ?_ ?_ ?_ ?_ ?_ ?_
    · have H : ST w [c, a, e] w [(c, cellsO cc 23), (a, cellsO [x] 3), (e, cellsO [y] 24)] := ST.cons (ST.cons (ST.one he (by simp)) ha (by simp) (by simpa using hae)) hc (by simp) (by simp; exact ⟨hca, hce⟩)
      refine wSA H 0 rfl rfl (by rw [hl]; rfl) rfl fun w1 H => ?_
      refine wCall (landed_c p k w1) ?_
      rintro z w2 ⟨rfl, hk2⟩
      refine ⟨(p, k, ()), rfl, ?_⟩
      replace H := H.made hk2
      refine wSA H 1 rfl rfl rfl rfl fun w3 H => ?_
      refine wSA H 2 rfl rfl rfl rfl fun w4 H => ?_
      simp only [T.wp]
      exact ⟨trivial, H.keep, H.get (i := 0) rfl, H.get (i := 1) rfl, H.get (i := 2) rfl⟩
    · rintro a' w' fr' _ hd ⟨_, h1, h2⟩
      exact ⟨hd, _, rfl, .tuple #[], results6 _ _, rfl, ⟨_, rfl⟩, h1, h2⟩
    · rintro a' w' fr' _ hd ⟨h0, _⟩
      cases h0
    · rintro i a' w' fr' ⟨h0, _⟩
      cases h0
    · rintro a' w' ch _ h
      exact h.elim
    · rintro a' w' h
      exact h.elim

/-- .. and where nothing was. -/
theorem norecover_c {c a e : Nat} {w : World} : CallsD Tryz.prog 6 #[.pointer (some ⟨c, 0, none⟩), .pointer (some ⟨a, 0, none⟩), .pointer (some ⟨e, 0, none⟩)] .returning w fun z u' w' => z = .returned (.tuple #[]) ∧ u' = .returning ∧ w' = w := by
  refine callsD_of_wpS Tryz.func6 body6 fun c₀ cs hu => ?_
  show (Code.seq head6 rest6).wpS Tryz.prog _ (in6 c a e) (c₀ :: cs) w
  refine head_step (v := .nilIface) (cs' := c₀ :: cs) (.inr ⟨by simp only [recoverD, hu], rfl, rfl⟩) (put6 c a e _) ?_
  refine wpS_of_wp ?_
  obtain ⟨fr', ht⟩ := tree6n c a e (fun ke fr w' => ke = .normal ∧ w' = w)
  have hA : Agr (fr6 c a e .nilIface) (tm6 c a e .nilIface).toArray := agr6 _ _ _ _
  refine part hm (R := fun _ _ => False) (a := { tmps := _, defers := [] }) hA _ ht ?_ ?_ ?_ ?_ ?_ ?_
  · simp only [T.wp]
    exact ⟨trivial, trivial⟩
  · rintro a' w' fr' _ hd ⟨_, h1⟩
    refine ⟨hd, c₀.mode, rfl, .tuple #[], results6 _ _, rfl, hu, h1⟩
  · rintro a' w' fr' _ hd ⟨h0, _⟩
    cases h0
  · rintro i a' w' fr' ⟨h0, _⟩
    cases h0
  · rintro a' w' ch _ h
    exact h.elim
  · rintro a' w' h
    exact h.elim

end Go.Proofs.Cf
