/- The program's Parse. -/
import Derived.Test.YtphejmchkmciaaaGreatDoorSr
set_option maxRecDepth 100000
set_option linter.unusedVariables false
namespace Go.Proofs.Cf
open Go.WF

/-- The pieces of Parse's code. -/
noncomputable def pieceOf (n : Nat) : Code → Code
  | .seq x y => if n = 0 then x else pieceOf (n - 1) y
  | c => c

noncomputable def body4c : Code := Tryz.f4.body.getD .skip
noncomputable abbrev c40 : Code := pieceOf 0 body4c
noncomputable abbrev c41 : Code := pieceOf 1 body4c
noncomputable abbrev c43 : Code := pieceOf 2 body4c
noncomputable abbrev c44 : Code := pieceOf 3 body4c
noncomputable abbrev c45 : Code := pieceOf 4 body4c

theorem body4 : Tryz.f4.body = some (.seq c40 (.seq c41 (.seq c43 (.seq c44 (.seq c45 .ret))))) := by kernel_rfl

noncomputable def opsOf : Code → Array Oper
  | .region _ ops _ => ops
  | _ => #[]

theorem c43_eq : c43 = .region 3 (opsOf c43) false := by kernel_rfl
theorem c45_eq : c45 = .region 5 (opsOf c45) false := by kernel_rfl

abbrev pt (b : Nat) : Value := .pointer (some ⟨b, 0, none⟩)

/-- The frames. -/
def fr40 (s : ByteArray) : Fr := [some (.string s), some undef, some undef, some undef, some undef, some undef, some undef, some undef, some undef, some undef, some undef, some undef, some undef, some undef, some undef, some undef]
def fr41 (s : ByteArray) (c a e : Nat) : Fr := [some (.string s), some undef, some (pt c), some (pt a), some (pt e), some undef, some undef, some undef, some undef, some undef, some undef, some undef, some undef, some undef, some undef, some undef]

theorem tree40 (s : ByteArray) (Post : KE → Fr → World → Prop) : comp Tryz.prog [] c40 [] [] (fr40 s) (fun e fr' => .jump (fun _ w' => Post e fr' w') []) =
    (T.new Z23 23 fun p0 => T.new [.int .i64 0] 3 fun p1 => T.new [.int .i64 0] 24 fun p2 => T.jump (fun _ w' => Post .normal ((((fr40 s).set 2 (some (.pointer (some p0)))).set 3 (some (.pointer (some p1)))).set 4 (some (.pointer (some p2)))) w') []) := by kernel_rfl

theorem tree41 (s : ByteArray) (c a e : Nat) (Post : KE → Fr → World → Prop) : ∃ f1 f2 : Fr, comp Tryz.prog [] c41 [] [] (fr41 s c a e) (fun e fr' => .jump (fun _ w' => Post e fr' w') []) =
    (cond (decide ((s.size : Int) > 4096))
      (T.store ⟨c, 0, none⟩ Z23 <| T.store ⟨a, 0, none⟩ [.int .i64 0] <| T.store ⟨e, 0, none⟩ [.int .i64 6] <| T.jump (fun _ w' => Post .ret f1 w') [])
      (T.jump (fun _ w' => Post .normal f2 w') [])) ∧ (f1.length = 16 ∧ f1[0]? = some (some (.string s)) ∧ f1[2]? = some (some (pt c)) ∧ f1[3]? = some (some (pt a)) ∧ f1[4]? = some (some (pt e))) ∧ f2.length = 16 ∧ f2[0]? = some (some (.string s)) ∧ f2[2]? = some (some (pt c)) ∧ f2[3]? = some (some (pt a)) ∧ f2[4]? = some (some (pt e)) :=
  ⟨((((fr41 s c a e).set 6 (some (.string s))).set 7 (some (.int .i64 s.size))).set 8 (some (.bool (decide ((s.size : Int) > 4096))))).set 9 (some (.agg Z23.toArray)),
   (((fr41 s c a e).set 6 (some (.string s))).set 7 (some (.int .i64 s.size))).set 8 (some (.bool (decide ((s.size : Int) > 4096)))), by kernel_rfl, ⟨rfl, rfl, rfl, rfl, rfl⟩, rfl, rfl, rfl, rfl, rfl⟩

/-- What is known of Parse's slots. -/
structure TM (s : ByteArray) (c a e : Nat) (t : Array Value) : Prop where
  size : 16 ≤ t.size
  t0 : t[0]? = some (.string s)
  t2 : t[2]? = some (pt c)
  t3 : t[3]? = some (pt a)
  t4 : t[4]? = some (pt e)

def frK (s : ByteArray) (c a e : Nat) : Fr := [some (.string s), none, some (pt c), some (pt a), some (pt e), none, none, none, none, none, none, none, none, none, none, none]

theorem TM.agr {s : ByteArray} {c a e : Nat} {t : Array Value} (h : TM s c a e t) : Agr (frK s c a e) t := by
  refine ⟨h.size, fun i v hv => ?_⟩
  match i with
  | 0 => rw [h.t0]; exact hv
  | 2 => rw [h.t2]; exact hv
  | 3 => rw [h.t3]; exact hv
  | 4 => rw [h.t4]; exact hv
  | 1 | 5 | 6 | 7 | 8 | 9 | 10 | 11 | 12 | 13 | 14 | 15 => cases hv
  | n + 16 => cases hv

theorem TM.of {s : ByteArray} {c a e : Nat} {fr : Fr} {t : Array Value} (h : Agr fr t) (hl : fr.length = 16) (h0 : fr[0]? = some (some (.string s))) (h2 : fr[2]? = some (some (pt c))) (h3 : fr[3]? = some (some (pt a))) (h4 : fr[4]? = some (some (pt e))) : TM s c a e t :=
  ⟨hl ▸ h.len, h.val 0 _ (by unfold Fr.get; rw [h0]; rfl), h.val 2 _ (by unfold Fr.get; rw [h2]; rfl), h.val 3 _ (by unfold Fr.get; rw [h3]; rfl), h.val 4 _ (by unfold Fr.get; rw [h4]; rfl)⟩

theorem TM.put {s : ByteArray} {c a e : Nat} {x : Act} (h : TM s c a e x.tmps) (d : Nat) (v : Value) (h0 : d ≠ 0) (h2 : d ≠ 2) (h3 : d ≠ 3) (h4 : d ≠ 4) : TM s c a e (x.put (some d) v).tmps := by
  have e1 : ∀ i, d ≠ i → (x.put (some d) v).tmps[i]? = x.tmps[i]? := fun i hi => by
    show (x.tmps.setIfInBounds d v)[i]? = _
    rw [Array.getElem?_setIfInBounds, if_neg hi]
  refine ⟨?_, by rw [e1 0 h0]; exact h.t0, by rw [e1 2 h2]; exact h.t2, by rw [e1 3 h3]; exact h.t3, by rw [e1 4 h4]; exact h.t4⟩
  show 16 ≤ (x.tmps.setIfInBounds d v).size
  rw [Array.size_setIfInBounds]
  exact h.size

theorem eval_tmp {x : Act} {i : Nat} {v : Value} (h : x.tmps[i]? = some v) : x.eval (.tmp i) = v := by
  simp [Act.eval, h]

theorem eval_put {x : Act} {d : Nat} {v : Value} (h : d < x.tmps.size) : (x.put (some d) v).eval (.tmp d) = v := by
  apply eval_tmp
  show (x.tmps.setIfInBounds d v)[d]? = _
  rw [Array.getElem?_setIfInBounds, if_pos rfl, if_pos h]

theorem treeR (s : ByteArray) (c a e : Nat) : retT Tryz.prog (frK s c a e) Tryz.f4.results.toList [] =
    T.load (.agg K23) ⟨c, 0, none⟩ fun (x : Ty23) => T.load (.b (.int .i64)) ⟨a, 0, none⟩ fun (y : Int) => T.load (.b (.int .i64)) ⟨e, 0, none⟩ fun (z : Int) => T.ret [.agg (bencs K23 x).toArray, .int .i64 y, .int .i64 z] := by kernel_rfl

/-- What Parse hands back where its results are that. -/
theorem results4 {s : ByteArray} {c a e : Nat} {t : Array Value} (h : TM s c a e t) {w : World} (x : Ty23) (y z : Int) (hc : Blk w c (bencs K23 x) 23) (ha : Blk w a [.int .i64 y] 3) (he : Blk w e [.int .i64 z] 24) :
    (results Tryz.f4 t).run Tryz.prog w = .ok (tupOf [.agg (bencs K23 x).toArray, .int .i64 y, .int .i64 z]) w := by
  obtain ⟨v, h1, h2⟩ := results_run (P := Tryz.prog) (R := fun r w' => r = .returned (tupOf [.agg (bencs K23 x).toArray, .int .i64 y, .int .i64 z])) (fn := Tryz.f4) h.agr (by
    rw [treeR]
    refine wLoadA hc x rfl rfl ?_
    refine wLoad1 ha y rfl rfl ?_
    refine wLoad1 he z rfl rfl ?_
    exact wRet rfl)
  rw [h1]
  injection h2 with h3
  rw [h3]

noncomputable def oper (n : Nat) (c : Code) : Oper := (opsOf c).getD n default

theorem tree44 (s : ByteArray) (c a e : Nat) (Post : KE → Fr → World → Prop) : ∃ f : Addr → Fr, comp Tryz.prog [] c44 [] [] (frK s c a e) (fun e fr' => .jump (fun _ w' => Post e fr' w') []) =
    (T.new [.string s, .int .i64 0] 32 fun p5 => T.jump (fun _ w' => Post .normal (f p5) w') []) ∧ ∀ p5, (f p5).length = 16 ∧ (f p5)[0]? = some (some (.string s)) ∧ (f p5)[2]? = some (some (pt c)) ∧ (f p5)[3]? = some (some (pt a)) ∧ (f p5)[4]? = some (some (pt e)) ∧ (f p5)[5]? = some (some (.pointer (some p5))) :=
  ⟨fun p5 => ((((frK s c a e).set 11 (some (.string s))).set 12 (some (.agg #[.string s, .int .i64 0]))).set 13 (some (.pointer (some p5)))).set 5 (some (.pointer (some p5))), by kernel_rfl, fun _ => ⟨rfl, rfl, rfl, rfl, rfl, rfl⟩⟩

theorem o43_0 : (opsOf c43)[0]? = some (oper 0 c43) := by kernel_rfl
theorem o43_1 : (opsOf c43)[1]? = some (oper 1 c43) := by kernel_rfl
theorem run43_0 (x : Act) (w : World) : (execOp x.eval (oper 0 c43)).run Tryz.prog w = .ok (.value (.func (.func 6) #[] #[x.eval (.tmp 2), x.eval (.tmp 3), x.eval (.tmp 4)])) w := by kernel_rfl
theorem exec43_1 (x : Act) : execOp x.eval (oper 1 c43) = (do pure (.defer (← Deferred.ofValue (x.eval (.tmp 10)) #[]))) := by kernel_rfl

theorem runDf (x y z : Value) (w : World) : (do pure (Next.defer (← Deferred.ofValue (.func (.func 6) #[] #[x, y, z]) #[])) : Sem Next).run Tryz.prog w = .ok (.defer { target := .fn (.func 6) #[x, y, z], args := #[] }) w := by kernel_rfl

theorem o45_0 : (opsOf c45)[0]? = some (oper 0 c45) := by kernel_rfl
theorem o45_1 : (opsOf c45)[1]? = some (oper 1 c45) := by kernel_rfl
theorem o45_2 : (opsOf c45)[2]? = some (oper 2 c45) := by kernel_rfl
theorem o45_3 : (opsOf c45)[3]? = some (oper 3 c45) := by kernel_rfl
theorem o45_4 : (opsOf c45)[4]? = some (oper 4 c45) := by kernel_rfl
theorem run45_0 (x : Act) (w : World) : (execOp x.eval (oper 0 c45)).run Tryz.prog w = .ok (.value (x.eval (.tmp 5))) w := by kernel_rfl
theorem run45_1 (x : Act) (w : World) : (execOp x.eval (oper 1 c45)).run Tryz.prog w = .ok (.enter 8 #[x.eval (.tmp 14)]) w := by kernel_rfl
theorem exec45_2 (x : Act) : execOp x.eval (oper 2 c45) = (do Instr.storeAt 23 (x.eval (.tmp 2)) (x.eval (.tmp 15)); pure .skip) := by kernel_rfl
theorem exec45_3 (x : Act) : execOp x.eval (oper 3 c45) = (do Instr.storeAt 3 (x.eval (.tmp 3)) (.int .i64 0); pure .skip) := by kernel_rfl
theorem exec45_4 (x : Act) : execOp x.eval (oper 4 c45) = (do Instr.storeAt 24 (x.eval (.tmp 4)) (.int .i64 0); pure .skip) := by kernel_rfl

theorem wpOps_one {P : Program} {ops : Array Oper} {Q : Exit → Act → World → Prop} {i : Nat} {rest : List Nat} {o : Oper} {a : Act} {w : World} (ho : ops[i]? = some o) (hg : o.guard = none) (h : o.upon P a (wpOps P ops Q rest) Q ((execOp a.eval o).run P w)) : wpOps P ops Q (i :: rest) a w := by
  unfold wpOps
  simp only [ho]
  have hw : Region.wanted o (yielded ops a.tmps) = true := by
    unfold Region.wanted
    rw [hg]
  rw [if_pos hw]
  exact .inl h

/-- A store of a whole block. -/
theorem store_run {t : TypeId} {inf : TypeInfo} {x v : Value} {b : Nat} {cs : List Value} {e : TypeId} {w : World} (hi : Tryz.prog.info? t = some inf) (hx : x = pt b) (hs : v.cells.size = inf.size) (hb : Blk w b cs e) (hl : v.cells.toList.length = cs.length) (h1 : v.cells.toList.all (·.oneCell') = true) :
    ∃ w', ((do Instr.storeAt t x v; pure .skip : Sem Next)).run Tryz.prog w = .ok .skip w' ∧ Blk w' b v.cells.toList e ∧ Keep [b] w w' := by
  subst hx
  obtain ⟨h2, h3, _⟩ := putCells_blk v.cells.toList w b cs e 0 hb
  have hr := storeVar_run (P := Tryz.prog) (a := ⟨b, 0, none⟩) hi hs (there_blk hb _ 0 (by omega)) h1
  refine ⟨putCells w ⟨b, 0, none⟩ v.cells.toList, ?_, ?_, h3⟩
  · simp only [Instr.storeAt, Instr.sureAddr, Sem.run_bind, Sem.run_pure, Result.andThen_ok, hr]
  · have := putAt_all v.cells.toList [] cs hl
    simp only [List.nil_append, List.length_nil] at this
    rwa [this] at h2


/-- What Parse hands back. -/
def parseV (s : ByteArray) : List Value :=
  if 4096 < s.size then [.agg Z23.toArray, .int .i64 0, .int .i64 6] else
    match pFile s with
    | .ok st => [.agg (cfgC st.nm st.sc (progV st)).toArray, .int .i64 0, .int .i64 0]
    | .fault pos code => [.agg Z23.toArray, .int .i64 (pos : Int), .int .i64 code]

theorem info23 : Tryz.prog.info? 23 = some Tryz.t23 := by kernel_rfl
theorem info24 : Tryz.prog.info? 24 = some Tryz.t24 := by kernel_rfl

theorem parse_c (s : ByteArray) (w : World) : Calls Tryz.prog 4 [.string s].toArray w fun x w' => x = .returned (tupOf (parseV s)) ∧ Keep [] w w' := by
  refine calls_of_wp_defers Tryz.func4 body4 ?_
  have hA0 : Agr (fr40 s) ([Value.string s].toArray ++ Array.replicate (Tryz.f4.ntmps - [Value.string s].toArray.size) undef) := by
    have h := agr_fr0 16 [Value.string s]
    exact h
  refine wp_seq ?_
  refine part hm (R := fun _ _ => False) (a := { tmps := _, defers := [] }) hA0 (fun ke fr' w' => ke = .normal ∧ ∃ c a e, fr' = fr41 s c a e ∧ ST w [] w' [(c, cellsO Z23 23), (a, cellsO [.int .i64 0] 3), (e, cellsO [.int .i64 0] 24)]) (tree40 s _) ?_ ?_ ?_ ?_ ?_ ?_
  · have H : ST w [] w [] := ST.nil [] w
    refine wN H fun c w1 hc H => ?_
    refine wN H fun a w2 ha H => ?_
    refine wN H fun e w3 he H => ?_
    simp only [T.wp]
    exact ⟨trivial, c, a, e, rfl, H⟩
  rotate_left
  · rintro a' w' fr' _ _ ⟨h0, _⟩; cases h0
  · rintro i a' w' fr' ⟨h0, _⟩; cases h0
  · rintro a' w' ch _ h; exact h.elim
  · rintro a' w' h; exact h.elim
  rintro a1 w1 fr1 hA1 hd1 ⟨_, c, a, e, rfl, H1⟩
  show Code.wp Tryz.prog (.seq c41 (.seq c43 (.seq c44 (.seq c45 .ret)))) _ a1 w1
  have hd1' : a1.defers = [] := hd1
  have hnd := H1.nodup
  simp at hnd
  have hcw : w.heap.size ≤ c := (H1.own (c, cellsO Z23 23) (by simp)).resolve_left (by simp)
  have haw : w.heap.size ≤ a := (H1.own (a, cellsO [.int .i64 0] 3) (by simp)).resolve_left (by simp)
  have hew : w.heap.size ≤ e := (H1.own (e, cellsO [.int .i64 0] 24) (by simp)).resolve_left (by simp)
  refine wp_seq ?_
  obtain ⟨f1, f2, ht41, gs, l1, l2, l3, l4, l5⟩ := tree41 s c a e (fun ke fr' w' => (ke = .ret ∧ (fr'.length = 16 ∧ fr'[0]? = some (some (.string s)) ∧ fr'[2]? = some (some (pt c)) ∧ fr'[3]? = some (some (pt a)) ∧ fr'[4]? = some (some (pt e))) ∧ 4096 < s.size ∧ ST w [] w' [(c, cellsO Z23 23), (a, cellsO [.int .i64 0] 3), (e, cellsO [.int .i64 6] 24)]) ∨
      (ke = .normal ∧ ¬ 4096 < s.size ∧ w' = w1 ∧ fr'.length = 16 ∧ fr'[0]? = some (some (.string s)) ∧ fr'[2]? = some (some (pt c)) ∧ fr'[3]? = some (some (pt a)) ∧ fr'[4]? = some (some (pt e))))
  refine part hm (R := fun _ _ => False) hA1 _ ht41 ?_ ?_ ?_ ?_ ?_ ?_
  · refine wIf (fun h => ?_) (fun h => ?_)
    · have h' : 4096 < s.size := by
        have := of_decide_eq_true h
        omega
      refine wSA H1 0 rfl rfl rfl rfl fun w2 H => ?_
      refine wSA H 1 rfl rfl rfl rfl fun w3 H => ?_
      refine wSA H 2 rfl rfl rfl rfl fun w4 H => ?_
      simp only [T.wp]
      exact .inl ⟨trivial, gs, h', H⟩
    · have h' : ¬ 4096 < s.size := by
        have := of_decide_eq_false h
        omega
      simp only [T.wp]
      exact .inr ⟨trivial, h', trivial, l1, l2, l3, l4, l5⟩
  rotate_left
  · rintro a2 w2 fr2 hA2 hd2 (⟨_, ⟨q0, q1, q2, q3, q4⟩, hbig, H2⟩ | ⟨h0, _⟩)
    · show Leaves Tryz.prog Tryz.f4 a2.tmps _ a2.defers .returning w2
      rw [show a2.defers = [] from hd2.trans hd1']
      refine ⟨_, results4 (TM.of hA2 q0 q1 q2 q3 q4) (cfgV (bs []) (bs []) fun _ => 0) 0 6 (H2.get (i := 0) rfl) (H2.get (i := 1) rfl) (H2.get (i := 2) rfl), ?_, H2.keep⟩
      unfold parseV
      rw [if_pos hbig]
      rfl
    · cases h0
  · rintro i a' w' fr' (⟨h0, _⟩ | ⟨h0, _⟩) <;> cases h0
  · rintro a' w' ch _ h; exact h.elim
  · rintro a' w' h; exact h.elim
  rintro a2 w2 fr2 hA2 hd2 (⟨h0, _⟩ | ⟨_, hsm, rfl, k1, k2, k3, k4, k5⟩)
  · cases h0
  have hT2 : TM s c a e a2.tmps := TM.of hA2 k1 k2 k3 k4 k5
  have hd2' : a2.defers = [] := hd2.trans hd1'
  show Code.wp Tryz.prog (.seq c43 (.seq c44 (.seq c45 .ret))) _ a2 w2
  refine wp_seq ?_
  rw [c43_eq]
  refine wp_region ?_
  rw [show (opsOf c43).size = 2 from by kernel_rfl]
  show wpOps Tryz.prog (opsOf c43) _ [0, 1] a2 w2
  refine wpOps_one o43_0 (by kernel_rfl) ?_
  rw [run43_0, show (oper 0 c43) = { (oper 0 c43) with dst := some 10 } from by kernel_rfl]
  show wpOps Tryz.prog (opsOf c43) _ [1] (a2.put (some 10) _) w2
  rw [eval_tmp hT2.t2, eval_tmp hT2.t3, eval_tmp hT2.t4]
  have hT3 := hT2.put 10 (.func (.func 6) #[] #[pt c, pt a, pt e]) (by decide) (by decide) (by decide) (by decide)
  have hv10 : (a2.put (some 10) (.func (.func 6) #[] #[pt c, pt a, pt e])).eval (.tmp 10) = .func (.func 6) #[] #[pt c, pt a, pt e] := eval_put (by have := hT2.size; omega)
  have hd3 : (a2.put (some 10) (.func (.func 6) #[] #[pt c, pt a, pt e])).defers = [] := hd2'
  generalize a2.put (some 10) (.func (.func 6) #[] #[pt c, pt a, pt e]) = a3 at hT3 hv10 hd3 ⊢
  refine wpOps_one o43_1 (by kernel_rfl) ?_
  rw [exec43_1, hv10, runDf, show (oper 1 c43) = { (oper 1 c43) with dst := none } from by kernel_rfl]
  rw [Oper.upon_defer]
  simp only [wpOps, Act.put]
  rw [hd3]
  show Code.wp Tryz.prog (.seq c44 (.seq c45 .ret)) _ _ w2
  refine wp_seq ?_
  obtain ⟨f, ht44, hf44⟩ := tree44 s c a e (fun ke fr' w' => ke = .normal ∧ ∃ r, ST w [] w' [(c, cellsO Z23 23), (a, cellsO [.int .i64 0] 3), (e, cellsO [.int .i64 0] 24), (r, cellsO [.string s, .int .i64 0] 32)] ∧
    (fr'.length = 16 ∧ fr'[0]? = some (some (.string s)) ∧ fr'[2]? = some (some (pt c)) ∧ fr'[3]? = some (some (pt a)) ∧ fr'[4]? = some (some (pt e)) ∧ fr'[5]? = some (some (pt r))))
  refine part hm (R := fun _ _ => False) (a := { tmps := a3.tmps, defers := [{ target := .fn (.func 6) #[pt c, pt a, pt e], args := #[] }] }) (fr := frK s c a e) hT3.agr _ ht44 ?_ ?_ ?_ ?_ ?_ ?_
  · refine wN H1 fun r w3 hr H => ?_
    simp only [T.wp]
    exact ⟨trivial, r, H, hf44 ⟨r, 0, none⟩⟩
  rotate_left
  · rintro a' w' fr' _ _ ⟨h0, _⟩; cases h0
  · rintro i a' w' fr' ⟨h0, _⟩; cases h0
  · rintro a' w' ch _ h; exact h.elim
  · rintro a' w' h; exact h.elim
  rintro a4 w3 fr4 hA4 hd4 ⟨_, r, H3, ⟨j0, j1, j2, j3, j4, j5⟩⟩
  have hT4 : TM s c a e a4.tmps := TM.of hA4 j0 j1 j2 j3 j4
  have ht5 : a4.tmps[5]? = some (pt r) := hA4.val 5 _ (by unfold Fr.get; rw [j5]; rfl)
  have hd4' : a4.defers = [{ target := .fn (.func 6) #[pt c, pt a, pt e], args := #[] }] := hd4
  show Code.wp Tryz.prog (.seq c45 .ret) _ a4 w3
  refine wp_seq ?_
  rw [c45_eq]
  refine wp_region ?_
  rw [show (opsOf c45).size = 5 from by kernel_rfl]
  show wpOps Tryz.prog (opsOf c45) _ [0, 1, 2, 3, 4] a4 w3
  refine wpOps_one o45_0 (by kernel_rfl) ?_
  rw [run45_0, eval_tmp ht5, show (oper 0 c45) = { (oper 0 c45) with dst := some 14 } from by kernel_rfl]
  show wpOps Tryz.prog (opsOf c45) _ [1, 2, 3, 4] (a4.put (some 14) (pt r)) w3
  have hT5 := hT4.put 14 (pt r) (by decide) (by decide) (by decide) (by decide)
  have hv14 : (a4.put (some 14) (pt r)).eval (.tmp 14) = pt r := eval_put (by have := hT4.size; omega)
  have hd5 : (a4.put (some 14) (pt r)).defers = [{ target := .fn (.func 6) #[pt c, pt a, pt e], args := #[] }] := hd4'
  generalize a4.put (some 14) (pt r) = a5 at hT5 hv14 hd5 ⊢
  refine wpOps_one o45_1 (by kernel_rfl) ?_
  rw [run45_1, hv14, show (oper 1 c45) = { (oper 1 c45) with dst := some 15 } from by kernel_rfl]
  have hnd3 := H3.nodup
  simp at hnd3
  have hrw : w.heap.size ≤ r := (H3.own (r, cellsO [.string s, .int .i64 0] 32) (by simp)).resolve_left (by simp)
  refine Calls.mono (resource_c (by omega) (H3.get (i := 3) rfl)) ?_
  rintro x w4 ⟨hk4, hx⟩
  have hc4 : Blk w4 c Z23 23 := hk4.blk (H3.get (i := 0) rfl) (by simpa using hnd3.1.2.2)
  have ha4 : Blk w4 a [.int .i64 0] 3 := hk4.blk (H3.get (i := 1) rfl) (by simpa using hnd3.2.1.2)
  have he4 : Blk w4 e [.int .i64 0] 24 := hk4.blk (H3.get (i := 2) rfl) (by simpa using hnd3.2.2)
  have hk04 : Keep [] w w4 := H3.keep.trans hk4 (fun x hx hlt => by
    have hx' : x = r := List.mem_singleton.1 hx
    omega)
  have hparse : parseV s = match pFile s with
      | .ok st => [.agg (cfgC st.nm st.sc (progV st)).toArray, .int .i64 0, .int .i64 0]
      | .fault pos code => [.agg Z23.toArray, .int .i64 (pos : Int), .int .i64 code] := by
    unfold parseV
    rw [if_neg hsm]
  cases hpf : pFile s with
  | fault pos code =>
    rw [hpf] at hx hparse
    subst hx
    show Leaves Tryz.prog Tryz.f4 a5.tmps _ a5.defers (.panicking (faultL pos code)) w4
    rw [hd5]
    refine leaves_cons (f := 6) (args := #[pt c, pt a, pt e]) (by simp) (by kernel_rfl) ?_
    refine (recover_c hnd.1.1 hnd.1.2 hnd.2 hc4 rfl ha4 he4 (pos : Int) code).mono ?_
    rintro z u' w5 ⟨rfl, ⟨v, rfl⟩, hk5, hc5, ha5, he5⟩
    show Leaves Tryz.prog Tryz.f4 a5.tmps _ [] .returning w5
    refine ⟨_, results4 hT5 (cfgV (bs []) (bs []) fun _ => 0) (pos : Int) code hc5 ha5 he5, ?_, hk04.trans hk5 (fun x hx hlt => ?_)⟩
    · rw [hparse]
      rfl
    · simp only [List.mem_cons, List.not_mem_nil, or_false] at hx
      omega
  | ok st =>
    rw [hpf] at hx hparse
    subst hx
    show wpOps Tryz.prog (opsOf c45) _ [2, 3, 4] (a5.put (some 15) _) w4
    have hT6 := hT5.put 15 (.agg (cfgC st.nm st.sc (progV st)).toArray) (by decide) (by decide) (by decide) (by decide)
    have hv15 : (a5.put (some 15) (.agg (cfgC st.nm st.sc (progV st)).toArray)).eval (.tmp 15) = .agg (cfgC st.nm st.sc (progV st)).toArray := eval_put (by have := hT5.size; omega)
    have hd6 : (a5.put (some 15) (.agg (cfgC st.nm st.sc (progV st)).toArray)).defers = [{ target := .fn (.func 6) #[pt c, pt a, pt e], args := #[] }] := hd5
    show wpOps Tryz.prog (opsOf c45) _ [2, 3, 4] (a5.put (some 15) (.agg (cfgC st.nm st.sc (progV st)).toArray)) w4
    generalize a5.put (some 15) (.agg (cfgC st.nm st.sc (progV st)).toArray) = a6 at hT6 hv15 hd6 ⊢
    obtain ⟨w5, hr5, hb5, hk5⟩ := store_run info23 (eval_tmp hT6.t2) (v := .agg (cfgC st.nm st.sc (progV st)).toArray) rfl hc4 rfl rfl
    refine wpOps_one o45_2 (by kernel_rfl) ?_
    rw [exec45_2, hv15, hr5, show (oper 2 c45) = { (oper 2 c45) with dst := none } from by kernel_rfl]
    show wpOps Tryz.prog (opsOf c45) _ [3, 4] a6 w5
    obtain ⟨w6, hr6, hb6, hk6⟩ := store_run info3 (eval_tmp hT6.t3) (v := .int .i64 0) rfl (hk5.blk ha4 (by simpa using fun h => hnd.1.1 h.symm)) rfl rfl
    refine wpOps_one o45_3 (by kernel_rfl) ?_
    rw [exec45_3, hr6, show (oper 3 c45) = { (oper 3 c45) with dst := none } from by kernel_rfl]
    show wpOps Tryz.prog (opsOf c45) _ [4] a6 w6
    obtain ⟨w7, hr7, hb7, hk7⟩ := store_run info24 (eval_tmp hT6.t4) (v := .int .i64 0) rfl (hk6.blk (hk5.blk he4 (by simpa using fun h => hnd.1.2 h.symm)) (by simpa using fun h => hnd.2 h.symm)) rfl rfl
    refine wpOps_one o45_4 (by kernel_rfl) ?_
    rw [exec45_4, hr7, show (oper 4 c45) = { (oper 4 c45) with dst := none } from by kernel_rfl]
    show Code.wp Tryz.prog .ret _ a6 w7
    refine wp_ret ?_
    show Leaves Tryz.prog Tryz.f4 a6.tmps _ a6.defers .returning w7
    rw [hd6]
    refine leaves_cons (f := 6) (args := #[pt c, pt a, pt e]) (by simp) (by kernel_rfl) ?_
    refine norecover_c.mono ?_
    rintro z u' w8 ⟨rfl, rfl, rfl⟩
    show Leaves Tryz.prog Tryz.f4 a6.tmps _ [] .returning w8
    have hc8 : Blk w8 c (cfgC st.nm st.sc (progV st)) 23 := hk7.blk (hk6.blk hb5 (by simpa using hnd.1.1)) (by simpa using hnd.1.2)
    have ha8 : Blk w8 a [.int .i64 0] 3 := hk7.blk hb6 (by simpa using hnd.2)
    refine ⟨_, results4 hT6 (cfgV st.nm st.sc (progV st)) 0 0 hc8 ha8 hb7, ?_, ?_⟩
    · rw [hparse]
      rfl
    · refine ((hk04.trans hk5 (fun x hx hlt => ?_)).trans hk6 (fun x hx hlt => ?_)).trans hk7 (fun x hx hlt => ?_)
      all_goals
        have hx' := List.mem_singleton.1 hx
        omega

end Go.Proofs.Cf
