/- A tree that holds of a world lets the code that it was compiled from run so: loads, stores, calls and the other operations with an effect; a region in the text's order. No statement about the program stands here. -/
import Derived.Test.YtphejmchkmciaaaGreatDoorFb
namespace Go.WF
section
variable {P : Program} {R : Ending → World → Prop}

/-! ### Loads and stores -/
theorem add_add (a : Addr) (i j : Nat) (h : j ≠ 0) : (a.add i).add j = a.add (i + j) := by
  unfold Addr.add
  by_cases hi : i = 0
  · simp [hi]
  · have : i + j ≠ 0 := by omega
    simp [hi, h, this, Nat.add_assoc]

theorem add_one_add (a : Addr) (i : Nat) : (a.add 1).add i = a.add (i + 1) := by
  unfold Addr.add
  by_cases hi : i = 0
  · simp [hi]
  · simp [hi]; omega

theorem loadCellsFrom_run {w : World} (a : Addr) : ∀ (vs : List Value) (i : Nat) (acc : Array Value), cellsAt w (a.add i) vs → (∀ j, j < vs.length → (a.add i).add j = a.add (i + j)) →
    (loadCellsFrom a i vs.length acc).run P w = .ok (acc ++ vs.toArray) w
  | [], i, acc, _, _ => by simp [loadCellsFrom]
  | v :: vs, i, acc, h, hj => by
    obtain ⟨h1, h2⟩ := h
    have e1 : (a.add i).add 1 = a.add (i + 1) := by
      unfold Addr.add
      by_cases hi : i = 0
      · simp [hi]
      · simp [hi]; omega
    have ih := loadCellsFrom_run a vs (i + 1) (acc.push v) (by rw [← e1]; exact h2) (fun j hj' => by
      unfold Addr.add
      by_cases hj0 : j = 0
      · simp [hj0]
      · simp [hj0]; omega)
    simp only [List.length_cons, loadCellsFrom, Sem.run_bind, run_load, h1, Result.andThen_ok, ih]
    simp

theorem loadCells_run {w : World} {a : Addr} {vs : List Value} (h : cellsAt w a vs) : (loadCells a vs.length).run P w = .ok vs.toArray w := by
  have := loadCellsFrom_run (P := P) (w := w) a vs 0 #[] (by simpa [Addr.add] using h) (fun j _ => by simp [Addr.add])
  simpa [loadCells] using this

theorem bencs_length : ∀ (ks : List B) (xs : BTys ks), (bencs ks xs).length = ks.length
  | [], _ => rfl
  | _ :: ks, (_, xs) => by simp [bencs, bencs_length ks xs]

theorem kd_cases (P : Program) (t : TypeId) : (isAggT P t = true ∧ kdOf P t = .agg (flat P 20 t)) ∨ (isAggT P t = false ∧ kdOf P t = .b (bOf P t)) := by
  unfold isAggT kdOf
  split <;> simp

theorem isAgg_run {t : TypeId} {d : TypeDesc} (h : P.underlying t = some d) (w : World) : (isAgg t).run P w = .ok (isAggT P t) w := by
  simp only [isAgg, Sem.run_bind, run_underlying' h, Result.andThen_ok, isAggT, h]
  cases d <;> simp

theorem info_of_underlying {t : TypeId} {d : TypeDesc} (h : P.underlying t = some d) : ∃ i, P.info? t = some i := by
  cases hi : P.info? t with
  | some i => exact ⟨i, rfl⟩
  | none => simp [Program.underlying, hi] at h

theorem cellsOf_info {t : TypeId} {i : TypeInfo} (h : P.info? t = some i) : P.cellsOf t = i.size := by simp [Program.cellsOf, h]

theorem loadVar_run {w : World} {t : TypeId} {a : Addr} (hf : fitsKd P t = true) (x : (kdOf P t).Ty) (h : cellsAt w a ((kdOf P t).cells x)) : (loadVar t a).run P w = .ok ((kdOf P t).enc x) w := by
  simp only [fitsKd, Bool.and_eq_true] at hf
  obtain ⟨hs, hf⟩ := hf
  obtain ⟨d, hd⟩ := Option.isSome_iff_exists.1 hs
  obtain ⟨i, hi⟩ := info_of_underlying hd
  simp only [loadVar, Sem.run_bind, isAgg_run hd, Result.andThen_ok]
  rcases kd_cases P t with ⟨ha, hk⟩ | ⟨ha, hk⟩
  · revert x
    rw [hk]
    intro x h
    simp only [ha, if_true, beq_iff_eq] at hf
    have hl : i.size = (bencs (flat P 20 t) x).length := by rw [bencs_length, ← hf, cellsOf_info hi]
    simp only [ha, if_true, Sem.run_bind, run_sizeOf' hi, Result.andThen_ok]
    have := loadCells_run (P := P) (w := w) (a := a) (vs := bencs (flat P 20 t) x) h
    rw [hl, this]
    rfl
  · revert x
    rw [hk]
    intro x h
    simp only [ha, Bool.false_eq_true, if_false, run_load, h.1]
    rfl

theorem there_add {w : World} {a : Addr} {n : Nat} (h : there w a (n + 1)) : there w (a.add 1) n := h.2.2

theorem there_set {w : World} : ∀ (n : Nat) (a b : Addr) (v : Value), there w a n → there (w.setCell b v) a n
  | 0, _, _, _, _ => trivial
  | n + 1, a, b, v, ⟨h1, h2, h3⟩ => by
    refine ⟨?_, ?_, there_set n _ b v h3⟩
    · obtain ⟨u, hu⟩ := Option.isSome_iff_exists.1 h1
      by_cases hab : b = a
      · subst hab; rw [World.cell?_setCell_same _ _ _ hu]; rfl
      · rw [World.cell?_setCell_other _ _ _ _ hab]; exact h1
    · simp only [World.frozen?, World.setCell, Array.getElem?_modify] at h2 ⊢
      by_cases hb : b.block = a.block
      · simp only [hb, if_true]
        cases hh : w.heap[a.block]? with
        | none => simp
        | some o => simp only [hh] at h2; cases o <;> simp_all
      · simp only [hb, if_false]; exact h2

theorem storeCells_run : ∀ (vs : List Value) (a : Addr) (i : Nat) (w : World), there w (a.add i) vs.length → vs.all (·.oneCell') = true →
    (storeCells a vs i).run P w = .ok () (putCells w (a.add i) vs)
  | [], a, i, w, _, _ => by simp [storeCells, putCells]
  | v :: vs, a, i, w, ⟨h1, h2, h3⟩, h => by
    simp only [List.all_cons, Bool.and_eq_true] at h
    obtain ⟨u, hu⟩ := Option.isSome_iff_exists.1 h1
    have e1 : (a.add i).add 1 = a.add (i + 1) := by
      unfold Addr.add
      by_cases hi : i = 0
      · simp [hi]
      · simp [hi]; omega
    have ih := storeCells_run vs a (i + 1) (w.setCell (a.add i) v) (by rw [← e1]; exact there_set _ _ _ _ h3) h.2
    simp only [storeCells, Sem.run_bind, run_store P w (a.add i) v .plain h.1, hu, h2, Bool.false_eq_true, if_false, Result.andThen_ok, ih, putCells, e1]

theorem storeVar_run {w : World} {t : TypeId} {a : Addr} {v : Value} {i : TypeInfo} (hi : P.info? t = some i) (hs : v.cells.size = i.size) (h : there w a v.cells.toList.length) (h1 : v.cells.toList.all (·.oneCell') = true) :
    (storeVar t a v).run P w = .ok () (putCells w a v.cells.toList) := by
  have := storeCells_run (P := P) v.cells.toList a 0 w (by simpa [Addr.add] using h) h1
  simp only [storeVar, Sem.run_bind, run_sizeOf' hi, Result.andThen_ok, hs, ne_eq, not_true_eq_false, if_false, Sem.run_pure]
  simpa [Addr.add] using this

theorem cells_one {v : Value} (h : v.oneCell' = true) : v.cells = #[v] := by
  cases v <;> simp_all [Value.cells, Value.oneCell']

/-! ### The trees' own laws -/
theorem cond_iff {c : Bool} {t e : T} {w : World} : (cond c t e).wp P R w ↔ (c = true → t.wp P R w) ∧ (c = false → e.wp P R w) := by
  cases c <;> simp

theorem chk_iff {c : Bool} {k : T} {w : World} : (chk c k).wp P R w ↔ c = true ∧ k.wp P R w := by
  unfold chk; cases c <;> simp [T.wp]

/-! ### One operation with an effect -/
theorem eff_sound {ρ : Operand → Value} {o : Oper} {K : Value → T} {w : World} {a : Act} {next : Act → World → Prop} {Q : Exit → Act → World → Prop}
    (hK : ∀ v w', (K v).wp P R w' → next (a.put o.dst v) w') (hp : ∀ c w', R (.panicked c) w' → Q (.panic c) a w') (ho : ∀ w', R .outgrown w' → LetsOut Q)
    (hfunc : ∀ g, ρ (.func g) = .func (.func g) #[] #[]) (h : (effOp P ρ o K).wp P R w) : o.upon P a next Q ((execOp ρ o).run P w) := by
  unfold effOp at h
  split at h
  · rename_i t x y hop
    simp only [execOp, hop]
    split at h
    · rename_i p hx
      split at h
      · rename_i ha
        split at h
        · rename_i hsz
          rw [chk_iff] at h
          obtain ⟨hs, h1, h2, h3⟩ := h
          cases p with
          | none => simp at hs
          | some ad =>
            have hu : ∃ d, P.underlying t = some d := by
              unfold isAggT at ha
              split at ha
              · exact ⟨_, by assumption⟩
              · exact ⟨_, by assumption⟩
              · cases ha
            obtain ⟨d, hd⟩ := hu
            obtain ⟨i, hi⟩ := info_of_underlying hd
            have := storeVar_run (P := P) (w := w) (a := ad) hi (by rw [hsz, cellsOf_info hi]) h1 h2
            simp only [Sem.run_bind, Instr.storeAt, hx, Instr.sureAddr, Sem.run_pure, Result.andThen_ok, this, Oper.upon]
            exact hK _ _ h3
        · exact h.elim
      · split at h
        · rename_i hsz
          rw [chk_iff] at h
          obtain ⟨hs, h1, h2, h3⟩ := h
          cases p with
          | none => simp at hs
          | some ad =>
            have h1c : (ρ y).oneCell' = true := by simpa using h2
            have hcs : (ρ y).cells = #[ρ y] := cells_one h1c
            cases hi : P.info? t with
            | none => simp [Program.cellsOf, hi] at hsz
            | some i =>
              have := storeVar_run (P := P) (w := w) (a := ad) (v := ρ y) hi (by rw [hcs, ← cellsOf_info hi, hsz]; rfl) (by rw [hcs]; exact h1) (by rw [hcs]; exact h2)
              rw [hcs] at this
              simp only [Sem.run_bind, Instr.storeAt, hx, Instr.sureAddr, Sem.run_pure, Result.andThen_ok, this, Oper.upon]
              exact hK _ _ h3
        · exact h.elim
    · exact h.elim
  · rename_i t hop
    simp only [execOp, hop]
    split at h
    · rename_i cs hz
      unfold zeroCells at hz
      split at hz
      · rename_i i hi
        cases hzv : i.zero with
        | none => simp [hzv] at hz
        | some z =>
          simp only [hzv, Option.map_some, Option.some.injEq] at hz
          subst hz
          simp only [Sem.run_bind, Instr.alloc, zeroValue, run_typeInfo' hi, Result.andThen_ok, hzv, Sem.run_pure, newVar, newRow, run_newObj, Oper.upon]
          exact hK _ _ h
      · cases hz
    · exact h.elim
  · rename_i t x hop
    simp only [execOp, hop]
    split at h
    · simp only [Sem.run_bind, Instr.box, newVar, newRow, run_newObj, Result.andThen_ok, Sem.run_pure, Oper.upon]
      exact hK _ _ h
    · rw [chk_iff] at h
      obtain ⟨h1, h⟩ := h
      simp only [Sem.run_bind, Instr.box, newVar, newRow, run_newObj, Result.andThen_ok, Sem.run_pure, Oper.upon, cells_one h1]
      exact hK _ _ h
  · rename_i c hop
    split at h
    · rename_i g hc
      split at h
      · rename_i fn hfn
        split at h
        · exact h.elim
        · rename_i hb
          simp only [Bool.or_eq_true, not_or, Bool.not_eq_true] at hb
          have hrun : (execOp ρ o).run P w = .ok (.enter g (c.args.map ρ)) w := by
            simp only [execOp, hop, Sem.run_bind, resolve, hc, hfunc g, Deferred.ofValue, Sem.run_pure, Result.andThen_ok, invoke, callFunc, run_program, hfn, hb.1, hb.2, Bool.false_eq_true, if_false]
            simp
          rw [hrun]
          simp only [Oper.upon]
          simp only [T.wp] at h
          rw [show (c.args.toList.map ρ).toArray = c.args.map ρ from by rw [← Array.toList_map, Array.toArray_toList]] at h
          refine h.mono fun e w' he => ?_
          cases e with
          | returned v => obtain ⟨xs, rfl, hx⟩ := he; exact hK _ _ hx
          | panicked ch => exact hp _ _ he
          | outgrown => exact ho _ he
      · exact h.elim
    · rename_i f hf hc
      simp only [T.wp] at h
      obtain ⟨g, first, cap, fn, hfv, hfn, hn, hb, h⟩ := h
      have hrun : (execOp ρ o).run P w = .ok (.enter g (first ++ c.args.map ρ ++ cap)) w := by
        simp only [execOp, hop, Sem.run_bind, resolve, hc, hfv, Deferred.ofValue, Sem.run_pure, Result.andThen_ok, invoke, callFunc, run_program, hfn, hb, hn, Bool.false_eq_true, if_false]
      rw [hrun]
      simp only [Oper.upon]
      rw [show (c.args.toList.map ρ).toArray = c.args.map ρ from by rw [← Array.toList_map, Array.toArray_toList]] at h
      refine h.mono fun e w' he => ?_
      cases e with
      | returned v => obtain ⟨xs, rfl, hx⟩ := he; exact hK _ _ hx
      | panicked ch => exact hp _ _ he
      | outgrown => exact ho _ he
    · exact h.elim
    · rename_i hc
      split at h
      · rename_i x hargs
        obtain ⟨⟨t, u, hv⟩, h⟩ := h
        have ha : c.args = #[x] := by
          have := congrArg List.toArray hargs
          simpa using this
        have hrun : (execOp ρ o).run P w = .halt (.panic (ρ x)) w := by
          simp only [execOp, hop, Sem.run_bind, resolve, hc, Sem.run_pure, Result.andThen_ok, invoke, builtin, ha]
          simp [Instr.panic, hv]
        rw [hrun]
        exact hp _ _ h
      · exact h.elim
    · obtain ⟨v, w', hr, xs, rfl, h⟩ := h
      rw [hr]
      exact hK _ _ h
  · rename_i x hop
    obtain ⟨⟨t, u, hv⟩, h⟩ := h
    have hrun : (execOp ρ o).run P w = .halt (.panic (ρ x)) w := by
      simp only [execOp, hop, hv, Instr.panic]
      simp
    rw [hrun]
    exact hp _ _ h
  · obtain ⟨w', hr, h⟩ := h; rw [hr]; exact hK _ _ h
  · obtain ⟨w', hr, h⟩ := h; rw [hr]; exact hK _ _ h
  · obtain ⟨w', hr, h⟩ := h; rw [hr]; exact hK _ _ h
  · obtain ⟨v, w', hr, xs, rfl, h⟩ := h; rw [hr]; exact hK _ _ h
  · rcases h with ⟨i, c, w', hr, h⟩ | ⟨w', hr, h⟩
    · rw [hr]; exact hK _ _ h
    · rw [hr]; exact hK _ _ h
  all_goals first
    | exact h.elim
    | (obtain ⟨v, w', hr, xs, rfl, h⟩ := h; rw [hr]; exact hK _ _ h)
end
end Go.WF
