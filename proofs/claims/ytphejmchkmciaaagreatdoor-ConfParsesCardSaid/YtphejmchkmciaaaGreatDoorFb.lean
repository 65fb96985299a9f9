/- What the compiler of the first text says is so: an operation that it takes to compute computes just that in every world. No statement about the program stands here. -/
import Derived.Test.YtphejmchkmciaaaGreatDoorFa
namespace Go.WF
section
variable {P : Program} {R : Ending → World → Prop}

theorem pureV_run {α : Type} : ∀ (s : Sem α) (a : α), pureV P s = some a → ∀ w, s.run P w = .ok a w
  | .pure b, a, h, w => by simp only [pureV, Option.some.injEq] at h; subst h; rfl
  | .program k, a, h, w => by simp only [pureV] at h; simp only [Sem.run]; exact pureV_run (k P) a h w
  | .mark m k, a, h, w => by simp only [pureV] at h; simp only [Sem.run]; exact pureV_run k a h w
  | .load .., a, h, w => by simp [pureV] at h
  | .store .., a, h, w => by simp [pureV] at h
  | .new .., a, h, w => by simp [pureV] at h
  | .shape .., a, h, w => by simp [pureV] at h
  | .freeze .., a, h, w => by simp [pureV] at h
  | .frozen .., a, h, w => by simp [pureV] at h
  | .getObj .., a, h, w => by simp [pureV] at h
  | .setObj .., a, h, w => by simp [pureV] at h
  | .choose .., a, h, w => by simp [pureV] at h
  | .sys .., a, h, w => by simp [pureV] at h
  | .halt _, a, h, w => by simp [pureV] at h

theorem plain_run {ρ : Operand → Value} {o : Oper} {c : Bool} {v : Value} (h : plain P ρ o = some (c, v)) (w : World) : (execOp ρ o).run P w = .ok (.value v) w := by
  unfold plain at h
  split at h
  · rename_i u hu
    simp only [Option.some.injEq, Prod.mk.injEq] at h
    obtain ⟨_, rfl⟩ := h
    exact pureV_run _ _ hu w
  · cases h

theorem run_underlying' {t : TypeId} {d : TypeDesc} (h : P.underlying t = some d) (w : World) : (underlying t).run P w = .ok d w := by
  simp [underlying, h]

theorem run_typeInfo' {t : TypeId} {i : TypeInfo} (h : P.info? t = some i) (w : World) : (typeInfo t).run P w = .ok i w := by
  simp [typeInfo, h]

theorem run_sizeOf' {t : TypeId} {i : TypeInfo} (h : P.info? t = some i) (w : World) : (sizeOf t).run P w = .ok i.size w := by
  simp [sizeOf, run_typeInfo' h]

theorem run_vOf {s : Sem Value} {v : Value} {w w' : World} (h : s.run P w = .ok v w') : (do pure (Next.value (← s)) : Sem Next).run P w = .ok (.value v) w' := by
  simp [h]

theorem eqGuard_quiet {op : BinOp} (h : op ≠ .eql ∧ op ≠ .neq) (t : TypeId) (x y : Operand) (a b : Value) (w : World) : (eqGuard op t x y a b).run P w = .ok () w := by
  unfold eqGuard
  cases op <;> simp_all

theorem eqGuard_ptr (op : BinOp) (t : TypeId) (x y : Operand) (p q : Option Addr) (w : World) : (eqGuard op t x y (.pointer p) (.pointer q)).run P w = .ok () w := by
  unfold eqGuard
  cases op <;> simp

theorem eqGuard_slice (op : BinOp) (t : TypeId) (x y : Operand) (p q : Option Addr) (m n m' n' : Nat) (w : World) : (eqGuard op t x y (.slice p m n) (.slice q m' n')).run P w = .ok () w := by
  unfold eqGuard
  cases op <;> simp

theorem eqGuard_nil (op : BinOp) (t : TypeId) (x : Operand) (k : Value) (a : Value) (w : World) : (eqGuard op t x (.const k) a .nilIface).run P w = .ok () w := by
  unfold eqGuard
  cases op <;> cases a <;> simp

theorem equalIn_ptr {t e : TypeId} (h : P.underlying t = some (.pointer e)) (p : Option Addr) (w : World) (d : Nat) : (Op.equalIn (d + 1) t (.pointer p) (.pointer none)).run P w = .ok p.isNone w := by
  cases p <;> simp [Op.equalIn, run_underlying' h]

theorem equal_ptr {t e : TypeId} (h : P.underlying t = some (.pointer e)) (p : Option Addr) (w : World) : (Op.equal t (.pointer p) (.pointer none)).run P w = .ok p.isNone w :=
  equalIn_ptr h p w 9999

theorem equalIn_slice {t e : TypeId} (h : P.underlying t = some (.slice e)) (p : Option Addr) (m n m' n' : Nat) (w : World) (d : Nat) : (Op.equalIn (d + 1) t (.slice p m n) (.slice none m' n')).run P w = .ok p.isNone w := by
  cases p <;> simp [Op.equalIn, run_underlying' h]

theorem equal_slice {t e : TypeId} (h : P.underlying t = some (.slice e)) (p : Option Addr) (m n m' n' : Nat) (w : World) : (Op.equal t (.slice p m n) (.slice none m' n')).run P w = .ok p.isNone w :=
  equalIn_slice h p m n m' n' w 9999

theorem equalIn_nilI {t : TypeId} {ms : Array (String × TypeId)} (h : P.underlying t = some (.interface ms)) (v : Value) (hv : isIface v = true) (w : World) (d : Nat) : (Op.equalIn (d + 1) t v .nilIface).run P w = .ok (isNilI v) w := by
  cases v <;> simp [isIface] at hv <;> simp [Op.equalIn, run_underlying' h, isNilI]

theorem equal_nilI {t : TypeId} {ms : Array (String × TypeId)} (h : P.underlying t = some (.interface ms)) (v : Value) (hv : isIface v = true) (w : World) : (Op.equal t v .nilIface).run P w = .ok (isNilI v) w :=
  equalIn_nilI h v hv w 9999

theorem bind_ok {α β : Type} {s : Sem α} {f : α → Sem β} {a : α} {w w1 : World} (h : s.run P w = .ok a w1) : (s >>= f).run P w = (f a).run P w1 := by
  simp [h]

theorem binOp_run {ρ : Operand → Value} {o : Oper} {op : BinOp} {t : TypeId} {x y : Operand} {yt : TypeId} {a b v : Value} {w : World} (ho : o.op = .binOp op t x y yt) (ha : ρ x = a) (hb : ρ y = b)
    (hg : (eqGuard op t x y a b).run P w = .ok () w) (hr : (Go.binOp op t a b).run P w = .ok v w) : (execOp ρ o).run P w = .ok (.value v) w := by
  simp only [execOp, ho, ha, hb]
  simp [hg, hr]

theorem lo_spec {lo : Option Value} {l : Int} (h : loOf lo = some l) : (lo = none ∧ l = 0) ∨ (∃ k, lo = some (.int k l)) := by
  cases lo with
  | none => simp only [loOf, Option.some.injEq] at h; exact .inl ⟨rfl, h.symm⟩
  | some v => cases v <;> simp only [loOf, Option.some.injEq, reduceCtorEq] at h; subst h; exact .inr ⟨_, rfl⟩

theorem hi_spec {len : Int} {hi : Option Value} {h' : Int} (h : hiOf len hi = some h') : (hi = none ∧ h' = len) ∨ (∃ k, hi = some (.int k h')) := by
  cases hi with
  | none => simp only [hiOf, Option.some.injEq] at h; exact .inl ⟨rfl, h.symm⟩
  | some v => cases v <;> simp only [hiOf, Option.some.injEq, reduceCtorEq] at h; subst h; exact .inr ⟨_, rfl⟩

theorem sliceBound_run {k : IntKind} {i : Int} {y : Nat} {code : BoundsCode} (h : 0 ≤ i ∧ i ≤ (y : Int)) (w : World) : (Instr.sliceBound (.int k i) y code).run P w = .ok i.toNat w := by
  simp [Instr.sliceBound, asIntOf, h.1, h.2]

theorem sliceBounds_run {isS : Bool} {len cap : Nat} {lo hi : Option Value} {l h : Int} (hl : loOf lo = some l) (hh : hiOf len hi = some h) (h0 : 0 ≤ l ∧ l ≤ h ∧ h ≤ (cap : Int)) (w : World) :
    (Instr.sliceBounds isS len cap lo hi none).run P w = .ok (l.toNat, h.toNat, cap) w := by
  have hb : (Instr.sliceBounds isS len cap lo hi none) = (do
      let m ← (pure cap : Sem Nat)
      let h ← (match hi with | some v => Instr.sliceBound v m (if isS then .sliceAcap else .sliceAlen) | none => pure len)
      let l ← (match lo with | some v => Instr.sliceBound v h .sliceB | none => pure 0)
      pure (l, h, m)) := by
    unfold Instr.sliceBounds
    cases hi <;> cases lo <;> rfl
  rw [hb]
  have e1 : (match hi with | some v => Instr.sliceBound v cap (if isS then .sliceAcap else .sliceAlen) | none => (pure len : Sem Nat)).run P w = .ok h.toNat w := by
    rcases hi_spec hh with ⟨rfl, rfl⟩ | ⟨k, rfl⟩
    · simp
    · exact sliceBound_run ⟨by omega, by omega⟩ w
  have e2 : (match lo with | some v => Instr.sliceBound v h.toNat .sliceB | none => (pure 0 : Sem Nat)).run P w = .ok l.toNat w := by
    rcases lo_spec hl with ⟨rfl, rfl⟩ | ⟨k, rfl⟩
    · rfl
    · exact sliceBound_run ⟨by omega, by omega⟩ w
  simp only [Sem.run_bind, Sem.run_pure, Result.andThen_ok, e1, e2]

theorem pureBin_run {ρ : Operand → Value} {o : Oper} {op : BinOp} {t : TypeId} {x y : Operand} {yt : TypeId} {a b : Value} {c : Bool} {v : Value} (hop : o.op = .binOp op t x y yt) (hx : ρ x = a) (hy : ρ y = b)
    (h : pureBin P ρ o op t a b = some (c, v)) (hc : c = true) (w : World) : (execOp ρ o).run P w = .ok (.value v) w := by
  subst hc
  unfold pureBin at h
  split at h
  · rename_i k a k' b
    split at h
    · rename_i hk
      simp only [Option.some.injEq, Prod.mk.injEq, decide_eq_true_eq] at h; obtain ⟨hb, rfl⟩ := h
      subst hk
      exact binOp_run hop hx hy (eqGuard_quiet (by simp) ..) (by simp [Go.binOp, Op.intDiv, hb])
    · cases h
  · rename_i k a k' b
    split at h
    · rename_i hk
      simp only [Option.some.injEq, Prod.mk.injEq, decide_eq_true_eq] at h; obtain ⟨hb, rfl⟩ := h
      subst hk
      exact binOp_run hop hx hy (eqGuard_quiet (by simp) ..) (by simp [Go.binOp, Op.intDiv, hb])
    · cases h
  · rename_i k a k' b
    simp only [Option.some.injEq, Prod.mk.injEq, decide_eq_true_eq] at h; obtain ⟨hb, rfl⟩ := h
    exact binOp_run hop hx hy (eqGuard_quiet (by simp) ..) (by simp [Go.binOp, Op.shift, Int.not_lt.2 hb])
  · rename_i k a k' b
    simp only [Option.some.injEq, Prod.mk.injEq, decide_eq_true_eq] at h; obtain ⟨hb, rfl⟩ := h
    exact binOp_run hop hx hy (eqGuard_quiet (by simp) ..) (by simp [Go.binOp, Op.shift, Int.not_lt.2 hb])
  · rename_i a b
    simp only [Option.some.injEq, Prod.mk.injEq, decide_eq_true_eq] at h; obtain ⟨hb, rfl⟩ := h
    refine binOp_run hop hx hy (eqGuard_quiet (by simp) ..) ?_
    have : ¬ (((a.size + b.size : Nat) : Int) > IntKind.i64.max) := by
      have e : IntKind.i64.max = 9223372036854775807 := rfl
      rw [e]; omega
    simp only [Go.binOp, Op.stringOp, this, if_false]
    rfl
  · rename_i p
    split at h
    · rename_i e hu
      simp only [Option.some.injEq, Prod.mk.injEq] at h; obtain ⟨_, rfl⟩ := h
      exact binOp_run hop hx hy (eqGuard_ptr ..) (by simp [Go.binOp, equal_ptr hu])
    · rename_i e hu
      simp only [Option.some.injEq, Prod.mk.injEq] at h; obtain ⟨_, rfl⟩ := h
      exact binOp_run hop hx hy (eqGuard_ptr ..) (by simp [Go.binOp, equal_ptr hu])
    · cases h
  · rename_i a m n m' n'
    split at h
    · rename_i e hu
      simp only [Option.some.injEq, Prod.mk.injEq] at h; obtain ⟨_, rfl⟩ := h
      exact binOp_run hop hx hy (eqGuard_slice ..) (by simp [Go.binOp, equal_slice hu])
    · rename_i e hu
      simp only [Option.some.injEq, Prod.mk.injEq] at h; obtain ⟨_, rfl⟩ := h
      exact binOp_run hop hx hy (eqGuard_slice ..) (by simp [Go.binOp, equal_slice hu])
    · cases h
  · cases h
  · exact plain_run h w

theorem pureNil_run {ρ : Operand → Value} {o : Oper} {op : BinOp} {t : TypeId} {x y : Operand} {yt : TypeId} {a : Value} {c : Bool} {v : Value} (hop : o.op = .binOp op t x y yt) (hx : ρ x = a) (hy : ρ y = .nilIface)
    (h : pureNil P op t y a = some (c, v)) (hc : c = true) (w : World) : (execOp ρ o).run P w = .ok (.value v) w := by
  subst hc
  unfold pureNil at h
  split at h
  · rename_i ms k hu
    simp only [Option.some.injEq, Prod.mk.injEq] at h; obtain ⟨hi, rfl⟩ := h
    refine binOp_run hop hx hy (eqGuard_nil ..) ?_
    have := equal_nilI hu _ hi w
    cases a <;> simp [isIface] at hi <;> simp [Go.binOp, this]
  · rename_i ms k hu
    simp only [Option.some.injEq, Prod.mk.injEq] at h; obtain ⟨hi, rfl⟩ := h
    refine binOp_run hop hx hy (eqGuard_nil ..) ?_
    have := equal_nilI hu _ hi w
    cases a <;> simp [isIface] at hi <;> simp [Go.binOp, this]
  · cases h

theorem isInt_spec {k : IntKind} {v : Value} (h : isInt k v = true) : v = .int k (theInt v) := by
  cases v <;> simp [isInt] at h
  subst h; rfl

theorem pureIndex_run {t : TypeId} {x i : Value} {c : Bool} {v : Value} (h : pureIndex P t x i = some (c, v)) (hc : c = true) (w : World) : (Instr.index t x i).run P w = .ok v w := by
  subst hc
  unfold pureIndex at h
  split at h
  · rename_i s k n hu
    simp only [Option.some.injEq, Prod.mk.injEq, decide_eq_true_eq] at h; obtain ⟨hb, rfl⟩ := h
    have hlt : n.toNat < s.size := by omega
    have e : s[n.toNat]? = some s[n.toNat] := by simp [hlt]
    have e2 : s.data.getD n.toNat 0 = s[n.toNat] := by
      simp [Array.getD, hlt]
      rfl
    simp only [Instr.index, Sem.run_bind, asIntOf, Sem.run_pure, Result.andThen_ok, run_underlying' hu, hb.1, if_true, e, e2]
  · rename_i len e cs k n hu
    split at h
    · rename_i k' inf he hi
      split at h
      · rename_i hsz
        simp only [Option.some.injEq, Prod.mk.injEq, Bool.and_eq_true, decide_eq_true_eq] at h
        obtain ⟨⟨⟨hb, hcs⟩, hint⟩, rfl⟩ := h
        have hg : cs[n.toNat]? = some (cs.getD n.toNat undef) := by simp [Array.getD, hcs]
        have hag : (isAgg e).run P w = .ok false w := by simp [isAgg, run_underlying' he]
        simp only [Instr.index, Sem.run_bind, asIntOf, Sem.run_pure, Result.andThen_ok, run_underlying' hu]
        rw [if_pos hb]
        simp only [Sem.run_bind, run_sizeOf' hi, Result.andThen_ok, hsz, Nat.mul_one, part, hag, Bool.false_eq_true, if_false, hg, Sem.run_pure]
        exact congrArg (fun u => Result.ok u w) (isInt_spec hint)
      · cases h
    · cases h
  · cases h

theorem pureSlice_run {t : TypeId} {x : Value} {lo hi : Option Value} {c : Bool} {v : Value} (h : pureSlice P t x lo hi = some (c, v)) (hc : c = true) (w : World) : (Instr.sliceAt t x lo hi none).run P w = .ok v w := by
  subst hc
  unfold pureSlice at h
  split at h
  · rename_i s hu
    split at h
    · rename_i l h' hl hh
      simp only [Option.some.injEq, Prod.mk.injEq, decide_eq_true_eq] at h; obtain ⟨hb, rfl⟩ := h
      simp only [Instr.sliceAt, Instr.slice, Sem.run_bind, run_underlying' hu, Result.andThen_ok, Option.isSome_none, Bool.false_eq_true, if_false, Sem.run_pure, sliceBounds_run hl hh hb]
    · cases h
  · rename_i e a len cap hu
    split at h
    · rename_i l h' i hl hh hi
      simp only [Option.some.injEq, Prod.mk.injEq, decide_eq_true_eq] at h; obtain ⟨hb, rfl⟩ := h
      simp only [Instr.sliceAt, Instr.slice, Sem.run_bind, run_underlying' hu, Result.andThen_ok, Sem.run_pure, sliceBounds_run hl hh hb, run_sizeOf' hi]
    · cases h
  · cases h

theorem pureIndexAddr_run {t : TypeId} {x i : Value} {c : Bool} {v : Value} (h : pureIndexAddr P t x i = some (c, v)) (hc : c = true) (w : World) : (Instr.indexAt t x i).run P w = .ok v w := by
  subst hc
  unfold pureIndexAddr at h
  split at h
  · rename_i e a len cap k n hu
    split at h
    · rename_i inf hi
      simp only [Option.some.injEq, Prod.mk.injEq, Bool.and_eq_true, decide_eq_true_eq] at h; obtain ⟨⟨hs, hb⟩, rfl⟩ := h
      cases a with
      | none => simp at hs
      | some a =>
        simp only [Instr.indexAt, Sem.run_bind, asIntOf, Sem.run_pure, Result.andThen_ok, run_underlying' hu]
        rw [if_pos hb]
        simp only [Sem.run_bind, run_sizeOf' hi, Result.andThen_ok, Sem.run_pure, Option.getD_some]
    · cases h
  · rename_i len e p k n hu
    split at h
    · rename_i inf hi
      simp only [Option.some.injEq, Prod.mk.injEq, Bool.and_eq_true, decide_eq_true_eq] at h; obtain ⟨⟨hs, hb⟩, rfl⟩ := h
      cases p with
      | none => simp at hs
      | some a =>
        simp only [Instr.indexAt, Sem.run_bind, asIntOf, Sem.run_pure, Result.andThen_ok, run_underlying' hu, Instr.sureAddr]
        rw [if_pos hb]
        simp only [Sem.run_bind, run_sizeOf' hi, Result.andThen_ok, Sem.run_pure, Option.getD_some]
    · cases h
  · cases h

theorem pureField_run {s : TypeId} {x : Value} {f : Nat} {c : Bool} {v : Value} (h : pureField P s x f = some (c, v)) (hc : c = true) (w : World) : (Instr.fieldAt s x f).run P w = .ok v w := by
  subst hc
  unfold pureField at h
  split at h
  · rename_i p fs hs
    split at h
    · rename_i fd hf
      split at h
      · rename_i i hi
        split at h
        · cases h
        · rename_i hz
          simp only [Option.some.injEq, Prod.mk.injEq] at h; obtain ⟨hc', rfl⟩ := h
          cases p with
          | none => simp at hc'
          | some a => simp [Instr.fieldAt, run_underlying' hs, hf, Instr.sureAddr, fieldPlace, run_sizeOf' hi, hz]
      · cases h
    · cases h
  · cases h

theorem pureOp_run {ρ : Operand → Value} {o : Oper} {c : Bool} {v : Value} (h : pureOp P ρ o = some (c, v)) (hc : c = true) (w : World) : (execOp ρ o).run P w = .ok (.value v) w := by
  unfold pureOp at h
  split at h
  · rename_i x hop; simp only [Option.some.injEq, Prod.mk.injEq] at h; obtain ⟨_, rfl⟩ := h; simp [execOp, hop]
  · rename_i x hop; simp only [Option.some.injEq, Prod.mk.injEq] at h; obtain ⟨_, rfl⟩ := h; simp [execOp, hop]
  · rename_i cc a b hop
    split at h
    · rename_i b' hb
      simp only [Option.some.injEq, Prod.mk.injEq] at h; obtain ⟨_, rfl⟩ := h
      simp only [execOp, hop, hb]
      cases b' <;> simp [asBool]
    · cases h
  · rename_i x hop
    split at h
    · rename_i p hp
      simp only [Option.some.injEq, Prod.mk.injEq] at h; obtain ⟨hc', rfl⟩ := h
      subst hc
      cases p with
      | none => simp at hc'
      | some a => simp [execOp, hop, hp]
    · cases h
  · rename_i s x f hop; simp only [execOp, hop]; exact run_vOf (pureField_run h hc w)
  · rename_i op t x y yt hop
    split at h
    · rename_i hn
      simp only [Bool.and_eq_true] at hn
      have hy : ρ y = .nilIface := by
        cases hv : ρ y <;> simp [hv, isNilI] at hn
        rfl
      exact pureNil_run hop rfl hy h hc w
    · exact pureBin_run hop rfl rfl h hc w
  · exact plain_run h w
  · split at h
    · exact plain_run h w
    · cases h
  · exact plain_run h w
  · exact plain_run h w
  · exact plain_run h w
  · exact plain_run h w
  · exact plain_run h w
  · rename_i t x i hop; simp only [execOp, hop]; exact run_vOf (pureIndex_run h hc w)
  · rename_i t x lo hi mx hop
    split at h
    · rename_i hm
      cases mx with
      | none => simp only [execOp, hop]; exact run_vOf (pureSlice_run h hc w)
      | some _ => simp at hm
    · cases h
  · rename_i t x i hop; simp only [execOp, hop]; exact run_vOf (pureIndexAddr_run h hc w)
  · split at h
    · split at h
      · exact plain_run h w
      · cases h
    · cases h
  · cases h
end
end Go.WF
