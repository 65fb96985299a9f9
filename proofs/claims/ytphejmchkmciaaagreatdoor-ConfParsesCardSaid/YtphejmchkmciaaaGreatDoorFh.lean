/- Laws for walking a tree: blocks of memory that are known whole, and what stays as it was. No statement about the program stands here. -/
import Derived.Test.YtphejmchkmciaaaGreatDoorFg
import Derived.Below
namespace Go.WF
open Go.RowKit (Below)
section
variable {P : Program} {R : Ending → World → Prop}

/-- A row of cells, as an object. -/
abbrev cellsO (cs : List Value) (e : TypeId) : Obj := .cells cs.toArray e (0, 0)

/-- A block is known whole. -/
def Blk (w : World) (b : Nat) (cs : List Value) (e : TypeId) : Prop := w.heap[b]? = some (cellsO cs e)

theorem Blk.lt {w : World} {b : Nat} {cs : List Value} {e : TypeId} (h : Blk w b cs e) : b < w.heap.size := by
  rcases Nat.lt_or_ge b w.heap.size with h' | h'
  · exact h'
  · simp [Blk, Array.getElem?_eq_none h'] at h

/-- All blocks but those of a list are as they were. -/
structure Keep (S : List Nat) (w w' : World) : Prop where
  os : w'.os = w.os
  tape : w'.tape = w.tape
  output : w'.output = w.output
  size : w.heap.size ≤ w'.heap.size
  block : ∀ k, k < w.heap.size → k ∉ S → w'.heap[k]? = w.heap[k]?

theorem Keep.refl (S : List Nat) (w : World) : Keep S w w := ⟨rfl, rfl, rfl, Nat.le_refl _, fun _ _ _ => rfl⟩

theorem Keep.trans {S S' : List Nat} {a b c : World} (h : Keep S a b) (k : Keep S' b c) (hs : ∀ x ∈ S', x < a.heap.size → x ∈ S) : Keep S a c :=
  ⟨k.os.trans h.os, k.tape.trans h.tape, k.output.trans h.output, Nat.le_trans h.size k.size, fun i hi hn =>
    (k.block i (Nat.lt_of_lt_of_le hi h.size) (fun hm => hn (hs i hm hi))).trans (h.block i hi hn)⟩

theorem Keep.mono {S S' : List Nat} {a b : World} (h : Keep S a b) (hs : ∀ x ∈ S, x ∈ S') : Keep S' a b := ⟨h.os, h.tape, h.output, h.size, fun i hi hn => h.block i hi fun hm => hn (hs i hm)⟩

theorem Keep.drew {S : List Nat} {a b : World} (h : Keep S a b) : Keep S a b.drew := ⟨h.os, h.tape, h.output, h.size, h.block⟩

theorem Keep.below {a b : World} (h : Keep [] a b) : Below a.heap.size a b := ⟨h.os, h.tape, h.output, h.size, fun i hi => h.block i hi (by simp)⟩

theorem Keep.obj {S : List Nat} {a b : World} (h : Keep S a b) {r : Nat} {o : Obj} (hb : a.heap[r]? = some o) (hr : r ∉ S) : b.heap[r]? = some o := by
  have hlt : r < a.heap.size := by
    rcases Nat.lt_or_ge r a.heap.size with h' | h'
    · exact h'
    · simp [Array.getElem?_eq_none h'] at hb
  exact (h.block r hlt hr).trans hb

theorem Keep.blk {S : List Nat} {a b : World} (h : Keep S a b) {r : Nat} {cs : List Value} {e : TypeId} (hb : Blk a r cs e) (hr : r ∉ S) : Blk b r cs e := (h.block r hb.lt hr).trans hb

/-- What is not in the list but is new. -/
theorem Keep.new {S : List Nat} {a b c : World} {r : Nat} (h : Keep S a b) (k : Keep [r] b c) (hr : a.heap.size ≤ r) : Keep S a c :=
  h.trans k fun x hx hlt => by
    rw [List.mem_singleton] at hx
    subst hx
    omega

theorem cell_blk {w : World} {b : Nat} {cs : List Value} {e : TypeId} (h : Blk w b cs e) (k : Nat) : w.cell? ⟨b, k, none⟩ = cs[k]? := by
  simp only [Blk] at h
  simp [World.cell?, h]

theorem frozen_blk {w : World} {b : Nat} {cs : List Value} {e : TypeId} (h : Blk w b cs e) (k : Nat) : w.frozen? ⟨b, k, none⟩ = false := by
  simp only [Blk] at h
  simp [World.frozen?, h]

theorem add_mk (b o n : Nat) : (⟨b, o, none⟩ : Addr).add n = ⟨b, o + n, none⟩ := by
  unfold Addr.add
  split
  · rename_i h; subst h; rfl
  · rfl

theorem cellsAt_blk {w : World} {b : Nat} {cs : List Value} {e : TypeId} (h : Blk w b cs e) : ∀ (vs : List Value) (o : Nat), (∀ j v, vs[j]? = some v → cs[o + j]? = some v) → cellsAt w ⟨b, o, none⟩ vs
  | [], _, _ => trivial
  | v :: vs, o, hv => by
    refine ⟨by rw [cell_blk h]; exact hv 0 v rfl, ?_⟩
    rw [add_mk]
    exact cellsAt_blk h vs (o + 1) fun j u hj => by
      have := hv (j + 1) u (by simpa using hj)
      rwa [show o + 1 + j = o + (j + 1) from by omega]

theorem there_blk {w : World} {b : Nat} {cs : List Value} {e : TypeId} (h : Blk w b cs e) : ∀ (n o : Nat), o + n ≤ cs.length → there w ⟨b, o, none⟩ n
  | 0, _, _ => trivial
  | n + 1, o, hn => by
    refine ⟨?_, frozen_blk h o, ?_⟩
    · rw [cell_blk h, List.getElem?_eq_getElem (by omega)]; rfl
    · rw [add_mk]; exact there_blk h n (o + 1) (by omega)

theorem setCell_blk {w : World} {b : Nat} {cs : List Value} {e : TypeId} (h : Blk w b cs e) (o : Nat) (v : Value) : Blk (w.setCell ⟨b, o, none⟩ v) b (cs.set o v) e := by
  simp only [Blk] at h ⊢
  simp [World.setCell, Array.getElem?_modify, h]

theorem setCell_keep (w : World) (b o : Nat) (v : Value) : Keep [b] w (w.setCell ⟨b, o, none⟩ v) :=
  ⟨rfl, rfl, rfl, by simp [World.setCell], fun k _ hk => by
    simp only [World.setCell, Array.getElem?_modify]
    rw [if_neg]
    intro hb
    exact hk (by simpa using hb.symm)⟩

/-- Values put into a list from a place on. -/
def putAt (cs : List Value) (o : Nat) : List Value → List Value
  | [] => cs
  | v :: vs => putAt (cs.set o v) (o + 1) vs

theorem putAt_length : ∀ (vs cs : List Value) (o : Nat), (putAt cs o vs).length = cs.length
  | [], _, _ => rfl
  | v :: vs, cs, o => by simp [putAt, putAt_length vs]

theorem putCells_blk : ∀ (vs : List Value) (w : World) (b : Nat) (cs : List Value) (e : TypeId) (o : Nat), Blk w b cs e → Blk (putCells w ⟨b, o, none⟩ vs) b (putAt cs o vs) e ∧ Keep [b] w (putCells w ⟨b, o, none⟩ vs) ∧ (putCells w ⟨b, o, none⟩ vs).heap.size = w.heap.size
  | [], w, b, cs, e, o, h => ⟨h, Keep.refl _ _, rfl⟩
  | v :: vs, w, b, cs, e, o, h => by
    have ih := putCells_blk vs (w.setCell ⟨b, o, none⟩ v) b (cs.set o v) e (o + 1) (setCell_blk h o v)
    simp only [putCells, putAt]
    rw [add_mk]
    exact ⟨ih.1, (setCell_keep w b o v).trans ih.2.1 (fun x hx _ => hx), by rw [ih.2.2]; simp [World.setCell]⟩

theorem putAt_all : ∀ (vs pre cs : List Value), vs.length = cs.length → putAt (pre ++ cs) pre.length vs = pre ++ vs
  | [], pre, cs, h => by cases cs <;> simp_all [putAt]
  | v :: vs, pre, [], h => by simp at h
  | v :: vs, pre, c :: cs, h => by
    simp only [List.length_cons, Nat.add_right_cancel_iff] at h
    have := putAt_all vs (pre ++ [v]) cs h
    simp only [putAt]
    rw [show (pre ++ c :: cs).set pre.length v = (pre ++ [v]) ++ cs from by simp]
    rw [show pre.length + 1 = (pre ++ [v]).length from by simp, this]
    simp

/-! ### The steps of a walk -/
theorem wRet {vs : List Value} {w : World} (h : R (.returned (tupOf vs)) w) : (T.ret vs).wp P R w := by simp only [T.wp]; exact h

theorem wPanic {t : TypeId} {u : Value} {w : World} (h : R (.panicked [{ v := .iface t u, recovered := false }]) w) : (T.panic (.iface t u)).wp P R w := by simp only [T.wp]; exact ⟨⟨t, u, rfl⟩, h⟩

theorem wIf {c : Bool} {t e : T} {w : World} (h1 : c = true → t.wp P R w) (h2 : c = false → e.wp P R w) : (cond c t e).wp P R w := cond_iff.2 ⟨h1, h2⟩

theorem wIft {c : Bool} {t e : T} {w : World} (hc : c = true) (h1 : t.wp P R w) : (cond c t e).wp P R w := by rw [hc]; exact h1

theorem wIff {c : Bool} {t e : T} {w : World} (hc : c = false) (h1 : e.wp P R w) : (cond c t e).wp P R w := by rw [hc]; exact h1

theorem wChk {c : Bool} {k : T} {w : World} (hc : c = true) (h : k.wp P R w) : (chk c k).wp P R w := chk_iff.2 ⟨hc, h⟩

theorem wDraw {k : T} {w : World} (h : k.wp P R w.drew) : (T.draw k).wp P R w := by simp only [T.wp]; exact h

theorem wBoth {a b : T} {w : World} (h1 : a.wp P R w) (h2 : b.wp P R w) : (T.both a b).wp P R w := by simp only [T.wp]; exact ⟨h1, h2⟩

theorem wBlk {ks : List Kd} {m : Lab → T} {K : Tys ks → T} {w : World} (h : (m fun vs w' => ∃ xs, vs = encs ks xs ∧ (K xs).wp P R w').wp P R w) : (T.blk ks m K).wp P R w := by simp only [T.wp]; exact h

/-- A block of code with a condition between. -/
theorem wBlkM {ks : List Kd} {m : Lab → T} {K : Tys ks → T} {w : World} (M : Tys ks → World → Prop) (h : (m fun vs w' => ∃ xs, vs = encs ks xs ∧ M xs w').wp P R w)
    (hmono : ∀ (j j' : Lab), (∀ vs w', j vs w' → j' vs w') → ∀ w', (m j).wp P R w' → (m j').wp P R w') (hk : ∀ xs w', M xs w' → (K xs).wp P R w') : (T.blk ks m K).wp P R w :=
  wBlk (hmono _ _ (fun _ _ ⟨xs, h1, h2⟩ => ⟨xs, h1, hk xs _ h2⟩) _ h)

theorem wJump {ks : List Kd} {Q : Tys ks → World → Prop} {vs : List Value} {w : World} (xs : Tys ks) (hv : vs = encs ks xs) (h : Q xs w) : (T.jump (fun vs w' => ∃ xs, vs = encs ks xs ∧ Q xs w') vs).wp P R w := by
  simp only [T.wp]; exact ⟨xs, hv, h⟩

theorem wLoop {ks : List Kd} {init : List Value} {body : Lab → Tys ks → T} {w : World} (I : Nat → Tys ks → World → Prop) (n : Nat) (xs : Tys ks) (hx : init = encs ks xs) (hI : I n xs w)
    (hb : ∀ n xs w', I n xs w' → (body (fun vs w'' => ∃ xs', vs = encs ks xs' ∧ ∃ m, m < n ∧ I m xs' w'') xs).wp P R w') : (T.loop ks init body).wp P R w := by
  simp only [T.wp]
  refine ⟨I, ⟨n, xs, hx, hI⟩, fun n xs w' h => ?_⟩
  have := hb n xs w' h
  have e : (fun vs w'' => ∃ m, m < n ∧ ∃ xs', vs = encs ks xs' ∧ I m xs' w'') = (fun vs w'' => ∃ xs', vs = encs ks xs' ∧ ∃ m, m < n ∧ I m xs' w'') := by
    funext vs w''
    exact propext ⟨fun ⟨m, h1, xs', h2, h3⟩ => ⟨xs', h2, m, h1, h3⟩, fun ⟨xs', h2, m, h1, h3⟩ => ⟨m, h1, xs', h2, h3⟩⟩
  rw [e]; exact this

/-- One cell. -/
theorem wLoad1 {k : B} {a : Addr} {K : k.Ty → T} {w : World} {b o : Nat} {cs : List Value} {e : TypeId} (hb : Blk w b cs e) (x : k.Ty) (ha : a = ⟨b, o, none⟩) (hx : cs[o]? = some (k.enc x)) (h : (K x).wp P R w) :
    (T.load (.b k) a K).wp P R w := by
  simp only [T.wp]
  refine ⟨x, ?_, h⟩
  subst ha
  exact ⟨by rw [cell_blk hb]; exact hx, trivial⟩

/-- Some cells of a block. -/
theorem wLoadN {k : Kd} {a : Addr} {K : k.Ty → T} {w : World} {b o : Nat} {cs : List Value} {e : TypeId} (hb : Blk w b cs e) (x : k.Ty) (ha : a = ⟨b, o, none⟩) (hx : ∀ j v, (k.cells x)[j]? = some v → cs[o + j]? = some v) (h : (K x).wp P R w) :
    (T.load k a K).wp P R w := by
  simp only [T.wp]
  subst ha
  exact ⟨x, cellsAt_blk hb _ _ hx, h⟩

/-- The whole block. -/
theorem wLoadA {ks : List B} {a : Addr} {K : BTys ks → T} {w : World} {b : Nat} {cs : List Value} {e : TypeId} (hb : Blk w b cs e) (x : BTys ks) (ha : a = ⟨b, 0, none⟩) (hx : cs = bencs ks x) (h : (K x).wp P R w) :
    (T.load (.agg ks) a K).wp P R w :=
  wLoadN hb x ha (fun j v hj => by subst hx; simpa [Kd.cells] using hj) h

theorem wStoreN {a : Addr} {vs : List Value} {k : T} {w : World} {b o : Nat} {cs : List Value} {e : TypeId} (hb : Blk w b cs e) (ha : a = ⟨b, o, none⟩) (hl : o + vs.length ≤ cs.length) (h1 : vs.all (·.oneCell') = true)
    (h : ∀ w', Blk w' b (putAt cs o vs) e → Keep [b] w w' → w'.heap.size = w.heap.size → k.wp P R w') : (T.store a vs k).wp P R w := by
  simp only [T.wp]
  subst ha
  obtain ⟨h2, h3, h4⟩ := putCells_blk vs w b cs e o hb
  exact ⟨there_blk hb _ _ hl, h1, h _ h2 h3 h4⟩

theorem wStore1 {a : Addr} {v : Value} {k : T} {w : World} {b o : Nat} {cs : List Value} {e : TypeId} (hb : Blk w b cs e) (ha : a = ⟨b, o, none⟩) (hl : o < cs.length) (h1 : v.oneCell' = true)
    (h : ∀ w', Blk w' b (cs.set o v) e → Keep [b] w w' → w'.heap.size = w.heap.size → k.wp P R w') : (T.store a [v] k).wp P R w :=
  wStoreN hb ha hl (by simp [h1]) h

theorem wStoreA {a : Addr} {vs : List Value} {k : T} {w : World} {b : Nat} {cs : List Value} {e : TypeId} (hb : Blk w b cs e) (ha : a = ⟨b, 0, none⟩) (hl : vs.length = cs.length) (h1 : vs.all (·.oneCell') = true)
    (h : ∀ w', Blk w' b vs e → Keep [b] w w' → w'.heap.size = w.heap.size → k.wp P R w') : (T.store a vs k).wp P R w :=
  wStoreN hb ha (by omega) h1 fun w' h2 h3 h4 => h w' (by
    have := putAt_all vs [] cs hl
    simp only [List.nil_append, List.length_nil] at this
    rwa [this] at h2) h3 h4

theorem alloc_keep (w : World) (o : Obj) : Keep [] w (w.alloc o) := ⟨rfl, rfl, rfl, by simp, fun k hk _ => by
  show (w.heap.push o)[k]? = _
  rw [Array.getElem?_push, if_neg (by omega)]⟩

theorem wNew {cs : List Value} {e : TypeId} {K : Addr → T} {w : World} (h : ∀ b w', b = w.heap.size → Blk w' b cs e → Keep [] w w' → w'.heap.size = b + 1 → (K ⟨b, 0, none⟩).wp P R w') : (T.new cs e K).wp P R w := by
  simp only [T.wp]
  refine h _ _ rfl ?_ (alloc_keep _ _) (by simp)
  show (w.heap.push (.cells cs.toArray e))[w.heap.size]? = _
  simp

/-- A call by its contract. -/
theorem wCall {f : FuncId} {args : List Value} {ks : List Kd} {K : Tys ks → T} {w : World} {Q : Ending → World → Prop} (hc : Calls P f args.toArray w Q)
    (h : ∀ e w', Q e w' → match e with
      | .returned v => ∃ xs : Tys ks, v = tupOf (encs ks xs) ∧ (K xs).wp P R w'
      | .panicked c => R (.panicked c) w'
      | .outgrown => R .outgrown w') : (T.call f args ks K).wp P R w := by
  simp only [T.wp]; exact hc.mono h

/-- What a hold asks stands in blocks that are known. -/
theorem wHold {l : List (Addr × List Value)} {k : T} {w : World} (h1 : ∀ p ∈ l, cellsAt w p.1 p.2) (h : k.wp P R w) : (T.hold l k).wp P R w := by
  simp only [T.wp]; exact ⟨h1, h⟩
end
end Go.WF
