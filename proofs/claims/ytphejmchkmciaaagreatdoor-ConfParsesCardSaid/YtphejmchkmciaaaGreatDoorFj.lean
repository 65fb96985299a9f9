/- Laws for slices, strings that are ranged over, and maps, in a walk of a tree. No statement about the program stands here. -/
import Derived.Test.YtphejmchkmciaaaGreatDoorFi
import Derived.Laws.AppendOwn
import Derived.Laws.StructEq
namespace Go.WF
section
variable {P : Program} {R : Ending → World → Prop} {w0 w : World} {S : List Nat} {L : HL}

/-- An operation that yields one value. -/
theorem wOp {s : Sem Value} {ks : List Kd} {K : Tys ks → T} {v : Value} {w' : World} (xs : Tys ks) (hr : s.run P w = .ok v w') (hv : v = tupOf (encs ks xs)) (h : (K xs).wp P R w') : (T.op (vOf s) ks K).wp P R w := by
  simp only [T.wp]
  exact ⟨v, w', run_vOf hr, xs, hv, h⟩

theorem wOp0 {s : Sem Unit} {k : T} {w' : World} (hr : s.run P w = .ok () w') (h : k.wp P R w') : (T.op0 (uOf s) k).wp P R w := by
  simp only [T.wp]
  exact ⟨w', by simp [uOf, hr], h⟩

theorem alloc_obj (w : World) (o : Obj) : (w.alloc o).heap[w.heap.size]? = some o := by
  show (w.heap.push o)[w.heap.size]? = _
  simp

/-- A store of which one knows what it leaves. -/
theorem wSK {a : Addr} {v : Value} {k : T} {b o : Nat} {cs : List Value} {e : TypeId} (H : ST w0 S w L) (i : Nat) (ha : a = ⟨b, o, none⟩) (hi : L[i]? = some (b, cellsO cs e)) (hl : o < cs.length) (h1 : v.oneCell' = true)
    (h : ∀ w', ST w0 S w' (L.set i (b, cellsO (cs.set o v) e)) → Keep [b] w w' → k.wp P R w') : (T.store a [v] k).wp P R w :=
  wStore1 (H.get hi) ha hl h1 fun w' hb hk _ => h w' (H.upd hi hk hb) hk

/-! ### Slices that are made -/
/-- A row that is filled part by part. -/
noncomputable def fillRow (size : Nat) (z : Array Value) (k : Nat) (parts : List (Nat × Value)) : Option (Array Value) :=
  Instr.fill (fun j => some (j * size, size)) ((Array.range (k * size)).map ((if k * size = 0 then #[] else z)[· % (if k * size = 0 then #[] else z).size]!)) parts

theorem buildSlice_run {t e n : Nat} {i : TypeInfo} {parts : Array (Nat × Value)} {cells : Array Value} {z : Value} (hu : P.underlying t = some (.slice e)) (hi : P.info? e = some i) (hz : i.zero = some z) (hn : n * i.size ≤ 16777216)
    (hf : fillRow i.size z.cells n parts.toList = some cells) :
    (Instr.buildSlice t n parts).run P w = .ok (.slice (some ⟨w.heap.size, 0, none⟩) n n) (w.alloc (.cells cells e)) := by
  have hn' : ¬ (n * i.size > 2 ^ 24) := by omega
  unfold fillRow at hf
  simp only [Instr.buildSlice, Sem.run_bind, run_underlying' hu, Result.andThen_ok, run_sizeOf' hi, hn', if_false]
  by_cases h0 : n * i.size = 0
  · simp only [h0, if_true] at hf
    simp only [h0, if_true, Sem.run_pure, Result.andThen_ok, hf, Sem.run_bind, newRow, run_newObj]
    rfl
  · simp only [h0, if_false] at hf
    simp only [h0, if_false, Sem.run_bind, zeroValue, run_typeInfo' hi, Result.andThen_ok, hz, Sem.run_pure, hf, newRow, run_newObj]
    rfl

theorem wBuild {t e n : Nat} {i : TypeInfo} {parts : Array (Nat × Value)} {z : Value} {K : Tys [.b .slice] → T} (H : ST w0 S w L) (cells : List Value) (hu : P.underlying t = some (.slice e)) (hi : P.info? e = some i) (hz : i.zero = some z) (hn : n * i.size ≤ 16777216)
    (hf : fillRow i.size z.cells n parts.toList = some cells.toArray)
    (h : ∀ b w', b = w.heap.size → ST w0 S w' (L ++ [(b, cellsO cells e)]) → (K (⟨some ⟨b, 0, none⟩, n, n⟩, ())).wp P R w') : (T.op (vOf (Instr.buildSlice t n parts)) [.b .slice] K).wp P R w :=
  wOp (⟨some ⟨w.heap.size, 0, none⟩, n, n⟩, ()) (buildSlice_run hu hi hz hn hf) rfl (h _ _ rfl (H.push (alloc_keep _ _) (alloc_obj _ _) (Nat.le_refl _)))

/-! ### append -/
/-- The block of a row. -/
abbrev rowB (v : Sl) : List Nat := match v.a with
  | some a => [a.block]
  | none => []

/-- A slice that is owned: its cells stand, and it may grow. -/
def Row (base : Nat) (w : World) (e : TypeId) (size : Nat) (v : Sl) (n : Nat) (xs : List Value) : Prop := w.ownsRow base e size (.slice v.a v.len v.cap) n xs

theorem Row.nil (base : Nat) (w : World) (e : TypeId) (size : Nat) : Row base w e size ⟨none, 0, 0⟩ 0 [] := World.ownsRow_nil w base e size

theorem Row.ge {base : Nat} {e : TypeId} {size : Nat} {v : Sl} {n : Nat} {xs : List Value} (h : Row base w e size v n xs) : ∀ b ∈ rowB v, base ≤ b ∧ b < w.heap.size := by
  intro b hb
  have := World.ownsRow.lt h b
  unfold rowB at hb
  split at hb
  · rename_i a ha
    rw [List.mem_singleton] at hb
    subst hb
    exact this (by simp [Value.ownBlock, ha])
  · cases hb

theorem Row.keep {base : Nat} {e : TypeId} {size : Nat} {v : Sl} {n : Nat} {xs : List Value} {S : List Nat} {w' : World} (h : Row base w e size v n xs) (hk : Keep S w w') (hd : ∀ b ∈ rowB v, b ∉ S) : Row base w' e size v n xs := by
  refine ⟨h.1, ?_⟩
  rcases h.2 with hn | ⟨g, cap, cur, hv, hb, hg, rest⟩
  · exact .inl hn
  · refine .inr ⟨g, cap, cur, hv, hb, ?_, rest⟩
    have hm : g ∈ rowB v := by
      simp only [Value.slice.injEq] at hv
      unfold rowB
      rw [hv.1]
      simp
    rw [hk.block g (lt_of_obj hg) (hd g hm)]
    exact hg

theorem Row.obj {base : Nat} {e : TypeId} {size : Nat} {v : Sl} {n : Nat} {xs : List Value} (h : Row base w e size v n xs) : ∀ b ∈ rowB v, ∃ cur, w.heap[b]? = some (.cells cur e (0, 0)) := by
  intro b hb
  rcases h.2 with ⟨hv, _⟩ | ⟨g, cap, cur, hv, _, hg, _⟩
  · simp only [Value.slice.injEq] at hv
    unfold rowB at hb
    rw [hv.1] at hb
    cases hb
  · simp only [Value.slice.injEq] at hv
    unfold rowB at hb
    rw [hv.1] at hb
    simp only [List.mem_singleton] at hb
    subst hb
    exact ⟨cur, hg⟩

theorem Row.len {base : Nat} {e : TypeId} {size : Nat} {v : Sl} {n : Nat} {xs : List Value} (h : Row base w e size v n xs) : v.len = n := by
  rcases h.2 with ⟨hv, rfl⟩ | ⟨g, cap, cur, hv, _⟩
  · simp only [Value.slice.injEq] at hv; exact hv.2.1
  · simp only [Value.slice.injEq] at hv; exact hv.2.1

theorem addr_add2 (a : Addr) (m n : Nat) : (a.add m).add n = a.add (m + n) := by
  cases a with
  | mk b o h =>
    unfold Addr.add
    by_cases h1 : m = 0
    · subst h1; simp
    · by_cases h2 : n = 0
      · subst h2; simp
      · simp [h1, h2, Nat.add_assoc]

theorem cellsAt_get {vs : List Value} : ∀ {a : Addr} (o : Nat), cellsAt w (a.add o) vs → ∀ j u, vs[j]? = some u → w.cell? (a.add (o + j)) = some u := by
  induction vs with
  | nil => intro a o _ j u hj; simp at hj
  | cons v vs ih =>
    intro a o h j u hj
    cases j with
    | zero => simp only [List.getElem?_cons_zero, Option.some.injEq] at hj; subst hj; exact h.1
    | succ j =>
      have h2 := h.2
      rw [addr_add2] at h2
      have := ih (o + 1) h2 j u (by simpa using hj)
      rwa [show o + 1 + j = o + (j + 1) from by omega] at this

theorem cellsAt_cell {vs : List Value} {a : Addr} (h : cellsAt w a vs) (j : Nat) (u : Value) (hj : vs[j]? = some u) : w.cell? (a.add j) = some u := by
  cases vs with
  | nil => simp at hj
  | cons v vs =>
    cases j with
    | zero =>
      simp only [List.getElem?_cons_zero, Option.some.injEq] at hj
      subst hj
      have := h.1
      simpa [Addr.add] using this
    | succ j =>
      have := cellsAt_get (a := a) 1 h.2 j u (by simpa using hj)
      rwa [show 1 + j = j + 1 from by omega] at this

theorem Row.cells {base : Nat} {e : TypeId} {size : Nat} {v : Sl} {n : Nat} {xs : List Value} (h : Row base w e size v n xs) {a : Addr} (ha : v.a = some a) (j : Nat) (u : Value) (hj : xs[j]? = some u) : w.cell? (a.add j) = some u := by
  rcases h.2 with ⟨hv, hn⟩ | ⟨g, cap, cur, hv, _⟩
  · simp only [Value.slice.injEq] at hv; rw [hv.1] at ha; cases ha
  · simp only [Value.slice.injEq] at hv
    have e1 : a = ⟨g, 0, none⟩ := by rw [hv.1] at ha; simpa using ha.symm
    rw [e1]
    exact World.ownsRow.cells h (g := g) (by simp [Value.ownBlock, hv.1]) j u hj

theorem cellsAt_of {vs : List Value} : ∀ (o : Nat) {a : Addr}, (∀ j u, vs[j]? = some u → w.cell? (a.add (o + j)) = some u) → cellsAt w (a.add o) vs := by
  induction vs with
  | nil => intro o a _; trivial
  | cons v vs ih =>
    intro o a h
    refine ⟨h 0 v rfl, ?_⟩
    rw [addr_add2]
    exact ih (o + 1) fun j u hj => by
      have := h (j + 1) u (by simpa using hj)
      rwa [show o + 1 + j = o + (j + 1) from by omega]

theorem Keep.rowGrown {v : Sl} {w' : World} (h : w.grownBy w' (Value.ownBlock (.slice v.a v.len v.cap))) : Keep (rowB v) w w' :=
  ⟨h.os, h.tape, h.output, h.size, fun k hk hn => h.block k hk fun e => hn (by
    unfold rowB
    cases ha : v.a with
    | none => rw [ha] at e; simp [Value.ownBlock] at e
    | some a => rw [ha] at e; simp only [Value.ownBlock, Option.some.injEq] at e; simp [e])⟩

/-- A row has grown: what else is known stays. -/
theorem ST.app {w' : World} {v : Sl} (H : ST w0 S w L) (hk : Keep (rowB v) w w') (hd : ∀ b ∈ rowB v, ∀ x ∈ L, x.1 ≠ b) (ho : ∀ b ∈ rowB v, b ∈ S ∨ w0.heap.size ≤ b) : ST w0 S w' L :=
  ⟨H.keep.trans hk fun x hx hlt => (ho x hx).resolve_right (Nat.not_le.2 hlt), fun x hx => hk.obj (H.blk x hx) fun hm => hd _ hm x hx rfl, H.nodup, H.own⟩

theorem wAppR {t e : Nat} {rt : TypeId} {i : TypeInfo} {z : Value} {K : Tys [.b .slice] → T} {base : Nat} {v x : Sl} {n m : Nat} {xs news : List Value} (hu : P.underlying t = some (.slice e)) (hi : P.info? e = some i) (hz : i.zero = some z) (hzc : z.cells.size = i.size) (hsz : 0 < i.size)
    (hr : Row base w e i.size v n xs) {ad : Addr} (hxa : x.a = some ad) (hl : news.length = m * i.size) (hxl : x.len = m) (hnews : cellsAt w ad news) (h1 : news.all (·.oneCell') = true) (h63 : n + m ≤ maxLen) (hb : (n + m) * i.bytes ≤ 140737488355328) (hbase : base ≤ w.heap.size)
    (h : ∀ v' w', Row base w' e i.size v' (n + m) (xs ++ news) → Keep (rowB v) w w' → (K (v', ())).wp P R w') : (T.op (vOf (Builtin.append_ #[t, t] rt #[.slice v.a v.len v.cap, .slice x.a x.len x.cap])) [.b .slice] K).wp P R w := by
  obtain ⟨v', w', hrun, hown, hg, _⟩ := run_append_own (P := P) w base t rt e i z i.size i.bytes hu hi hz rfl rfl hzc hsz _ n xs hr ad m x.cap news hl (fun j u hj => cellsAt_cell hnews j u hj) (by simpa using h1) h63 hb hbase
  rw [hxa, hxl]
  have hv : ∃ s : Sl, v' = .slice s.a s.len s.cap := by
    rcases hown.2 with ⟨hv, _⟩ | ⟨g, cap, cur, hv, _⟩
    · exact ⟨⟨none, 0, 0⟩, hv⟩
    · exact ⟨⟨_, _, _⟩, hv⟩
  obtain ⟨s, rfl⟩ := hv
  exact wOp (s, ()) hrun rfl (h s w' hown (Keep.rowGrown hg))

/-! ### bytes to a string -/
theorem bytes_loop (P : Program) (w : World) : ∀ (bs : List UInt8) (acc : ByteArray), (forIn (m := Sem) (bs.map fun b => Value.int .u8 b.toNat) acc (fun c s => do
    let .int .u8 n := c | stuck "bytesToString: byte expected"
    pure (ForInStep.yield (s.push (UInt8.ofNat n.toNat))))).run P w = .ok (acc ++ ⟨bs.toArray⟩) w
  | [], acc => by
    simp only [List.map_nil, List.forIn_nil, Sem.run_pure]
    congr 1
    apply ByteArray.ext
    simp
  | b :: bs, acc => by
    have ih := bytes_loop P w bs (acc.push b)
    simp only [List.map_cons, List.forIn_cons, Sem.run_bind, Sem.run_pure, Result.andThen_ok]
    have e : UInt8.ofNat ((b.toNat : Int)).toNat = b := by simp
    rw [e]
    refine ih.trans ?_
    congr 1
    apply ByteArray.ext
    simp

/-- The bytes of a list, as cells. -/
abbrev bcells (bs : List UInt8) : List Value := bs.map fun b => Value.int .u8 b.toNat

theorem bytesToString_run {v : Sl} {bs : List UInt8} (h : v.a = none → bs = []) (hl : v.len = bs.length) (hc : ∀ a, v.a = some a → cellsAt w a (bcells bs)) : (Conv.bytesToString (.slice v.a v.len v.cap)).run P w = .ok (.string ⟨bs.toArray⟩) w := by
  unfold Conv.bytesToString
  cases ha : v.a with
  | none =>
    rw [h ha]
    simp only [Sem.run_pure]
    rfl
  | some a =>
    have hr : (loadCells a v.len).run P w = .ok (bcells bs).toArray w := by
      rw [hl]
      have := loadCells_run (P := P) (hc a ha)
      simpa using this
    have hb := bytes_loop P w bs ByteArray.empty
    simp only [Sem.run_bind, hr, Result.andThen_ok]
    have he : (forIn (m := Sem) (bcells bs).toArray ByteArray.empty (fun c s => do
        let .int .u8 n := c | stuck "bytesToString: byte expected"
        pure (ForInStep.yield (s.push (UInt8.ofNat n.toNat))))) = forIn (m := Sem) (bcells bs) ByteArray.empty (fun c s => do
        let .int .u8 n := c | stuck "bytesToString: byte expected"
        pure (ForInStep.yield (s.push (UInt8.ofNat n.toNat)))) := by simp
    have hf : (forIn (m := Sem) (bcells bs).toArray ByteArray.empty (fun c s => do
        let .int .u8 n := c | stuck "bytesToString: byte expected"
        pure (ForInStep.yield (s.push (UInt8.ofNat n.toNat))))).run P w = .ok ⟨bs.toArray⟩ w := by
      rw [he, hb]
      congr 1
    first
      | rw [hf]; rfl
      | (erw [hf]; rfl)

theorem wToString {src dst e : TypeId} {v : Sl} {bs : List UInt8} {K : Tys [.b .string] → T} (hs : P.underlying src = some (.slice e)) (hd : P.underlying dst = some .string) (he : P.underlying e = some (.int .u8)) (h : v.a = none → bs = []) (hl : v.len = bs.length) (hc : ∀ a, v.a = some a → cellsAt w a (bcells bs))
    (hk : (K (⟨bs.toArray⟩, ())).wp P R w) : (T.op (vOf (convert src dst (.slice v.a v.len v.cap))) [.b .string] K).wp P R w := by
  refine wOp (⟨bs.toArray⟩, ()) ?_ rfl hk
  have := bytesToString_run (P := P) h hl hc
  unfold convert
  simp only [Sem.run_bind, run_underlying' hs, run_underlying' hd, run_underlying' he, Result.andThen_ok]
  exact this

theorem Row.toString {base e n : Nat} {v : Sl} {bs : List UInt8} (h : Row base w e 1 v n (bcells bs)) : (v.a = none → bs = []) ∧ v.len = bs.length ∧ ∀ a, v.a = some a → cellsAt w a (bcells bs) := by
  have hl := h.len
  have h1 := h.1
  simp only [List.length_map, Nat.mul_one] at h1
  refine ⟨fun ha => ?_, by rw [hl, h1], fun a ha => ?_⟩
  · rcases h.2 with ⟨_, hn⟩ | ⟨g, cap, cur, hv, _⟩
    · rw [hn] at h1; exact List.eq_nil_of_length_eq_zero h1
    · simp only [Value.slice.injEq] at hv; rw [ha] at hv; cases hv.1
  · have := cellsAt_of (w := w) (vs := bcells bs) 0 (a := a) (fun j u hj => by rw [Nat.zero_add]; exact h.cells ha j u hj)
    simpa [Addr.add] using this

/-! ### A string that is ranged over -/
theorem wRange {t : TypeId} {s : ByteArray} {K : Tys [.b .ptr] → T} (hu : P.underlying t = some .string) (H : ST w0 S w L) (h : ∀ b w', b = w.heap.size → ST w0 S w' (L ++ [(b, .stringIter s 0)]) → (K (some ⟨b, 0, none⟩, ())).wp P R w') : (T.op (vOf (Instr.range t (.string s))) [.b .ptr] K).wp P R w := by
  refine wOp (v := .pointer (some ⟨w.heap.size, 0, none⟩)) (w' := w.alloc (.stringIter s 0)) (some ⟨w.heap.size, 0, none⟩, ()) ?_ rfl (h _ _ rfl (H.push (alloc_keep _ _) (alloc_obj _ _) (Nat.le_refl _)))
  unfold Instr.range
  simp only [Sem.run_bind, run_underlying' hu, Result.andThen_ok, Sem.run_pure]
  rfl

def setO (w : World) (r : Nat) (o : Obj) : World := { w with heap := w.heap.setIfInBounds r o }

theorem setO_get {r : Nat} {o : Obj} (h : r < w.heap.size) : (setO w r o).heap[r]? = some o := by
  simp [setO, h]

theorem setO_keep (w : World) (r : Nat) (o : Obj) : Keep [r] w (setO w r o) := ⟨rfl, rfl, rfl, by simp [setO], fun k _ hk => by
  have : r ≠ k := fun e => hk (by simp [e])
  simp [setO, this]⟩

theorem getObj_run {r : Nat} {o : Obj} (h : w.heap[r]? = some o) (hc : ∀ c e f, o ≠ .cells c e f) : (getObj r).run P w = .ok o w := by
  cases o <;> simp_all [getObj, Sem.run]

theorem setObj_run {r : Nat} {o o' : Obj} (h : w.heap[r]? = some o') (hc : ∀ c e f, o' ≠ .cells c e f) : (setObj r o).run P w = .ok () (setO w r o) := by
  cases o' <;> simp_all [setObj, Sem.run, setO]

theorem wNextS {t : TypeId} {s : ByteArray} {b pos : Nat} {Ky : Int → Int → T} {Kn : T} (H : ST w0 S w L) (i : Nat) (hi : L[i]? = some (b, .stringIter s pos))
    (hy : pos < s.size → ∀ w', ST w0 S w' (L.set i (b, .stringIter s (pos + (Utf8.decode s pos).2))) → Keep [b] w w' → (Ky pos (Utf8.decode s pos).1).wp P R w') (hn : s.size ≤ pos → Kn.wp P R w) :
    (T.nextS (vOf (Instr.next (.pointer (some ⟨b, 0, none⟩)) true t)) Ky Kn).wp P R w := by
  have hg := H.get hi
  simp only [T.wp]
  by_cases hp : pos < s.size
  · refine .inl ⟨pos, (Utf8.decode s pos).1, setO w b (.stringIter s (pos + (Utf8.decode s pos).2)), run_vOf ?_, hy hp _ (H.upd hi (setO_keep _ _ _) (setO_get (lt_of_obj hg))) (setO_keep _ _ _)⟩
    unfold Instr.next
    simp only [Sem.run_bind, getObj_run hg (by simp), Result.andThen_ok, hp, if_true, setObj_run hg (by simp), Sem.run_pure]
    rfl
  · refine .inr ⟨w, run_vOf ?_, hn (by omega)⟩
    unfold Instr.next
    simp only [Sem.run_bind, getObj_run hg (by simp), Result.andThen_ok, hp, if_false, Sem.run_pure]

/-! ### A map that tells which strings stood -/
def entsFrom : Nat → List ByteArray → List MapEntry
  | _, [] => []
  | i, k :: ks => { key := .string k, val := .int .i64 1, born := i } :: entsFrom (i + 1) ks

/-- The map that holds 1 at those strings. -/
abbrev mapO (ks : List ByteArray) : Obj := .map (entsFrom 0 ks).toArray ks.length

theorem entsFrom_snoc : ∀ (ks : List ByteArray) (i : Nat) (k : ByteArray), entsFrom i (ks ++ [k]) = entsFrom i ks ++ [{ key := .string k, val := .int .i64 1, born := i + ks.length }]
  | [], i, k => by simp [entsFrom]
  | k' :: ks, i, k => by
    simp only [List.cons_append, entsFrom, entsFrom_snoc ks (i + 1) k, List.length_cons]
    rw [show i + 1 + ks.length = i + (ks.length + 1) from by omega]

theorem ba_beq (a b : ByteArray) : (a == b) = decide (a = b) := by
  rw [beq_toListBytes]
  simp only [ByteArray.toList_eq]
  by_cases h : a = b
  · subst h; simp
  · have : a.data ≠ b.data := fun e => h (ByteArray.ext e)
    simp [h, this]

theorem str_eq (a b : ByteArray) : (a.toList == b.toList) = decide (a = b) := by
  rw [← beq_toListBytes, ba_beq]

/-- Does a string stand in the list? -/
def hasK (ks : List ByteArray) (k : ByteArray) : Bool := ks.any fun x => decide (k = x)

theorem findNow_not (k : ByteArray) : ∀ (ks : List ByteArray) (b i : Nat), hasK ks k = false → Instr.findNow .string (.string k) (entsFrom b ks) i = some none
  | [], b, i, _ => by simp [entsFrom, Instr.findNow]
  | k' :: ks, b, i, h => by
    simp only [hasK, List.any_cons, Bool.or_eq_false_iff] at h
    simp only [entsFrom, Instr.findNow, Instr.sameNow, ba_beq, h.1]
    exact findNow_not k ks (b + 1) (i + 1) h.2

theorem findNow_has (k : ByteArray) : ∀ (ks : List ByteArray) (b i : Nat), hasK ks k = true → ∃ j, Instr.findNow .string (.string k) (entsFrom b ks) i = some (some (j, .int .i64 1))
  | [], b, i, h => by simp [hasK] at h
  | k' :: ks, b, i, h => by
    simp only [entsFrom, Instr.findNow, Instr.sameNow, ba_beq]
    by_cases he : k = k'
    · simp [he]
    · simp only [hasK, List.any_cons, he, decide_false, Bool.false_or] at h
      simp only [he, decide_false]
      exact findNow_has k ks (b + 1) (i + 1) h

theorem checkKey_string {b : Bool} {d : Nat} {t : TypeId} {s : ByteArray} (h : P.underlying t = some .string) : (Instr.checkKey b (d + 1) t (.string s)).run P w = .ok () w := by
  unfold Instr.checkKey
  simp only [Sem.run_bind, run_underlying' h, Result.andThen_ok, Sem.run_pure]

theorem lookup_run {t kt et : TypeId} {inf : TypeInfo} {m : Nat} {ks : List ByteArray} {k : ByteArray} (hu : P.underlying t = some (.map kt et)) (hk : P.underlying kt = some .string) (hi : P.info? et = some inf) (hz : inf.zero = some (.int .i64 0)) (hg : w.heap[m]? = some (mapO ks)) :
    (Instr.lookup t (.map (some m)) (.string k) false).run P w = .ok (.int .i64 (if hasK ks k then 1 else 0)) w := by
  unfold Instr.lookup
  simp only [Sem.run_bind, run_underlying' hu, Result.andThen_ok, getObj_run hg (by simp), Sem.run_pure, checkKey_string hk, Instr.findKey, run_underlying' hk]
  by_cases h : hasK ks k = true
  · obtain ⟨j, hj⟩ := findNow_has k ks 0 0 h
    simp only [hj, h, if_true, Sem.run_pure, Result.andThen_ok]
    rfl
  · have h' : hasK ks k = false := by simpa using h
    simp only [findNow_not k ks 0 0 h', h', Sem.run_bind, zeroValue, run_typeInfo' hi, Result.andThen_ok, hz, Sem.run_pure]
    rfl

theorem mapUpdate_run {t kt et : TypeId} {m : Nat} {ks : List ByteArray} {k : ByteArray} (hu : P.underlying t = some (.map kt et)) (hk : P.underlying kt = some .string) (hg : w.heap[m]? = some (mapO ks)) (hn : hasK ks k = false) :
    (Instr.mapUpdate t (.map (some m)) (.string k) (.int .i64 1)).run P w = .ok () (setO w m (mapO (ks ++ [k]))) := by
  unfold Instr.mapUpdate
  simp only [Sem.run_bind, run_underlying' hu, Result.andThen_ok, getObj_run hg (by simp), checkKey_string hk, Instr.findKey, run_underlying' hk, findNow_not k ks 0 0 hn, Sem.run_pure, setObj_run hg (by simp)]
  simp [mapO, entsFrom_snoc]

theorem wMakeMap {t : TypeId} {K : Tys [.b .map] → T} (H : ST w0 S w L) (h : ∀ b w', b = w.heap.size → ST w0 S w' (L ++ [(b, mapO [])]) → (K (some b, ())).wp P R w') : (T.op (vOf (Instr.makeMap t none)) [.b .map] K).wp P R w :=
  wOp (v := .map (some w.heap.size)) (w' := w.alloc (mapO [])) (some w.heap.size, ()) rfl rfl (h _ _ rfl (H.push (alloc_keep _ _) (alloc_obj _ _) (Nat.le_refl _)))

theorem wLookup {t kt et : TypeId} {inf : TypeInfo} {K : Tys [.b (.int .i64)] → T} {m : Nat} {ks : List ByteArray} {k : ByteArray} (hu : P.underlying t = some (.map kt et)) (hk : P.underlying kt = some .string) (hi : P.info? et = some inf) (hz : inf.zero = some (.int .i64 0)) (H : ST w0 S w L) (i : Nat)
    (hg : L[i]? = some (m, mapO ks)) (h : (K ((if hasK ks k then 1 else 0), ())).wp P R w) : (T.op (vOf (Instr.lookup t (.map (some m)) (.string k) false)) [.b (.int .i64)] K).wp P R w :=
  wOp ((if hasK ks k then 1 else 0), ()) (lookup_run hu hk hi hz (H.get hg)) rfl h

theorem wMapPut {t kt et : TypeId} {k' : T} {m : Nat} {ks : List ByteArray} {k : ByteArray} (hu : P.underlying t = some (.map kt et)) (hk : P.underlying kt = some .string) (H : ST w0 S w L) (i : Nat)
    (hg : L[i]? = some (m, mapO ks)) (hn : hasK ks k = false) (h : ∀ w', ST w0 S w' (L.set i (m, mapO (ks ++ [k]))) → Keep [m] w w' → k'.wp P R w') : (T.op0 (uOf (Instr.mapUpdate t (.map (some m)) (.string k) (.int .i64 1))) k').wp P R w :=
  wOp0 (mapUpdate_run hu hk (H.get hg) hn) (h _ (H.upd hg (setO_keep _ _ _) (setO_get (lt_of_obj (H.get hg)))) (setO_keep _ _ _))
end
end Go.WF
