/- The state of a walk: which blocks are known, and what stands as it did when the call began. No statement about the program stands here. -/
import Derived.Test.YtphejmchkmciaaaGreatDoorFh
namespace Go.WF
open Go.RowKit (Below)
section
variable {P : Program} {R : Ending → World → Prop}

abbrev HL := List (Nat × Obj)

/-- Since world w0 only the blocks of S and new ones have turned; the blocks of L are known. -/
structure ST (w0 : World) (S : List Nat) (w : World) (L : HL) : Prop where
  keep : Keep S w0 w
  blk : ∀ x ∈ L, w.heap[x.1]? = some x.2
  nodup : (L.map (·.1)).Nodup
  own : ∀ x ∈ L, x.1 ∈ S ∨ w0.heap.size ≤ x.1

variable {w0 w : World} {S : List Nat} {L : HL}

theorem ST.nil (S : List Nat) (w : World) : ST w S w [] := ⟨Keep.refl _ _, by simp, by simp, by simp⟩

theorem lt_of_obj {b : Nat} {o : Obj} (h : w.heap[b]? = some o) : b < w.heap.size := by
  rcases Nat.lt_or_ge b w.heap.size with h' | h'
  · exact h'
  · simp [Array.getElem?_eq_none h'] at h

theorem ST.one {b : Nat} {o : Obj} (h : w.heap[b]? = some o) (hs : b ∈ S) : ST w S w [(b, o)] := ⟨Keep.refl _ _, by simpa using h, by simp, by simpa using .inl hs⟩

theorem ST.cons {b : Nat} {o : Obj} (H : ST w0 S w L) (h : w.heap[b]? = some o) (hs : b ∈ S) (hn : ∀ x ∈ L, b ≠ x.1) : ST w0 S w ((b, o) :: L) :=
  ⟨H.keep, fun x hx => by
    rcases List.mem_cons.1 hx with rfl | hx
    · exact h
    · exact H.blk x hx,
   by simp only [List.map_cons, List.nodup_cons, List.mem_map, not_exists, not_and]; exact ⟨fun x hx e => hn x hx e.symm, H.nodup⟩,
   fun x hx => by
    rcases List.mem_cons.1 hx with rfl | hx
    · exact .inl hs
    · exact H.own x hx⟩

theorem ST.drew (H : ST w0 S w L) : ST w0 S w.drew L := ⟨H.keep.drew, H.blk, H.nodup, H.own⟩

theorem ST.get (H : ST w0 S w L) {i b : Nat} {o : Obj} (hi : L[i]? = some (b, o)) : w.heap[b]? = some o := H.blk _ (List.mem_of_getElem? hi)

/-- Forget what is known of some blocks. -/
theorem ST.sub {L' : HL} (H : ST w0 S w L) (h : L'.Sublist L) : ST w0 S w L' := ⟨H.keep, fun x hx => H.blk x (h.subset hx), (h.map _).nodup H.nodup, fun x hx => H.own x (h.subset hx)⟩

theorem map_set_same {i b : Nat} {o o' : Obj} (hi : L[i]? = some (b, o)) : (L.set i (b, o')).map (·.1) = L.map (·.1) := by
  rw [List.map_set]
  apply List.ext_getElem?
  intro j
  rw [List.getElem?_set]
  split
  · rename_i h
    subst h
    split
    · rw [List.getElem?_map, hi]; rfl
    · rename_i hl
      rw [List.getElem?_eq_none (by omega)]
  · rfl

theorem mem_set {i : Nat} {x y : Nat × Obj} (h : x ∈ L.set i y) : x = y ∨ ∃ j, j ≠ i ∧ L[j]? = some x := by
  obtain ⟨j, hj⟩ := List.getElem?_of_mem h
  rw [List.getElem?_set] at hj
  split at hj
  · split at hj
    · exact .inl (by simpa using hj.symm)
    · cases hj
  · rename_i hij
    exact .inr ⟨j, fun h => hij h.symm, hj⟩

theorem nodup_ne (H : ST w0 S w L) {i j : Nat} {x y : Nat × Obj} (hi : L[i]? = some x) (hj : L[j]? = some y) (hij : j ≠ i) : y.1 ≠ x.1 := by
  intro h
  have hn := H.nodup
  rw [List.nodup_iff_pairwise_ne] at hn
  obtain ⟨hil, hie⟩ := List.getElem?_eq_some_iff.1 hi
  obtain ⟨hjl, hje⟩ := List.getElem?_eq_some_iff.1 hj
  have h1 : (L.map (·.1))[i]'(by simpa using hil) = x.1 := by simp [hie]
  have h2 : (L.map (·.1))[j]'(by simpa using hjl) = y.1 := by simp [hje]
  rcases Nat.lt_or_gt_of_ne hij with hlt | hlt
  · exact (List.pairwise_iff_getElem.1 hn j i (by simpa using hjl) (by simpa using hil) hlt) (by rw [h1, h2, h])
  · exact (List.pairwise_iff_getElem.1 hn i j (by simpa using hil) (by simpa using hjl) hlt) (by rw [h1, h2, h])

/-- Something wrote into one known block. -/
theorem ST.upd (H : ST w0 S w L) {i b : Nat} {o o' : Obj} (hi : L[i]? = some (b, o)) {w' : World} (hk : Keep [b] w w') (hb : w'.heap[b]? = some o') : ST w0 S w' (L.set i (b, o')) := by
  have hm := List.mem_of_getElem? hi
  refine ⟨H.keep.trans hk fun x hx hlt => ?_, fun x hx => ?_, by rw [map_set_same hi]; exact H.nodup, fun x hx => ?_⟩
  · rw [List.mem_singleton] at hx
    subst hx
    rcases H.own _ hm with h | h
    · exact h
    · exact absurd hlt (Nat.not_lt.2 h)
  · rcases mem_set hx with rfl | ⟨j, hij, hj⟩
    · exact hb
    · exact hk.obj (H.blk x (List.mem_of_getElem? hj)) (by
        rw [List.mem_singleton]
        exact nodup_ne H hi hj hij)
  · rcases mem_set hx with rfl | ⟨j, _, hj⟩
    · exact H.own (b, o) hm
    · exact H.own x (List.mem_of_getElem? hj)

/-- Something made memory alone. -/
theorem ST.made (H : ST w0 S w L) {w' : World} (hk : Keep [] w w') : ST w0 S w' L :=
  ⟨H.keep.trans hk (by simp), fun x hx => hk.obj (H.blk x hx) (by simp), H.nodup, H.own⟩

/-- A known block gives way to a new one. -/
theorem ST.repl (H : ST w0 S w L) {i b : Nat} {o o' : Obj} (hi : L[i]? = some (b, o)) {w' : World} {b' : Nat} (hk : Keep [] w w') (hb : w'.heap[b']? = some o') (hn : w.heap.size ≤ b') : ST w0 S w' (L.set i (b', o')) := by
  have H' := H.made hk
  refine ⟨H'.keep, fun x hx => ?_, ?_, fun x hx => ?_⟩
  · rcases mem_set hx with rfl | ⟨j, _, hj⟩
    · exact hb
    · exact H'.blk x (List.mem_of_getElem? hj)
  · rw [List.map_set, List.nodup_iff_pairwise_ne, List.pairwise_iff_getElem]
    have hp := List.pairwise_iff_getElem.1 (List.nodup_iff_pairwise_ne.1 H.nodup)
    have hnew : ∀ (j : Nat) (hj : j < (L.map (·.1)).length), (L.map (·.1))[j] ≠ b' := fun j hj h => by
      simp only [List.getElem_map] at h
      have := lt_of_obj (H.blk _ (List.getElem_mem (by simpa using hj)))
      rw [h] at this
      omega
    intro j k hj hk' hjk
    rw [List.getElem_set, List.getElem_set]
    split
    · split
      · omega
      · exact fun h => hnew k _ h.symm
    · split
      · exact hnew j _
      · exact hp j k _ _ hjk
  · rcases mem_set hx with rfl | ⟨j, _, hj⟩
    · exact .inr (Nat.le_trans H.keep.size hn)
    · exact H.own x (List.mem_of_getElem? hj)

/-- A new block is known. -/
theorem ST.push (H : ST w0 S w L) {w' : World} {b : Nat} {o : Obj} (hk : Keep [] w w') (hb : w'.heap[b]? = some o) (hn : w.heap.size ≤ b) : ST w0 S w' (L ++ [(b, o)]) := by
  have H' := H.made hk
  refine ⟨H'.keep, fun x hx => ?_, ?_, fun x hx => ?_⟩
  · rcases List.mem_append.1 hx with hx | hx
    · exact H'.blk x hx
    · rw [List.mem_singleton] at hx; subst hx; exact hb
  · rw [List.map_append, List.nodup_append]
    refine ⟨H.nodup, by simp, ?_⟩
    intro x hx y hy
    simp only [List.map_cons, List.map_nil, List.mem_singleton] at hy
    subst hy
    obtain ⟨z, hz, rfl⟩ := List.mem_map.1 hx
    exact Nat.ne_of_lt (Nat.lt_of_lt_of_le (lt_of_obj (H.blk z hz)) hn)
  · rcases List.mem_append.1 hx with hx | hx
    · exact H'.own x hx
    · rw [List.mem_singleton] at hx; subst hx
      exact .inr (Nat.le_trans H.keep.size hn)

/-! ### The steps -/
theorem wL {k : B} {a : Addr} {K : k.Ty → T} {b o : Nat} {cs : List Value} {e : TypeId} (H : ST w0 S w L) (i : Nat) (x : k.Ty) (ha : a = ⟨b, o, none⟩) (hi : L[i]? = some (b, cellsO cs e)) (hx : cs[o]? = some (k.enc x)) (h : (K x).wp P R w) :
    (T.load (.b k) a K).wp P R w := wLoad1 (H.get hi) x ha hx h

theorem wLA {ks : List B} {a : Addr} {K : BTys ks → T} {b : Nat} {cs : List Value} {e : TypeId} (H : ST w0 S w L) (i : Nat) (x : BTys ks) (ha : a = ⟨b, 0, none⟩) (hi : L[i]? = some (b, cellsO cs e)) (hx : cs = bencs ks x) (h : (K x).wp P R w) :
    (T.load (.agg ks) a K).wp P R w := wLoadA (H.get hi) x ha hx h

theorem wS {a : Addr} {v : Value} {k : T} {b o : Nat} {cs : List Value} {e : TypeId} (H : ST w0 S w L) (i : Nat) (ha : a = ⟨b, o, none⟩) (hi : L[i]? = some (b, cellsO cs e)) (hl : o < cs.length) (h1 : v.oneCell' = true)
    (h : ∀ w', ST w0 S w' (L.set i (b, cellsO (cs.set o v) e)) → k.wp P R w') : (T.store a [v] k).wp P R w :=
  wStore1 (H.get hi) ha hl h1 fun w' hb hk _ => h w' (H.upd hi hk hb)

theorem wSA {a : Addr} {vs : List Value} {k : T} {b : Nat} {cs : List Value} {e : TypeId} (H : ST w0 S w L) (i : Nat) (ha : a = ⟨b, 0, none⟩) (hi : L[i]? = some (b, cellsO cs e)) (hl : vs.length = cs.length) (h1 : vs.all (·.oneCell') = true)
    (h : ∀ w', ST w0 S w' (L.set i (b, cellsO vs e)) → k.wp P R w') : (T.store a vs k).wp P R w :=
  wStoreA (H.get hi) ha hl h1 fun w' hb hk _ => h w' (H.upd hi hk hb)

theorem wN {cs : List Value} {e : TypeId} {K : Addr → T} (H : ST w0 S w L) (h : ∀ b w', b = w.heap.size → ST w0 S w' (L ++ [(b, cellsO cs e)]) → (K ⟨b, 0, none⟩).wp P R w') : (T.new cs e K).wp P R w :=
  wNew fun b w' he hb hk _ => h b w' he (H.push hk hb (by omega))

/-- A piece of code with a condition behind it. -/
theorem wBlkK {ks : List Kd} {m : Lab → T} {K : Tys ks → T} (M : Tys ks → World → Prop) (hk : ∀ xs w', M xs w' → (K xs).wp P R w')
    (h : (∀ xs w', M xs w' → (K xs).wp P R w') → (m fun vs w' => ∃ xs, vs = encs ks xs ∧ (K xs).wp P R w').wp P R w) : (T.blk ks m K).wp P R w := wBlk (h hk)

theorem wD {k : T} (H : ST w0 S w L) (h : ∀ w', ST w0 S w' L → k.wp P R w') : (T.draw k).wp P R w := wDraw (h _ H.drew)
end
end Go.WF
