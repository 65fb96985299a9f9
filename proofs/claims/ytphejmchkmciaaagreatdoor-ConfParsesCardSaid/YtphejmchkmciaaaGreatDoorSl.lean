/- The program finds a key, and reads its value. -/
import Derived.Test.YtphejmchkmciaaaGreatDoorSk
set_option maxRecDepth 100000
namespace Go.Proofs.Cf
open Go.WF

/-- What all keys are like. -/
structure KOk (k : KD) : Prop where
  len : k.ws.length = k.vs.length
  size : k.sz = true → k.lo = 128 ∧ k.hi = 1024
  few : k.ws.length ≤ 5

theorem kd_ok (i : Nat) (hi : i < 16) : KOk (kd i) := by
  match i, hi with
  | 0, _ | 1, _ | 2, _ | 3, _ | 4, _ | 5, _ | 6, _ | 7, _ | 8, _ | 9, _ | 10, _ | 11, _ | 12, _ | 13, _ | 14, _ | 15, _ => exact ⟨rfl, by (intro h; first | exact ⟨rfl, rfl⟩ | cases h), by decide⟩
  | n + 16, h => exact absurd h (by omega)

theorem wLoadC {R : Ending → World → Prop} {k : B} {a a' : Addr} {K : k.Ty → T} {w : World} {vs : List Value} {o : Nat} (h : cellsAt w a vs) (x : k.Ty) (ha : a' = a.add o) (hx : vs[o]? = some (k.enc x)) (hK : (K x).wp Tryz.prog R w) :
    (T.load (.b k) a' K).wp Tryz.prog R w := by
  simp only [T.wp]
  refine ⟨x, ⟨?_, trivial⟩, hK⟩
  rw [ha]
  exact cellsAt_cell h o _ hx

abbrev netS : ByteArray := bs [110, 101, 116]
abbrev secretS : ByteArray := bs [115, 104, 97, 114, 101, 100, 45, 115, 101, 99, 114, 101, 116]

/-- What the search for a key comes to. -/
def FindR (sec nm : ByteArray) (w : World) (x : Ending) (w' : World) : Prop :=
  Keep [] w w' ∧ if sec = netS ∧ nm = secretS then x = .returned (tupOf [.pointer none, .bool true]) else
    match findFrom sec nm 0 with
    | some i => ∃ ad, x = .returned (tupOf [.pointer (some ad), .bool true]) ∧ KeyAt w.heap.size w' ad (kd i) (48 + i)
    | none => x = .returned (tupOf [.pointer none, .bool false])

theorem find_c (sec nm : ByteArray) (w : World) : Calls Tryz.prog 17 [.string sec, .string nm].toArray w (FindR sec nm w) := by
  refine calls_tree hm Tryz.func17 (d17_ok sec nm) ?_
  unfold d17
  refine wBlkK (fun xs w' => w' = w ∧ xs.1 = decide (sec = netS ∧ nm = secretS)) ?_ (fun rest => ?_)
  · rintro ⟨c, ⟨⟩⟩ w' ⟨rfl, hc⟩
    simp only [] at hc
    subst hc
    refine wIf (fun hc => ?_) (fun hc => ?_)
    · have hc' := of_decide_eq_true hc
      refine wRet ⟨Keep.refl _ _, ?_⟩
      rw [if_pos hc']
    · have hc' := of_decide_eq_false hc
      refine wCall (allKeys_c w') ?_
      rintro x w1 ⟨b, rfl, hk, hkeys⟩
      refine ⟨(⟨some ⟨b, 0, none⟩, 16, 16⟩, ()), rfl, ?_⟩
      refine wLoop (fun n xs w2 => ∃ i : Nat, xs = ((i : Int), ()) ∧ i ≤ 16 ∧ n = 16 - i ∧ w2 = w1 ∧ findFrom sec nm 0 = findFrom sec nm i) 16 ((0 : Int), ()) rfl ⟨0, rfl, by omega, rfl, rfl, rfl⟩ ?_
      rintro n _ w2 ⟨i, rfl, hi, rfl, rfl, hf⟩
      refine wIf (fun hlt => ?_) (fun hge => ?_)
      · have hlt' : i < 16 := by
          have h := of_decide_eq_true hlt
          have h' : (i : Int) < ((16 : Nat) : Int) := h
          omega
        obtain ⟨ws, vs, hat, hw1, hw2⟩ := hkeys i hlt'
        have ha : ((⟨b, 0, none⟩ : Addr).add (((i : Int)).toNat * 8)) = ⟨b, 8 * i, none⟩ := by
          rw [add_mk]
          simp
        have hch : ((some (⟨b, 0, none⟩ : Addr)).isSome && decide (0 ≤ (i : Int) ∧ (i : Int) < ((16 : Nat) : Int))) = true := by
          simp; omega
        refine wBlkK (fun xs w' => w' = w2 ∧ xs.1 = decide ((kd i).sec = sec ∧ (kd i).nm = nm)) ?_ (fun rest2 => ?_)
        · rintro ⟨c, ⟨⟩⟩ w3 ⟨rfl, hcc⟩
          simp only [] at hcc
          subst hcc
          refine wIf (fun hcc => ?_) (fun hcc => ?_)
          · have hcc' := of_decide_eq_true hcc
            refine wChk hch (wRet ⟨hk, ?_⟩)
            have hfi : findFrom sec nm 0 = some i := by rw [hf, findFrom, dif_pos hlt', if_pos hcc']
            rw [if_neg hc', hfi]
            exact ⟨_, rfl, by rw [show ((some (⟨b, 0, none⟩ : Addr)).getD default).add (((i : Int)).toNat * 8) = ⟨b, 8 * i, none⟩ from ha]; exact hkeys i hlt'⟩
          · have hcc' := of_decide_eq_false hcc
            have e3 : IntKind.wrap .i64 ((i : Int) + 1) = ((i + 1 : Nat) : Int) := by rw [wrap64 (by omega) (by omega)]; rfl
            refine wJump (((i + 1 : Nat) : Int), ()) ?_ ⟨16 - (i + 1), by omega, i + 1, rfl, by omega, rfl, rfl, ?_⟩
            · show [Value.int .i64 (IntKind.wrap .i64 ((i : Int) + 1))] = _
              rw [e3]; rfl
            · rw [hf, findFrom, dif_pos hlt', if_neg hcc']
        · refine wChk hch ?_
          refine wLoadC hat.2 (o := 0) (kd i).sec (by exact ha) rfl ?_
          refine wIf (fun h1 => ?_) (fun h1 => wJump (_, ()) rfl (rest2 _ _ ⟨rfl, ?_⟩))
          · rw [str_eq] at h1
            have h1' := of_decide_eq_true h1
            refine wChk hch ?_
            refine wLoadC hat.2 (o := 1) (kd i).nm (by show ((⟨b, 0, none⟩ : Addr).add (((i : Int)).toNat * 8)).add 1 = _; rw [ha]) rfl ?_
            refine wJump (_, ()) rfl (rest2 _ _ ⟨rfl, ?_⟩)
            show ((kd i).nm.toList == nm.toList) = _
            rw [str_eq]
            simp [h1']
          · rw [str_eq] at h1
            have h1' := of_decide_eq_false h1
            show false = decide _
            rw [decide_eq_false (fun h => h1' h.1)]
      · have hge' : i = 16 := by
          have h := of_decide_eq_false hge
          have h' : ¬ (i : Int) < ((16 : Nat) : Int) := h
          omega
        subst hge'
        refine wRet ⟨hk, ?_⟩
        rw [if_neg hc', hf, findFrom, dif_neg (by omega)]
  · refine wIf (fun h1 => wJump (_, ()) rfl (rest _ _ ⟨rfl, ?_⟩)) (fun h1 => wJump (_, ()) rfl (rest _ _ ⟨rfl, ?_⟩))
    · rw [str_eq] at h1
      have h1' := of_decide_eq_true h1
      show (nm.toList == _) = _
      rw [str_eq]
      simp [h1']
    · rw [str_eq] at h1
      have h1' := of_decide_eq_false h1
      show false = decide _
      rw [decide_eq_false (fun h => h1' h.1)]

theorem pow2_sizes (n : Int) (h0 : 128 ≤ n) (h1 : n ≤ 1024) : (ibits .and .i64 n (IntKind.wrap .i64 (n - 1)) == 0) = decide (n = 128 ∨ n = 256 ∨ n = 512 ∨ n = 1024) := by
  have h : ∀ x : Fin 897, (ibits .and .i64 ((x.val : Int) + 128) (IntKind.wrap .i64 ((x.val : Int) + 128 - 1)) == 0) = decide ((x.val : Int) + 128 = 128 ∨ (x.val : Int) + 128 = 256 ∨ (x.val : Int) + 128 = 512 ∨ (x.val : Int) + 128 = 1024) := by decide +kernel
  have := h ⟨(n - 128).toNat, by omega⟩
  simp only [Int.toNat_of_nonneg (show 0 ≤ n - 128 by omega)] at this
  rwa [show n - 128 + 128 = n from by omega] at this

theorem takes_c {base : Nat} {w : World} {ad : Addr} {k : KD} {f : Nat} (hk : KeyAt base w ad k f) (ho : KOk k) (hws : k.ws = []) (n : Int) :
    Calls Tryz.prog 65 [.pointer (some ad), .int .i64 n].toArray w fun x w' => x = .returned (tupOf [.bool (decide ((k.lo ≤ n ∧ n ≤ k.hi) ∧ (k.sz = true → n = 128 ∨ n = 256 ∨ n = 512 ∨ n = 1024)))]) ∧ w' = w := by
  obtain ⟨ws, vs, hat, hw1, _⟩ := hk
  refine calls_tree hm Tryz.func65 (d65_ok ad n) ?_
  unfold d65
  refine wLoadC hat.2 (o := 5) ws rfl rfl ?_
  refine wIff (by rw [hw1 hws]; rfl) ?_
  refine wBlkK (fun xs w' => w' = w ∧ xs.1 = !(decide (k.lo ≤ n ∧ n ≤ k.hi))) ?_ (fun rest => ?_)
  · rintro ⟨c, ⟨⟩⟩ w' ⟨rfl, hc⟩
    simp only [] at hc
    subst hc
    refine wIf (fun hc => ?_) (fun hc => ?_)
    · rw [Bool.not_eq_true'] at hc
      have hc' := of_decide_eq_false hc
      refine wRet ⟨tb ?_, rfl⟩
      rw [decide_eq_false (fun h => hc' h.1)]
    · rw [Bool.not_eq_false'] at hc
      have hc' := of_decide_eq_true hc
      have hfin : ∀ b : Bool, b = decide (k.sz = true → n = 128 ∨ n = 256 ∨ n = 512 ∨ n = 1024) → (T.ret [.bool b]).wp Tryz.prog (fun x w'' => x = .returned (tupOf [.bool (decide ((k.lo ≤ n ∧ n ≤ k.hi) ∧ (k.sz = true → n = 128 ∨ n = 256 ∨ n = 512 ∨ n = 1024)))]) ∧ w'' = w') w' := fun b hb => wRet ⟨tb (by rw [hb]; simp [hc']), rfl⟩
      refine wBlk ?_
      refine wLoadC hat.2 (o := 4) k.sz rfl rfl ?_
      refine wIf (fun h2 => wJump (_, ()) rfl (hfin _ ?_)) (fun h2 => wJump (_, ()) rfl (hfin _ ?_))
      · have h2' : k.sz = false := by simpa using h2
        rw [h2']
        simp
      · have h2' : k.sz = true := by simpa using h2
        have hs := ho.size h2'
        show (ibits .and .i64 n (IntKind.wrap .i64 (n - 1)) == 0) = _
        rw [pow2_sizes n (by omega) (by omega), h2']
        simp
  · refine wLoadC hat.2 (o := 2) k.lo rfl rfl ?_
    refine wIf (fun h1 => wJump (_, ()) rfl (rest _ _ ⟨rfl, ?_⟩)) (fun h1 => ?_)
    · have h1' : n < k.lo := of_decide_eq_true h1
      show true = !(decide _)
      rw [decide_eq_false (by omega)]
      rfl
    · have h1' : ¬ n < k.lo := of_decide_eq_false h1
      refine wLoadC hat.2 (o := 3) k.hi rfl rfl ?_
      refine wJump (_, ()) rfl (rest _ _ ⟨rfl, ?_⟩)
      show decide (n > k.hi) = !(decide _)
      rw [← decide_not]
      apply decide_eq_decide.2
      omega

/-- What the reading of a value comes to. -/
def ReadR (o : Option Int) (w : World) (x : Ending) (w' : World) : Prop := Keep [] w w' ∧ ∃ (n : Int) (ok : Bool), x = .returned (tupOf [.int .i64 n, .bool ok]) ∧ o = if ok then some n else none

theorem read_c {base : Nat} {w : World} {ad : Addr} {k : KD} {f : Nat} (hk : KeyAt base w ad k f) (ho : KOk k) (kind a : Int) (v : ByteArray) (hv : v.size ≤ 65536) :
    Calls Tryz.prog 37 [.pointer (some ad), .agg #[.int .i64 kind, .int .i64 a, .string v]].toArray w (ReadR (if kind = 0 then valK k v else none) w) := by
  refine calls_tree hm Tryz.func37 (d37_ok ad (kind, a, v, ())) ?_
  unfold d37
  have H : ST w [] w [] := ST.nil [] w
  refine wN H fun b w1 hb H => ?_
  have hk1 := hk.keep H.keep (by simp)
  obtain ⟨ws, vs, hat, hw1, hw2⟩ := id hk1
  refine wL H 0 kind rfl rfl rfl ?_
  refine wIf (fun h1 => ?_) (fun h1 => ?_)
  · have h1' : kind ≠ 0 := by simpa using h1
    refine wRet ⟨H.keep, 0, false, rfl, ?_⟩
    rw [if_neg h1']
    rfl
  have h1' : kind = 0 := by simpa using h1
  rw [if_pos h1']
  refine wLoadC hat.2 (o := 5) ws rfl rfl ?_
  refine wIf (fun h2 => ?_) (fun h2 => ?_)
  · have hne : k.ws ≠ [] := fun h => by rw [hw1 h] at h2; cases h2
    obtain ⟨wa, va, a1, a2, a3, a4, a5, a6⟩ := hw2 hne
    have hval : valK k v = wordV v k.ws k.vs := by
      unfold valK
      cases hws : k.ws with
      | nil => exact absurd hws hne
      | cons x xs => rfl
    rw [hval]
    refine wLoadC hat.2 (o := 5) ws rfl rfl ?_
    refine wLoop (fun n xs w2 => ∃ i : Nat, xs = ((i : Int), ()) ∧ i ≤ k.ws.length ∧ n = k.ws.length - i ∧ w2 = w1 ∧ wordV v k.ws k.vs = wordV v (k.ws.drop i) (k.vs.drop i)) k.ws.length ((0 : Int), ()) rfl ⟨0, rfl, by omega, rfl, rfl, rfl⟩ ?_
    rintro n _ w2 ⟨i, rfl, hi, rfl, rfl, hf⟩
    rw [a1, a2]
    refine wIf (fun hlt => ?_) (fun hge => ?_)
    · have hlt' : i < k.ws.length := by
        have h : (i : Int) < (k.ws.length : Int) := of_decide_eq_true hlt
        omega
      have hvl : i < k.vs.length := by rw [← ho.len]; exact hlt'
      have hch : ((some wa).isSome && decide (0 ≤ (i : Int) ∧ (i : Int) < (k.ws.length : Int))) = true := by simp; omega
      have hdw : k.ws.drop i = k.ws[i] :: k.ws.drop (i + 1) := List.drop_eq_getElem_cons hlt'
      have hdv : k.vs.drop i = k.vs[i] :: k.vs.drop (i + 1) := List.drop_eq_getElem_cons hvl
      refine wChk hch ?_
      refine wLoadC a3.2 (o := i) k.ws[i] (by simp) (by simp [hlt']; rfl) ?_
      refine wL H 0 v rfl rfl rfl ?_
      refine wIf (fun h3 => ?_) (fun h3 => ?_)
      · rw [str_eq] at h3
        have h3' := of_decide_eq_true h3
        refine wLoadC hat.2 (o := 6) vs rfl rfl ?_
        rw [a4, a5]
        refine wChk (by simp; omega) ?_
        refine wLoadC a6.2 (o := i) k.vs[i] (by simp) (by simp [hvl]; rfl) ?_
        refine wRet ⟨H.keep, k.vs[i], true, rfl, ?_⟩
        rw [hf, hdw, hdv]
        simp [wordV, h3']
      · rw [str_eq] at h3
        have h3' := of_decide_eq_false h3
        have e3 : IntKind.wrap .i64 ((i : Int) + 1) = ((i + 1 : Nat) : Int) := by
          have := ho.few
          rw [wrap64 (by omega) (by omega)]; rfl
        refine wJump (((i + 1 : Nat) : Int), ()) ?_ ⟨k.ws.length - (i + 1), by omega, i + 1, rfl, by omega, rfl, rfl, ?_⟩
        · show [Value.int .i64 (IntKind.wrap .i64 ((i : Int) + 1))] = _
          rw [e3]; rfl
        · rw [hf, hdw, hdv]
          simp [wordV, h3']
    · have hge' : i = k.ws.length := by
        have h : ¬ (i : Int) < (k.ws.length : Int) := of_decide_eq_false hge
        omega
      subst hge'
      refine wRet ⟨H.keep, 0, false, rfl, ?_⟩
      rw [hf, List.drop_length]
      rfl
  · have hws : k.ws = [] := by
      by_cases h : k.ws = []
      · exact h
      · obtain ⟨wa, va, a1, _⟩ := hw2 h
        rw [a1] at h2
        cases h2
    have hval : valK k v = match numV v with
        | some n => if (k.lo ≤ n ∧ n ≤ k.hi) ∧ (k.sz = true → n = 128 ∨ n = 256 ∨ n = 512 ∨ n = 1024) then some n else none
        | none => none := by
      unfold valK
      rw [hws]
      rfl
    refine wL H 0 v rfl rfl rfl ?_
    refine wCall (number_c hv w1) ?_
    rintro x w2 ⟨rfl, hk2⟩
    cases hn : numV v with
    | none =>
      rw [hn] at hval
      refine ⟨((0 : Int), false, ()), rfl, ?_⟩
      refine wBlk (wIff rfl (wJump ((0 : Int), false, ()) rfl (wRet ⟨H.keep.trans hk2 (by simp), 0, false, rfl, hval⟩)))
    | some n =>
      rw [hn] at hval
      refine ⟨(n, true, ()), rfl, ?_⟩
      refine wBlk (wIft rfl ?_)
      refine wCall (takes_c (hk1.keep hk2 (by simp)) ho hws n) ?_
      rintro x w3 ⟨rfl, rfl⟩
      refine ⟨(_, ()), rfl, ?_⟩
      refine wJump (n, _, ()) rfl (wRet ⟨H.keep.trans hk2 (by simp), n, _, rfl, ?_⟩)
      rw [hval]
      simp only [decide_eq_true_eq]

end Go.Proofs.Cf
