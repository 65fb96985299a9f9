/- The program's reader: blanks, tokens. -/
import Derived.Test.YtphejmchkmciaaaGreatDoorSb
set_option maxRecDepth 100000
namespace Go.Proofs.Cf
open Go.WF

/-- The reader lies at r, reads s, and stands at p. -/
abbrev RdL (r : Nat) (s : ByteArray) (p : Nat) (e : TypeId) : Nat × Obj := (r, cellsO [.string s, .int .i64 (p : Int)] e)

/-- A call that moves the reader alone. -/
abbrev Moves (r : Nat) (s : ByteArray) (e : TypeId) (w : World) (w' : World) (q : Nat) : Prop := Keep [r] w w' ∧ Blk w' r [.string s, .int .i64 (q : Int)] e

theorem skip_c {s : ByteArray} (hs : s.size < 2 ^ 62) {r p : Nat} {e : TypeId} (hp : p ≤ s.size) {w : World} (hb : Blk w r [.string s, .int .i64 (p : Int)] e) :
    Calls Tryz.prog 38 [.pointer (some ⟨r, 0, none⟩)].toArray w fun x w' => x = .returned (tupOf []) ∧ Moves r s e w w' (blankTo s p) := by
  refine calls_tree hm Tryz.func38 (d38_ok ⟨r, 0, none⟩) ?_
  unfold d38
  have H0 : ST w [r] w [RdL r s p e] := ST.one hb (by simp)
  refine wLoop (fun n _ w' => ∃ q : Nat, q ≤ s.size ∧ n = s.size - q ∧ blankTo s p = blankTo s q ∧ ST w [r] w' [RdL r s q e]) (s.size - p) () rfl ⟨p, hp, rfl, rfl, H0⟩ ?_
  rintro n xs w1 ⟨q, hq, rfl, hbl, H⟩
  refine wD H fun w1 H => ?_
  refine wL H 0 _ rfl rfl rfl ?_
  refine wL H 0 _ rfl rfl rfl ?_
  have done : q = blankTo s q → (T.ret []).wp Tryz.prog (fun x w' => x = .returned (tupOf []) ∧ Moves r s e w w' (blankTo s p)) w1 := fun hq' => wRet ⟨rfl, H.keep, by rw [hbl, ← hq']; exact H.get (i := 0) rfl⟩
  refine wIf (fun h => ?_) (fun h => done (by rw [blankTo, dif_neg (by simp at h; omega)]))
  have hlt : q < s.size := by simp at h; omega
  refine wD H fun w1 H => ?_
  refine wL H 0 _ rfl rfl rfl ?_
  refine wL H 0 _ rfl rfl rfl ?_
  refine wChk (by simp; omega) ?_
  have eb : byteAt s (q : Int) = bt s q := rfl
  have done : q = blankTo s q → (T.ret []).wp Tryz.prog (fun x w' => x = .returned (tupOf []) ∧ Moves r s e w w' (blankTo s p)) w1 := fun hq' => wRet ⟨rfl, H.keep, by rw [hbl, ← hq']; exact H.get (i := 0) rfl⟩
  refine wBlkK (fun xs w' => w' = w1 ∧ xs.1 = isBlank (bt s q)) ?_ (fun rest => ?_)
  · rintro ⟨b, ⟨⟩⟩ w' ⟨rfl, hb'⟩
    refine wIf (fun h1 => ?_) (fun h1 => ?_)
    · rw [h1] at hb'
      refine wL H 0 _ rfl rfl rfl ?_
      refine wS H 0 rfl rfl (by simp) rfl fun w2 H => ?_
      refine wJump () rfl ⟨s.size - (q + 1), by omega, q + 1, by omega, rfl, ?_, ?_⟩
      · rw [hbl, blankTo, dif_pos hlt, if_pos hb'.symm]
      · have : IntKind.wrap .i64 ((q : Int) + 1) = ((q + 1 : Nat) : Int) := by rw [wrap64 (by omega) (by omega)]; rfl
        rw [this] at H
        exact H
    · rw [h1] at hb'
      refine wIf (fun h2 => ?_) (fun h2 => done ?_)
      · refine wD H fun w2 H => ?_
        refine wL H 0 _ rfl rfl rfl ?_
        refine wL H 0 _ rfl rfl rfl ?_
        refine wChk (by simp; omega) ?_
        have h35 : bt s q = 35 := by rw [eb] at h2; simpa using h2
        have hle := lineEnd_ge s (q + 1)
        have hstep : blankTo s q = blankTo s (lineEnd s (q + 1)) := by
          rw [blankTo, dif_pos hlt, if_neg (by rw [← hb']; simp), if_pos h35]
        have hl1 : lineEnd s q = lineEnd s (q + 1) := by
          show findB s q 10 = findB s (q + 1) 10
          rw [findB, dif_pos hlt, if_neg (by rw [h35]; decide)]
        have hlz := lineEnd_le s (q + 1) (by omega)
        have hix := indexByte_find s 10 (by omega) q
        refine wCall (Tryz.strings_IndexByte _ _ _) ?_
        rintro x w3 ⟨rfl, rfl⟩
        refine ⟨(_, ()), rfl, ?_⟩
        have e1 : ((s.size : Nat) : Int).toNat = s.size := by simp
        have e2 : ((q : Nat) : Int).toNat = q := by simp
        rw [e1, e2]
        have e3 : Lib.indexByte (s.extract q s.size).data.toList (10 : Int).toNat.toUInt8 = if lineEnd s q < s.size then ((lineEnd s q : Nat) : Int) - q else -1 := hix
        rw [e3, hl1]
        by_cases hin : lineEnd s (q + 1) < s.size
        · rw [if_pos hin]
          refine wIff (by simp; omega) ?_
          refine wL H 0 _ rfl rfl rfl ?_
          refine wS H 0 rfl rfl (by simp) rfl fun w2 H => ?_
          refine wJump () rfl ⟨s.size - lineEnd s (q + 1), by omega, lineEnd s (q + 1), by omega, rfl, by rw [hbl, hstep], ?_⟩
          have : IntKind.wrap .i64 ((q : Int) + (((lineEnd s (q + 1) : Nat) : Int) - q)) = ((lineEnd s (q + 1) : Nat) : Int) := by rw [wrap64 (by omega) (by omega)]; omega
          rw [this] at H
          exact H
        · rw [if_neg hin]
          refine wIft rfl ?_
          refine wL H 0 _ rfl rfl rfl ?_
          refine wS H 0 rfl rfl (by simp) rfl fun w2 H => ?_
          have : lineEnd s (q + 1) = s.size := by omega
          exact wJump () rfl ⟨s.size - s.size, by omega, s.size, by omega, rfl, by rw [hbl, hstep, this], H⟩
      · rw [eb] at h2
        rw [blankTo, dif_pos hlt, if_neg (by rw [← hb']; simp), if_neg (by simpa using h2)]
  · rw [eb]
    refine wIf (fun h1 => wJump (_, ()) rfl (rest _ _ ⟨rfl, ?_⟩)) (fun h1 => ?_)
    · have : bt s q = 32 := by simpa using h1
      simp [isBlank, this]
    refine wIf (fun h2 => wJump (_, ()) rfl (rest _ _ ⟨rfl, ?_⟩)) (fun h2 => ?_)
    · have : bt s q = 9 := by simpa using h2
      simp [isBlank, this]
    refine wIf (fun h3 => wJump (_, ()) rfl (rest _ _ ⟨rfl, ?_⟩)) (fun h3 => wJump (_, ()) rfl (rest _ _ ⟨rfl, ?_⟩))
    · have : bt s q = 10 := by simpa using h3
      simp [isBlank, this]
    · simp [isBlank, h1, h2, h3]

end Go.Proofs.Cf
