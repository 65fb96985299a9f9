/- The program's string tokens. -/
import Derived.Test.YtphejmchkmciaaaGreatDoorSe
set_option maxRecDepth 100000
namespace Go.Proofs.Cf
open Go.WF

/-! ### Characters -/
theorem get_bt (s : ByteArray) (j : Nat) : (s.get! j).toNat = (bt s j).toNat := by
  obtain ⟨⟨l⟩⟩ := s
  simp [ByteArray.get!, bt, Array.getD_eq_getD_getElem?, getElem!_def]
  split <;> simp_all <;> rfl

theorem get_ext {s : ByteArray} {a : Nat} (j : Nat) : (s.extract a s.size).get! j = s.get! (a + j) := by
  apply UInt8.toNat_inj.1
  rw [get_bt, get_bt, bt_ext]

theorem decode_ext {s : ByteArray} {a i : Nat} (h : a ≤ s.size) : Utf8.decode (s.extract a s.size) i = Utf8.decode s (a + i) := by
  unfold Utf8.decode
  simp only [get_ext, size_ext]
  have e : ∀ k, decide (i + k < s.size - a) = decide (a + i + k < s.size) := fun k => by
    apply decide_eq_decide.2
    omega
  simp only [e, Nat.add_assoc]

theorem decode_low {s : ByteArray} {i : Nat} (h : bt s i < 128) : Utf8.decode s i = ((bt s i).toNat, 1) := by
  unfold Utf8.decode
  have h0 := bt_lo s i
  simp only [get_bt, Nat.add_zero]
  rw [if_pos (by omega)]

/-- What a decoded character is like. -/
theorem decode_facts {s : ByteArray} {i : Nat} (hi : i < s.size) : 1 ≤ (Utf8.decode s i).2 ∧ i + (Utf8.decode s i).2 ≤ s.size ∧ scalar ((Utf8.decode s i).1 : Int) = true ∧ (128 ≤ bt s i → 128 ≤ (Utf8.decode s i).1) := by
  have h0 := bt_lo s i
  have sc : ∀ c : Nat, Utf8.valid (c : Int) = true → scalar (c : Int) = true := fun c hc => by
    simp only [Utf8.valid, Bool.and_eq_true, Bool.or_eq_true, decide_eq_true_eq] at hc
    simp only [scalar, Bool.and_eq_true, Bool.or_eq_true, decide_eq_true_eq]
    omega
  have se : scalar ((Utf8.runeError : Nat) : Int) = true := by decide
  unfold Utf8.decode
  simp only [get_bt, Nat.add_zero]
  split
  · rename_i h
    refine ⟨by simp, by simp; omega, ?_, fun h2 => by omega⟩
    simp only [scalar, Bool.and_eq_true, Bool.or_eq_true, decide_eq_true_eq]
    omega
  · split
    · rename_i h1 h
      simp only [Bool.and_eq_true, decide_eq_true_eq] at h
      split
      · refine ⟨by simp, by simp; omega, ?_, fun _ => by simpa⟩
        simp only [scalar, Bool.and_eq_true, Bool.or_eq_true, decide_eq_true_eq]
        omega
      · exact ⟨by simp, by simp; omega, se, fun _ => by decide⟩
    · split
      · rename_i h1 h2 h
        simp only [Bool.and_eq_true, decide_eq_true_eq] at h
        split
        · rename_i h3
          simp only [ge_iff_le, Bool.and_eq_true, decide_eq_true_eq] at h3
          exact ⟨by simp, by simp; omega, sc _ h3.2, fun _ => by simp; omega⟩
        · exact ⟨by simp, by simp; omega, se, fun _ => by decide⟩
      · split
        · rename_i h1 h2 h3 h
          simp only [Bool.and_eq_true, decide_eq_true_eq] at h
          split
          · rename_i h4
            simp only [ge_iff_le, Bool.and_eq_true, decide_eq_true_eq] at h4
            exact ⟨by simp, by simp; omega, sc _ h4.2, fun _ => by simp; omega⟩
          · exact ⟨by simp, by simp; omega, se, fun _ => by decide⟩
        · exact ⟨by simp, by simp; omega, se, fun _ => by decide⟩

/-- An escape's bytes are all small, and it takes some. -/
theorem hexVal_low {s : ByteArray} : ∀ (k j : Nat) (n m : Int), hexVal s j n k = some m → ∀ i, i < k → bt s (j + i) < 128
  | 0, _, _, _, _, i, hi => by omega
  | k + 1, j, n, m, h, i, hi => by
    simp only [hexVal] at h
    split at h
    · cases h
    · rename_i hx
      cases i with
      | zero =>
        have h0 := bt_lo s j
        simp only [hexv, isDig, Bool.and_eq_true, decide_eq_true_eq, Nat.add_zero] at hx ⊢
        split at hx
        · omega
        · split at hx
          · omega
          · split at hx
            · omega
            · omega
      | succ i =>
        have := hexVal_low k (j + 1) _ _ h i (by omega)
        rwa [show j + 1 + i = j + (i + 1) from by omega] at this

theorem findB_at {s : ByteArray} {i : Nat} {c : Int} (h : findB s i c < s.size) : bt s (findB s i c) = c := by
  induction hn : s.size - i using Nat.strongRecOn generalizing i with
  | _ n ih =>
    by_cases hlt : i < s.size
    · by_cases hc : bt s i = c
      · rw [findB, dif_pos hlt, if_pos hc]; exact hc
      · have e : findB s i c = findB s (i + 1) c := by rw [findB, dif_pos hlt, if_neg hc]
        rw [e] at h ⊢
        exact ih (s.size - (i + 1)) (by omega) h rfl
    · rw [findB, dif_neg hlt] at h
      omega

theorem esc_facts {s : ByteArray} {i : Nat} {n : Int} {w : Nat} (h0 : bt s i = 92) (h : esc s i = some (n, w)) : 2 ≤ w ∧ i + w ≤ s.size ∧ scalar n = true ∧ ∀ j, j < w → bt s (i + j) < 128 := by
  have hb := bt_lo s (i + 1)
  unfold esc at h
  have two : ∀ x : Int, bt s (i + 1) = x → x < 128 → ∀ j, j < 2 → bt s (i + j) < 128 := fun x hx hx' j hj => by
    have : j = 0 ∨ j = 1 := by omega
    rcases this with rfl | rfl
    · rw [Nat.add_zero, h0]; omega
    · rw [hx]; exact hx'
  split at h
  · rename_i hs
    split at h
    · rename_i h1
      simp only [Option.some.injEq, Prod.mk.injEq] at h
      obtain ⟨rfl, rfl⟩ := h
      refine ⟨Nat.le_refl _, by omega, ?_, two _ rfl (by omega)⟩
      rcases h1 with h1 | h1 <;> rw [h1] <;> decide
    · split at h
      · rename_i h1
        simp only [Option.some.injEq, Prod.mk.injEq] at h
        obtain ⟨rfl, rfl⟩ := h
        exact ⟨Nat.le_refl _, by omega, by decide, two _ h1 (by omega)⟩
      · split at h
        · rename_i h1
          simp only [Option.some.injEq, Prod.mk.injEq] at h
          obtain ⟨rfl, rfl⟩ := h
          exact ⟨Nat.le_refl _, by omega, by decide, two _ h1 (by omega)⟩
        · split at h
          · rename_i h117
            simp only [] at h
            split at h
            · rename_i hc
              split at h
              · rename_i m hv
                split at h
                · rename_i hsc
                  simp only [Option.some.injEq, Prod.mk.injEq] at h
                  obtain ⟨rfl, rfl⟩ := h
                  refine ⟨by omega, by omega, hsc, fun j hj => ?_⟩
                  by_cases j0 : j = 0
                  · subst j0; rw [Nat.add_zero, h0]; omega
                  by_cases j1 : j = 1
                  · subst j1; rw [h117]; omega
                  by_cases j2 : j = 2
                  · subst j2; rw [hc.2.1]; omega
                  by_cases jl : j = findB s i 125 - i
                  · subst jl
                    rw [show i + (findB s i 125 - i) = findB s i 125 from by omega, findB_at hc.2.2.1]
                    omega
                  · have := hexVal_low _ _ _ _ hv (j - 3) (by omega)
                    rwa [show i + 3 + (j - 3) = i + j from by omega] at this
                · cases h
              · cases h
            · cases h
          · cases h
  · cases h


theorem ext_ext {s : ByteArray} {a b : Nat} (h : a ≤ s.size) : (s.extract a s.size).extract b (s.extract a s.size).size = s.extract (a + b) s.size := by
  apply ByteArray.ext
  simp only [ByteArray.data_extract, ByteArray.size]
  apply Array.ext
  · simp only [Array.size_extract]
    have : s.size = s.data.size := rfl
    omega
  · intro i h1 h2
    simp [Nat.add_assoc]

/-! ### The steps of a string token -/
theorem strTok_end {s : ByteArray} {i : Nat} {acc : List UInt8} (h : s.size ≤ i) : strTok s i acc = .error s.size := by
  rw [strTok, dif_neg (by omega)]

theorem strTok_quote {s : ByteArray} {i : Nat} {acc : List UInt8} (h : i < s.size) (hb : bt s i = 34) : strTok s i acc = .ok (acc, i + 1) := by
  rw [strTok, dif_pos h, if_pos hb]

theorem strTok_escN {s : ByteArray} {i : Nat} {acc : List UInt8} (h : i < s.size) (hb : bt s i = 92) (he : esc s i = none) : strTok s i acc = .error i := by
  rw [strTok, dif_pos h, if_neg (by omega), if_pos hb]
  simp [he]

theorem strTok_escS {s : ByteArray} {i : Nat} {acc : List UInt8} {n : Int} {w : Nat} (h : i < s.size) (hb : bt s i = 92) (he : esc s i = some (n, w)) : strTok s i acc = strTok s (i + w) (acc ++ utf n) := by
  have hw := (esc_facts hb he).1
  rw [strTok, dif_pos h, if_neg (by omega), if_pos hb]
  simp [he, show 0 < w by omega]

/-- What no string token may hold. -/
def badC (s : ByteArray) (i : Nat) : Bool := decide (((Utf8.decode s i).1 : Int) < 32) || (decide (((Utf8.decode s i).1 : Int) = 127) || (decide ((Utf8.decode s i).1 = 65533) && !(decide (i + 3 ≤ s.size ∧ bt s i = 239 ∧ bt s (i + 1) = 191 ∧ bt s (i + 2) = 189))))

theorem strTok_bad {s : ByteArray} {i : Nat} {acc : List UInt8} (h : i < s.size) (h1 : bt s i ≠ 34) (h2 : bt s i ≠ 92) (hb : badC s i = true) : strTok s i acc = .error i := by
  rw [strTok, dif_pos h, if_neg h1, if_neg h2]
  simp only [badC, Bool.or_eq_true, Bool.and_eq_true, decide_eq_true_eq, Bool.not_eq_true', decide_eq_false_iff_not] at hb
  by_cases hc : chr s i = none
  · simp [hc]
  · have : chr s i = some (((Utf8.decode s i).1 : Int), (Utf8.decode s i).2) := by
      unfold chr at hc ⊢
      simp only [] at hc ⊢
      split
      · rename_i hh; rw [if_pos hh] at hc; exact absurd rfl hc
      · rfl
    rw [this]
    simp only []
    rw [if_pos]
    rcases hb with hb | hb | hb
    · exact .inl hb
    · exact .inr hb
    · exfalso
      apply hc
      unfold chr
      simp only []
      rw [if_pos hb]

theorem strTok_chr {s : ByteArray} {i : Nat} {acc : List UInt8} (h : i < s.size) (h1 : bt s i ≠ 34) (h2 : bt s i ≠ 92) (hb : badC s i = false) : strTok s i acc = strTok s (i + (Utf8.decode s i).2) (acc ++ utf (Utf8.decode s i).1) := by
  rw [strTok, dif_pos h, if_neg h1, if_neg h2]
  simp only [badC, Bool.or_eq_false_iff, Bool.and_eq_false_iff, decide_eq_false_iff_not, Bool.not_eq_false', decide_eq_true_eq] at hb
  have hw := (decode_facts h).1
  have : chr s i = some (((Utf8.decode s i).1 : Int), (Utf8.decode s i).2) := by
    unfold chr
    simp only []
    rw [if_neg]
    rintro ⟨h3, h4⟩
    rcases hb.2.2 with h5 | h5
    · exact h5 h3
    · exact h4 h5
  rw [this]
  simp only []
  rw [if_neg (by omega), dif_pos (by omega)]

/-! ### A fault -/
/-- What is panicked with. -/
abbrev faultL (pos k : Int) : List PanicEntry := [{ v := .iface 46 (.agg #[.int .i64 pos, .int .i64 k]), recovered := false }]

theorem give_c (pos k : Int) (w : World) : Calls Tryz.prog 15 [.int .i64 pos, .int .i64 k].toArray w fun x w' => x = .panicked (faultL pos k) ∧ w' = w :=
  calls_tree hm Tryz.func15 (d15_ok pos k) (by unfold d15; exact wPanic ⟨rfl, rfl⟩)

theorem wGive {R : Ending → World → Prop} {pos k : Int} {ks : List Kd} {K : Tys ks → T} {w : World} (h : R (.panicked (faultL pos k)) w) : (T.call 15 [.int .i64 pos, .int .i64 k] ks K).wp Tryz.prog R w :=
  wCall (give_c pos k w) (by rintro x w' ⟨rfl, rfl⟩; exact h)

end Go.Proofs.Cf
