/- The reference's well-formed characters are the plain ones. -/
import Derived.Test.YtphejmchkmciaaaGreatDoorTc
set_option maxRecDepth 100000
set_option maxHeartbeats 4000000
set_option linter.unusedVariables false
namespace Go.Proofs.Cf
open Go.WF

theorem ba_list (l : List UInt8) (t : ByteArray) : ((⟨l.toArray⟩ : ByteArray) = t) ↔ l = t.data.toList := by
  constructor
  · rintro rfl; rfl
  · intro h
    apply ByteArray.ext
    show l.toArray = t.data
    rw [h]

theorem bytes_at (s : ByteArray) (i : Nat) : ∀ k, i + k ≤ s.size → (s.extract i (i + k)).data.toList = (List.range k).map fun j => UInt8.ofNat (bt s (i + j)).toNat := by
  intro k hk
  have hz : s.size = s.data.size := rfl
  rw [ByteArray.data_extract, Array.toList_extract, List.extract_eq_take_drop]
  apply List.ext_getElem?
  intro j
  rw [List.getElem?_take, List.getElem?_drop, List.getElem?_map]
  by_cases hj : j < k
  · rw [if_pos (by omega)]
    have hlt : i + j < s.data.toList.length := by rw [Array.length_toList]; omega
    rw [List.getElem?_eq_getElem hlt, List.getElem?_range hj]
    simp only [Option.map_some, Option.some.injEq]
    have hb : bt s (i + j) = ((s.data.toList[i + j]'hlt).toNat : Int) := by
      simp [bt, Array.getD, show i + j < s.size by omega]
    rw [hb]
    simp
  · rw [if_neg (by omega), List.getElem?_eq_none (by simpa using hj)]
    rfl

theorem ofNat_inj {a b : Nat} (ha : a < 256) (hb : b < 256) : UInt8.ofNat a = UInt8.ofNat b ↔ a = b := by
  constructor
  · intro h
    have := congrArg UInt8.toNat h
    rw [UInt8.toNat_ofNat', UInt8.toNat_ofNat'] at this
    omega
  · rintro rfl; rfl

theorem okW_iff {s : ByteArray} {i k : Nat} (hk : i + k ≤ s.size) : okW s i k = true ↔ scalar (nW s i k) = true ∧ utf (nW s i k) = (List.range k).map fun j => UInt8.ofNat (bt s (i + j)).toNat := by
  unfold okW
  rw [Bool.and_eq_true, decide_eq_true_eq, ba_list, bytes_at s i k hk]

theorem wide_chr {s : ByteArray} {i : Nat} (hi : i < s.size) : wideFrom s i 1 = match chr s i with
    | some (n, k) => ((k : Int), n)
    | none => (0, 0) := by
  have b0 := bt_lo s i
  have b1 := bt_lo s (i + 1)
  have b2 := bt_lo s (i + 2)
  have b3 := bt_lo s (i + 3)
  obtain ⟨x0, h0⟩ : ∃ x : Nat, bt s i = x := ⟨(bt s i).toNat, by omega⟩
  obtain ⟨x1, h1⟩ : ∃ x : Nat, bt s (i + 1) = x := ⟨(bt s (i + 1)).toNat, by omega⟩
  obtain ⟨x2, h2⟩ : ∃ x : Nat, bt s (i + 2) = x := ⟨(bt s (i + 2)).toNat, by omega⟩
  obtain ⟨x3, h3⟩ : ∃ x : Nat, bt s (i + 3) = x := ⟨(bt s (i + 3)).toNat, by omega⟩
  have n1 : nW s i 1 = (x0 : Int) := by show bt s i = _; exact h0
  have n2 : nW s i 2 = ((x0 % 32 * 64 + x1 % 64 : Nat) : Int) := by
    show (bt s i % 2 ^ (7 - 2)) * 64 + bt s (i + 1) % 64 = _
    rw [h0, h1]
    simp
  have n3 : nW s i 3 = ((x0 % 16 * 4096 + x1 % 64 * 64 + x2 % 64 : Nat) : Int) := by
    show ((bt s i % 2 ^ (7 - 3)) * 64 + bt s (i + 1) % 64) * 64 + bt s (i + 2) % 64 = _
    rw [h0, h1, h2]
    simp
    omega
  have n4 : nW s i 4 = ((x0 % 8 * 262144 + x1 % 64 * 4096 + x2 % 64 * 64 + x3 % 64 : Nat) : Int) := by
    show (((bt s i % 2 ^ (7 - 4)) * 64 + bt s (i + 1) % 64) * 64 + bt s (i + 2) % 64) * 64 + bt s (i + 3) % 64 = _
    rw [h0, h1, h2, h3]
    simp
    omega
  have sc : ∀ c : Nat, scalar (c : Int) = true ↔ Utf8.valid (c : Int) = true := fun c => by
    simp only [scalar, Utf8.valid, Bool.and_eq_true, Bool.or_eq_true, decide_eq_true_eq]
    omega
  have ok1 : okW s i 1 = true ↔ x0 < 128 := by
    rw [okW_iff (by omega), n1]
    have hr : (List.range 1).map (fun j => UInt8.ofNat (bt s (i + j)).toNat) = [UInt8.ofNat (bt s i).toNat] := rfl
    rw [hr, h0]
    constructor
    · rintro ⟨hs, hu⟩
      by_cases hx : x0 < 128
      · exact hx
      · exfalso
        rw [utf2 hs (by omega) (by omega)] at hu
        simp at hu
    · intro hx
      have hs : scalar (x0 : Int) = true := by
        simp only [scalar, Bool.and_eq_true, Bool.or_eq_true, decide_eq_true_eq]
        omega
      exact ⟨hs, utf1 hs (by omega)⟩
  have ok2 : i + 2 ≤ s.size → (okW s i 2 = true ↔ x0 / 32 = 6 ∧ x1 / 64 = 2 ∧ 128 ≤ x0 % 32 * 64 + x1 % 64) := fun hz => by
    rw [okW_iff hz, n2]
    have hr : (List.range 2).map (fun j => UInt8.ofNat (bt s (i + j)).toNat) = [UInt8.ofNat (bt s i).toNat, UInt8.ofNat (bt s (i + 1)).toNat] := rfl
    rw [hr, h0, h1]
    generalize hn : x0 % 32 * 64 + x1 % 64 = n
    have hs : scalar (n : Int) = true := by
      simp only [scalar, Bool.and_eq_true, Bool.or_eq_true, decide_eq_true_eq]
      omega
    by_cases hx : n < 128
    · rw [utf1 hs (by omega)]
      simp
      omega
    · rw [utf2 hs (by omega) (by omega)]
      simp only [List.cons.injEq, and_true, Int.toNat_natCast]
      rw [ofNat_inj (by omega) (by omega), ofNat_inj (by omega) (by omega)]
      simp only [hs, true_and]
      omega
  have ok3 : i + 3 ≤ s.size → (okW s i 3 = true ↔ x0 / 16 = 14 ∧ x1 / 64 = 2 ∧ x2 / 64 = 2 ∧ 2048 ≤ x0 % 16 * 4096 + x1 % 64 * 64 + x2 % 64 ∧ Utf8.valid ((x0 % 16 * 4096 + x1 % 64 * 64 + x2 % 64 : Nat) : Int) = true) := fun hz => by
    rw [okW_iff hz, n3]
    have hr : (List.range 3).map (fun j => UInt8.ofNat (bt s (i + j)).toNat) = [UInt8.ofNat (bt s i).toNat, UInt8.ofNat (bt s (i + 1)).toNat, UInt8.ofNat (bt s (i + 2)).toNat] := rfl
    rw [hr, h0, h1, h2, ← sc]
    generalize hn : x0 % 16 * 4096 + x1 % 64 * 64 + x2 % 64 = n
    by_cases hs : scalar (n : Int) = true
    · simp only [hs, true_and, and_true]
      by_cases hx : n < 128
      · rw [utf1 hs (by omega)]
        simp
        omega
      · by_cases hx2 : n < 2048
        · rw [utf2 hs (by omega) (by omega)]
          simp
          omega
        · rw [utf3 hs (by omega) (by omega)]
          simp only [List.cons.injEq, and_true, Int.toNat_natCast]
          rw [ofNat_inj (by omega) (by omega), ofNat_inj (by omega) (by omega), ofNat_inj (by omega) (by omega)]
          omega
    · simp [hs]
  have ok4 : i + 4 ≤ s.size → (okW s i 4 = true ↔ x0 / 8 = 30 ∧ x1 / 64 = 2 ∧ x2 / 64 = 2 ∧ x3 / 64 = 2 ∧ 65536 ≤ x0 % 8 * 262144 + x1 % 64 * 4096 + x2 % 64 * 64 + x3 % 64 ∧ Utf8.valid ((x0 % 8 * 262144 + x1 % 64 * 4096 + x2 % 64 * 64 + x3 % 64 : Nat) : Int) = true) := fun hz => by
    rw [okW_iff hz, n4]
    have hr : (List.range 4).map (fun j => UInt8.ofNat (bt s (i + j)).toNat) = [UInt8.ofNat (bt s i).toNat, UInt8.ofNat (bt s (i + 1)).toNat, UInt8.ofNat (bt s (i + 2)).toNat, UInt8.ofNat (bt s (i + 3)).toNat] := rfl
    rw [hr, h0, h1, h2, h3, ← sc]
    generalize hn : x0 % 8 * 262144 + x1 % 64 * 4096 + x2 % 64 * 64 + x3 % 64 = n
    by_cases hs : scalar (n : Int) = true
    · simp only [hs, true_and, and_true]
      have hsv := scalar_valid hs
      by_cases hx : n < 128
      · rw [utf1 hs (by omega)]
        simp
        omega
      · by_cases hx2 : n < 2048
        · rw [utf2 hs (by omega) (by omega)]
          simp
          omega
        · by_cases hx3 : n < 65536
          · rw [utf3 hs (by omega) (by omega)]
            simp
            omega
          · rw [utf4 hs (by omega)]
            simp only [List.cons.injEq, and_true, Int.toNat_natCast]
            rw [ofNat_inj (by omega) (by omega), ofNat_inj (by omega) (by omega), ofNat_inj (by omega) (by omega), ofNat_inj (by omega) (by omega)]
            omega
    · simp [hs]
  generalize hN2 : x0 % 32 * 64 + x1 % 64 = N2 at *
  generalize hN3 : x0 % 16 * 4096 + x1 % 64 * 64 + x2 % 64 = N3 at *
  generalize hN4 : x0 % 8 * 262144 + x1 % 64 * 4096 + x2 % 64 * 64 + x3 % 64 = N4 at *
  have hd : Utf8.decode s i = if x0 < 128 then (x0, 1) else if x0 / 32 = 6 ∧ (i + 1 < s.size ∧ x1 / 64 = 2) then (if 128 ≤ N2 then (N2, 2) else (65533, 1))
      else if (x0 / 16 = 14 ∧ (i + 1 < s.size ∧ x1 / 64 = 2)) ∧ (i + 2 < s.size ∧ x2 / 64 = 2) then (if 2048 ≤ N3 ∧ Utf8.valid (N3 : Int) = true then (N3, 3) else (65533, 1))
      else if ((x0 / 8 = 30 ∧ (i + 1 < s.size ∧ x1 / 64 = 2)) ∧ (i + 2 < s.size ∧ x2 / 64 = 2)) ∧ (i + 3 < s.size ∧ x3 / 64 = 2) then (if 65536 ≤ N4 ∧ Utf8.valid (N4 : Int) = true then (N4, 4) else (65533, 1)) else (65533, 1) := by
    unfold Utf8.decode
    simp only [get_bt, Nat.add_zero, h0, h1, h2, h3, Int.toNat_natCast, Bool.and_eq_true, decide_eq_true_eq, beq_iff_eq, ge_iff_le, hN2, hN3, hN4]
    rfl
  have hc : chr s i = if (Utf8.decode s i).1 = 65533 ∧ ¬ (i + 3 ≤ s.size ∧ x0 = 239 ∧ x1 = 191 ∧ x2 = 189) then none else some (((Utf8.decode s i).1 : Int), (Utf8.decode s i).2) := by
    unfold chr
    simp only [h0, h1, h2]
    have e : ∀ a b : Nat, ((a : Int) = (b : Int)) ↔ a = b := fun a b => by omega
    have e1 : ((x0 : Int) = 239) ↔ x0 = 239 := by omega
    have e2 : ((x1 : Int) = 191) ↔ x1 = 191 := by omega
    have e3 : ((x2 : Int) = 189) ↔ x2 = 189 := by omega
    simp only [e1, e2, e3]
  have w1 : wideFrom s i 1 = if x0 < 128 then (1, (x0 : Int)) else wideFrom s i 2 := by
    rw [wideFrom, dif_pos (by omega), n1]
    by_cases h : x0 < 128
    · rw [if_pos (ok1.2 h), if_pos h]; rfl
    · rw [if_neg (fun hh => h (ok1.1 hh)), if_neg h]
  have w2 : wideFrom s i 2 = if i + 2 ≤ s.size then (if x0 / 32 = 6 ∧ x1 / 64 = 2 ∧ 128 ≤ N2 then (2, (N2 : Int)) else wideFrom s i 3) else (0, 0) := by
    rw [wideFrom]
    by_cases hz : i + 2 ≤ s.size
    · rw [dif_pos ⟨by omega, hz⟩, if_pos hz, n2]
      by_cases h : x0 / 32 = 6 ∧ x1 / 64 = 2 ∧ 128 ≤ N2
      · rw [if_pos ((ok2 hz).2 h), if_pos h]; rfl
      · rw [if_neg (fun hh => h ((ok2 hz).1 hh)), if_neg h]
    · rw [dif_neg (fun h => hz h.2), if_neg hz]
  have w3 : wideFrom s i 3 = if i + 3 ≤ s.size then (if x0 / 16 = 14 ∧ x1 / 64 = 2 ∧ x2 / 64 = 2 ∧ 2048 ≤ N3 ∧ Utf8.valid (N3 : Int) = true then (3, (N3 : Int)) else wideFrom s i 4) else (0, 0) := by
    rw [wideFrom]
    by_cases hz : i + 3 ≤ s.size
    · rw [dif_pos ⟨by omega, hz⟩, if_pos hz, n3]
      by_cases h : x0 / 16 = 14 ∧ x1 / 64 = 2 ∧ x2 / 64 = 2 ∧ 2048 ≤ N3 ∧ Utf8.valid (N3 : Int) = true
      · rw [if_pos ((ok3 hz).2 h), if_pos h]; rfl
      · rw [if_neg (fun hh => h ((ok3 hz).1 hh)), if_neg h]
    · rw [dif_neg (fun h => hz h.2), if_neg hz]
  have w4 : wideFrom s i 4 = if i + 4 ≤ s.size then (if x0 / 8 = 30 ∧ x1 / 64 = 2 ∧ x2 / 64 = 2 ∧ x3 / 64 = 2 ∧ 65536 ≤ N4 ∧ Utf8.valid (N4 : Int) = true then (4, (N4 : Int)) else (0, 0)) else (0, 0) := by
    rw [wideFrom]
    by_cases hz : i + 4 ≤ s.size
    · rw [dif_pos ⟨by omega, hz⟩, if_pos hz, n4]
      by_cases h : x0 / 8 = 30 ∧ x1 / 64 = 2 ∧ x2 / 64 = 2 ∧ x3 / 64 = 2 ∧ 65536 ≤ N4 ∧ Utf8.valid (N4 : Int) = true
      · rw [if_pos ((ok4 hz).2 h), if_pos h]; rfl
      · rw [if_neg (fun hh => h ((ok4 hz).1 hh)), if_neg h, wideFrom, dif_neg (by omega)]
    · rw [dif_neg (fun h => hz h.2), if_neg hz]
  clear ok1 ok2 ok3 ok4 n1 n2 n3 n4
  rw [w1, w2, w3, w4, hc, hd]
  clear w1 w2 w3 w4 hc hd sc
  by_cases A1 : x0 < 128
  · rw [if_pos A1, if_pos A1, if_neg (fun h => by have h1 : x0 = 65533 := h.1; omega)]
    rfl
  rw [if_neg A1, if_neg A1]
  by_cases A2 : x0 / 32 = 6 ∧ (i + 1 < s.size ∧ x1 / 64 = 2)
  · rw [if_pos A2, if_pos (show i + 2 ≤ s.size by omega)]
    by_cases B : 128 ≤ N2
    · rw [if_pos B, if_pos ⟨A2.1, A2.2.2, B⟩, if_neg (fun h => by have h1 : N2 = 65533 := h.1; omega)]
      rfl
    · have g3 : ¬ (x0 / 16 = 14 ∧ x1 / 64 = 2 ∧ x2 / 64 = 2 ∧ 2048 ≤ N3 ∧ Utf8.valid (N3 : Int) = true) := fun h => by omega
      have g4 : ¬ (x0 / 8 = 30 ∧ x1 / 64 = 2 ∧ x2 / 64 = 2 ∧ x3 / 64 = 2 ∧ 65536 ≤ N4 ∧ Utf8.valid (N4 : Int) = true) := fun h => by omega
      have gl : ¬ (i + 3 ≤ s.size ∧ x0 = 239 ∧ x1 = 191 ∧ x2 = 189) := fun h => by omega
      rw [if_neg B, if_neg (fun h => B h.2.2), if_neg g3, if_neg g4, ite_self, ite_self, if_pos ⟨rfl, gl⟩]
  rw [if_neg A2]
  by_cases A3 : (x0 / 16 = 14 ∧ (i + 1 < s.size ∧ x1 / 64 = 2)) ∧ (i + 2 < s.size ∧ x2 / 64 = 2)
  · have g2 : ¬ (x0 / 32 = 6 ∧ x1 / 64 = 2 ∧ 128 ≤ N2) := fun h => by omega
    rw [if_pos A3, if_pos (show i + 2 ≤ s.size by omega), if_neg g2, if_pos (show i + 3 ≤ s.size by omega)]
    by_cases B : 2048 ≤ N3 ∧ Utf8.valid (N3 : Int) = true
    · have gl : ¬ (N3 = 65533 ∧ ¬ (i + 3 ≤ s.size ∧ x0 = 239 ∧ x1 = 191 ∧ x2 = 189)) := by
        rintro ⟨e1, e2⟩
        exact e2 ⟨by omega, by omega, by omega, by omega⟩
      rw [if_pos B, if_pos ⟨A3.1.1, A3.1.2.2, A3.2.2, B⟩, if_neg gl]
      rfl
    · have g4 : ¬ (x0 / 8 = 30 ∧ x1 / 64 = 2 ∧ x2 / 64 = 2 ∧ x3 / 64 = 2 ∧ 65536 ≤ N4 ∧ Utf8.valid (N4 : Int) = true) := fun h => by omega
      have gl : ¬ (i + 3 ≤ s.size ∧ x0 = 239 ∧ x1 = 191 ∧ x2 = 189) := by
        rintro ⟨z0, z1, z2, z3⟩
        subst z1 z2 z3
        have : N3 = 65533 := by omega
        subst this
        exact B ⟨by omega, by decide⟩
      rw [if_neg B, if_neg (fun h => B h.2.2.2), if_neg g4, ite_self, if_pos ⟨rfl, gl⟩]
  rw [if_neg A3]
  by_cases A4 : ((x0 / 8 = 30 ∧ (i + 1 < s.size ∧ x1 / 64 = 2)) ∧ (i + 2 < s.size ∧ x2 / 64 = 2)) ∧ (i + 3 < s.size ∧ x3 / 64 = 2)
  · have g2 : ¬ (x0 / 32 = 6 ∧ x1 / 64 = 2 ∧ 128 ≤ N2) := fun h => by omega
    have g3 : ¬ (x0 / 16 = 14 ∧ x1 / 64 = 2 ∧ x2 / 64 = 2 ∧ 2048 ≤ N3 ∧ Utf8.valid (N3 : Int) = true) := fun h => by omega
    rw [if_pos A4, if_pos (show i + 2 ≤ s.size by omega), if_neg g2, if_pos (show i + 3 ≤ s.size by omega), if_neg g3, if_pos (show i + 4 ≤ s.size by omega)]
    by_cases B : 65536 ≤ N4 ∧ Utf8.valid (N4 : Int) = true
    · rw [if_pos B, if_pos ⟨A4.1.1.1, A4.1.1.2.2, A4.1.2.2, A4.2.2, B⟩, if_neg (fun h => by have h1 : N4 = 65533 := h.1; omega)]
      rfl
    · have gl : ¬ (i + 3 ≤ s.size ∧ x0 = 239 ∧ x1 = 191 ∧ x2 = 189) := fun h => by omega
      rw [if_neg B, if_neg (fun h => B h.2.2.2.2), if_pos ⟨rfl, gl⟩]
  have gl : ¬ (i + 3 ≤ s.size ∧ x0 = 239 ∧ x1 = 191 ∧ x2 = 189) := by
    rintro ⟨z0, z1, z2, z3⟩
    exact A3 ⟨⟨by omega, by omega, by omega⟩, by omega, by omega⟩
  rw [if_neg A4]
  have hr : (if (65533 : Nat) = 65533 ∧ ¬ (i + 3 ≤ s.size ∧ x0 = 239 ∧ x1 = 191 ∧ x2 = 189) then (none : Option (Int × Nat)) else some ((65533 : Int), 1)) = none := if_pos ⟨rfl, gl⟩
  show _ = match (if (65533 : Nat) = 65533 ∧ ¬ (i + 3 ≤ s.size ∧ x0 = 239 ∧ x1 = 191 ∧ x2 = 189) then (none : Option (Int × Nat)) else some ((65533 : Int), 1)) with
    | some (n, k) => ((k : Int), n)
    | none => (0, 0)
  rw [hr]
  by_cases q2 : i + 2 ≤ s.size
  · rw [if_pos q2, if_neg (fun h => A2 ⟨h.1, by omega, h.2.1⟩)]
    by_cases q3 : i + 3 ≤ s.size
    · rw [if_pos q3, if_neg (fun h => A3 ⟨⟨h.1, by omega, h.2.1⟩, by omega, h.2.2.1⟩)]
      by_cases q4 : i + 4 ≤ s.size
      · rw [if_pos q4, if_neg (fun h => A4 ⟨⟨⟨h.1, by omega, h.2.1⟩, by omega, h.2.2.1⟩, by omega, h.2.2.2.1⟩)]
      · rw [if_neg q4]
    · rw [if_neg q3]
  · rw [if_neg q2]

end Go.Proofs.Cf
