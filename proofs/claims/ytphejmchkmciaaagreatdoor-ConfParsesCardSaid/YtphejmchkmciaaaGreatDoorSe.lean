/- The program's appended characters and string tokens. -/
import Derived.Test.YtphejmchkmciaaaGreatDoorSd
set_option maxRecDepth 100000
namespace Go.Proofs.Cf
open Go.WF

/-! ### Bits -/
theorem or_x (a : Nat) (m : Nat) (h : ∀ x : Fin m, ibits .or .u8 (a : Int) (x.val : Int) = (a : Int) + x.val) (y : Int) (h0 : 0 ≤ y) (h1 : y < m) : ibits .or .u8 a y = a + y := by
  have := h ⟨y.toNat, by omega⟩
  simp only [Int.toNat_of_nonneg h0] at this
  exact this

theorem or192 (y : Int) (h0 : 0 ≤ y) (h1 : y < 32) : ibits .or .u8 192 y = 192 + y := or_x 192 32 (by decide +kernel) y h0 h1
theorem or224 (y : Int) (h0 : 0 ≤ y) (h1 : y < 16) : ibits .or .u8 224 y = 224 + y := or_x 224 16 (by decide +kernel) y h0 h1
theorem or240 (y : Int) (h0 : 0 ≤ y) (h1 : y < 8) : ibits .or .u8 240 y = 240 + y := or_x 240 8 (by decide +kernel) y h0 h1
theorem or128 (y : Int) (h0 : 0 ≤ y) (h1 : y < 64) : ibits .or .u8 128 y = 128 + y := or_x 128 64 (by decide +kernel) y h0 h1

theorem and63 (y : Int) (h0 : 0 ≤ y) (h1 : y < 256) : ibits .and .u8 y 63 = y % 64 := by
  have h : ∀ x : Fin 256, ibits .and .u8 (x.val : Int) 63 = (x.val : Int) % 64 := by decide +kernel
  have := h ⟨y.toNat, by omega⟩
  simp only [Int.toNat_of_nonneg h0] at this
  exact this

theorem wrap8 (n : Int) : IntKind.wrap .u8 n = n % 256 := by
  simp [IntKind.wrap, IntKind.bits, IntKind.signed]

theorem wrapu32 {n : Int} (h0 : 0 ≤ n) (h1 : n < 4294967296) : IntKind.wrap .u32 n = n := by
  simp only [IntKind.wrap, IntKind.bits, IntKind.signed]
  simp
  omega

theorem shr6 (c : Int) (k : IntKind) (hk : 6 ≤ k.bits) : shrI k c 6 = c / 64 := by
  unfold shrI
  rw [Int.fdiv_eq_ediv_of_nonneg _ (by exact_mod_cast Nat.zero_le _)]
  rw [show min (6 : Int).toNat k.bits = 6 from Nat.min_eq_left hk]
  rfl

theorem shr12 (c : Int) (k : IntKind) (hk : 12 ≤ k.bits) : shrI k c 12 = c / 4096 := by
  unfold shrI
  rw [Int.fdiv_eq_ediv_of_nonneg _ (by exact_mod_cast Nat.zero_le _)]
  rw [show min (12 : Int).toNat k.bits = 12 from Nat.min_eq_left hk]
  rfl

theorem shr18 (c : Int) (k : IntKind) (hk : 18 ≤ k.bits) : shrI k c 18 = c / 262144 := by
  unfold shrI
  rw [Int.fdiv_eq_ediv_of_nonneg _ (by exact_mod_cast Nat.zero_le _)]
  rw [show min (18 : Int).toNat k.bits = 18 from Nat.min_eq_left hk]
  rfl

/-- A byte, as a cell. -/
theorem cellB {x : Int} (n : Nat) (h : x = (n : Int)) (hn : n < 256) : Value.int .u8 x = .int .u8 ((UInt8.ofNat n).toNat : Int) := by
  subst h
  rw [UInt8.toNat_ofNat']
  congr 2
  omega

theorem scalar_valid {c : Int} (h : scalar c = true) : 0 ≤ c ∧ c ≤ 1114111 ∧ (c < 55296 ∨ 57343 < c) ∧ Utf8.valid c = true := by
  simp only [scalar, Bool.and_eq_true, Bool.or_eq_true, decide_eq_true_eq] at h
  refine ⟨h.1.1, h.1.2, h.2, ?_⟩
  simp only [Utf8.valid, Bool.and_eq_true, Bool.or_eq_true, decide_eq_true_eq]
  omega

theorem utf1 {c : Int} (h : scalar c = true) (h1 : c < 128) : utf c = [UInt8.ofNat c.toNat] := by
  obtain ⟨h0, _, _, hv⟩ := scalar_valid h
  unfold utf Utf8.encode
  simp only [hv, if_true]
  rw [if_pos (by omega)]

theorem utf2 {c : Int} (h : scalar c = true) (h0 : 128 ≤ c) (h1 : c < 2048) : utf c = [UInt8.ofNat (192 + c.toNat / 64), UInt8.ofNat (128 + c.toNat % 64)] := by
  obtain ⟨_, _, _, hv⟩ := scalar_valid h
  unfold utf Utf8.encode
  simp only [hv, if_true]
  rw [if_neg (by omega), if_pos (by omega)]

theorem utf3 {c : Int} (h : scalar c = true) (h0 : 2048 ≤ c) (h1 : c < 65536) : utf c = [UInt8.ofNat (224 + c.toNat / 4096), UInt8.ofNat (128 + c.toNat / 64 % 64), UInt8.ofNat (128 + c.toNat % 64)] := by
  obtain ⟨_, _, _, hv⟩ := scalar_valid h
  unfold utf Utf8.encode
  simp only [hv, if_true]
  rw [if_neg (by omega), if_neg (by omega), if_pos (by omega)]

theorem utf4 {c : Int} (h : scalar c = true) (h0 : 65536 ≤ c) : utf c = [UInt8.ofNat (240 + c.toNat / 262144), UInt8.ofNat (128 + c.toNat / 4096 % 64), UInt8.ofNat (128 + c.toNat / 64 % 64), UInt8.ofNat (128 + c.toNat % 64)] := by
  obtain ⟨_, _, _, hv⟩ := scalar_valid h
  unfold utf Utf8.encode
  simp only [hv, if_true]
  rw [if_neg (by omega), if_neg (by omega), if_neg (by omega)]

theorem utf_len {c : Int} (h : scalar c = true) : (utf c).length ≤ 4 := by
  by_cases h1 : c < 128
  · rw [utf1 h h1]; simp
  by_cases h2 : c < 2048
  · rw [utf2 h (by omega) h2]; simp
  by_cases h3 : c < 65536
  · rw [utf3 h (by omega) h3]; simp
  · rw [utf4 h (by omega)]; simp

/-! ### Bytes that are appended -/
theorem info5 : Tryz.prog.info? 5 = some Tryz.t5 := by kernel_rfl

/-- A call that appends to a row of bytes. -/
abbrev Adds (base : Nat) (v : Sl) (acc news : List UInt8) (w : World) : Ending → World → Prop := fun x w' =>
  ∃ v' : Sl, x = .returned (tupOf [.slice v'.a v'.len v'.cap]) ∧ Keep (rowB v) w w' ∧ Row base w' 5 1 v' (acc ++ news).length (bcells (acc ++ news))

theorem wAddB {base : Nat} {w : World} {v : Sl} {acc : List UInt8} (news : List UInt8) {k : Nat} {parts : Array (Nat × Value)} (hr : Row base w 5 1 v acc.length (bcells acc)) (hbase : base ≤ w.heap.size) (hacc : acc.length ≤ 1073741824) (hk : k = news.length) (hk4 : k ≤ 4)
    (hf : fillRow 1 #[.int .u8 0] k parts.toList = some (bcells news).toArray) :
    (T.op (vOf (Instr.buildSlice 86 k parts)) [.b .slice] fun (x0 : Sl × Unit) =>
      T.op (vOf (Builtin.append_ #[86, 86] 86 #[.slice v.a v.len v.cap, .slice x0.1.a x0.1.len x0.1.cap])) [.b .slice] fun (x1 : Sl × Unit) =>
      T.ret [.slice x1.1.a x1.1.len x1.1.cap]).wp Tryz.prog (Adds base v acc news w) w := by
  have H0 : ST w [] w [] := ST.nil [] w
  refine wBuild H0 (bcells news) Tryz.underlying86 info5 (z := .int .u8 0) rfl (by rw [show Tryz.t5.size = 1 from rfl]; omega) hf fun b w1 hb H => ?_
  have hr1 : Row base w1 5 1 v acc.length (bcells acc) := hr.keep H.keep (by simp)
  have hgb : Blk w1 b (bcells news) 5 := H.get (i := 0) rfl
  refine wAppR (news := bcells news) (x := ⟨some ⟨b, 0, none⟩, k, k⟩) Tryz.underlying86 info5 (z := .int .u8 0) rfl rfl (by decide) hr1 rfl (m := k) (by rw [show Tryz.t5.size = 1 from rfl, hk]; simp) rfl (cellsAt_blk hgb _ 0 fun j u hj => by simpa using hj) (by simp [Value.oneCell'])
    (by rw [hk] at hk4; simp only [maxLen]; omega) (by rw [show Tryz.t5.bytes = 1 from rfl]; omega) (Nat.le_trans hbase H.keep.size) fun v' w2 hr2 hk2 => ?_
  refine wRet ⟨v', rfl, (H.keep.mono (by simp)).trans hk2 (fun x hx _ => hx), ?_⟩
  have : (bcells (acc ++ news)) = bcells acc ++ bcells news := by simp
  rw [this, List.length_append, ← hk]
  exact hr2


theorem fillB0 : fillRow 1 #[.int .u8 0] 0 [] = some #[] := by kernel_rfl
theorem fillB1 (a : Int) : fillRow 1 #[.int .u8 0] 1 [(0, .int .u8 a)] = some #[.int .u8 a] := by kernel_rfl
theorem fillB2 (a b : Int) : fillRow 1 #[.int .u8 0] 2 [(0, .int .u8 a), (1, .int .u8 b)] = some #[.int .u8 a, .int .u8 b] := by kernel_rfl
theorem fillB3 (a b c : Int) : fillRow 1 #[.int .u8 0] 3 [(0, .int .u8 a), (1, .int .u8 b), (2, .int .u8 c)] = some #[.int .u8 a, .int .u8 b, .int .u8 c] := by kernel_rfl
theorem fillB4 (a b c d : Int) : fillRow 1 #[.int .u8 0] 4 [(0, .int .u8 a), (1, .int .u8 b), (2, .int .u8 c), (3, .int .u8 d)] = some #[.int .u8 a, .int .u8 b, .int .u8 c, .int .u8 d] := by kernel_rfl

theorem nonAscii_c {base : Nat} {w : World} {v : Sl} {acc : List UInt8} (c : Int) (hc : scalar c = true) (h128 : 128 ≤ c) (hr : Row base w 5 1 v acc.length (bcells acc)) (hbase : base ≤ w.heap.size) (hacc : acc.length ≤ 1073741824) :
    Calls Tryz.prog 72 [.slice v.a v.len v.cap, .int .i32 c].toArray w (Adds base v acc (utf c) w) := by
  obtain ⟨h0, hmax, hsur, _⟩ := scalar_valid hc
  refine calls_tree hm Tryz.func72 (d72_ok v c) ?_
  unfold d72
  rw [wrapu32 h0 (by omega)]
  have b3 : IntKind.wrap .u8 (shrI .i32 c 6) = c / 64 % 256 := by rw [wrap8, shr6 _ _ (by decide)]
  have b2 : IntKind.wrap .u8 (shrI .i32 c 12) = c / 4096 % 256 := by rw [wrap8, shr12 _ _ (by decide)]
  have b1 : IntKind.wrap .u8 (shrI .i32 c 18) = c / 262144 % 256 := by rw [wrap8, shr18 _ _ (by decide)]
  have b4 : IntKind.wrap .u8 c = c % 256 := wrap8 c
  have lo : ∀ y : Int, 0 ≤ y → ibits .or .u8 128 (ibits .and .u8 (y % 256) 63) = 128 + y % 64 := fun y hy => by
    rw [and63 _ (by omega) (by omega), or128 _ (by omega) (by omega)]
    omega
  have f1 : Value.int .u8 (128 + c / 4096 % 64) = .int .u8 ((UInt8.ofNat (128 + c.toNat / 4096 % 64)).toNat : Int) := cellB _ (by omega) (by omega)
  have f2 : Value.int .u8 (128 + c / 64 % 64) = .int .u8 ((UInt8.ofNat (128 + c.toNat / 64 % 64)).toNat : Int) := cellB _ (by omega) (by omega)
  have f3 : Value.int .u8 (128 + c % 64) = .int .u8 ((UInt8.ofNat (128 + c.toNat % 64)).toNat : Int) := cellB _ (by omega) (by omega)
  refine wIf (fun h => ?_) (fun h => ?_)
  · simp only [decide_eq_true_eq] at h
    rw [utf2 hc h128 (by omega)]
    refine wAddB _ hr hbase hacc rfl (by decide) ?_
    have e1 : Value.int .u8 (192 + c / 64 % 256) = .int .u8 ((UInt8.ofNat (192 + c.toNat / 64)).toNat : Int) := cellB _ (by omega) (by omega)
    rw [b3, b4, or192 _ (by omega) (by omega), lo c h0, e1, f3]
    exact fillB2 _ _
  simp only [decide_eq_false_iff_not] at h
  refine wBlkK (fun xs w' => w' = w ∧ xs.1 = decide (c < 65536)) ?_ (fun rest => ?_)
  · rintro ⟨b, ⟨⟩⟩ w' ⟨rfl, hb⟩
    simp only [] at hb
    subst hb
    refine wIf (fun h3 => ?_) (fun h3 => ?_)
    · simp only [decide_eq_true_eq] at h3
      rw [utf3 hc (by omega) h3]
      refine wAddB _ hr hbase hacc rfl (by decide) ?_
      have e1 : Value.int .u8 (224 + c / 4096 % 256) = .int .u8 ((UInt8.ofNat (224 + c.toNat / 4096)).toNat : Int) := cellB _ (by omega) (by omega)
      rw [b2, b3, b4, or224 _ (by omega) (by omega), lo (c / 64) (by omega), lo c h0, e1, f2, f3]
      exact fillB3 _ _ _
    · simp only [decide_eq_false_iff_not] at h3
      refine wBlk ?_
      refine wIf (fun h4 => ?_) (fun h4 => by simp only [decide_eq_false_iff_not] at h4; omega)
      refine wJump (_, ()) rfl ?_
      refine wIft (by simp; omega) ?_
      rw [utf4 hc (by omega)]
      refine wAddB _ hr hbase hacc rfl (by decide) ?_
      have e1 : Value.int .u8 (240 + c / 262144 % 256) = .int .u8 ((UInt8.ofNat (240 + c.toNat / 262144)).toNat : Int) := cellB _ (by omega) (by omega)
      rw [b1, b2, b3, b4, or240 _ (by omega) (by omega), lo (c / 4096) (by omega), lo (c / 64) (by omega), lo c h0, e1, f1, f2, f3]
      exact fillB4 _ _ _ _
  · refine wIf (fun h3 => wJump (_, ()) rfl (rest _ _ ⟨rfl, ?_⟩)) (fun h3 => ?_)
    · simp only [decide_eq_true_eq] at h3
      show decide _ = decide _
      apply decide_eq_decide.2
      omega
    · simp only [decide_eq_false_iff_not] at h3
      refine wIf (fun h4 => wJump (_, ()) rfl (rest _ _ ⟨rfl, ?_⟩)) (fun h4 => by simp only [decide_eq_false_iff_not] at h4; omega)
      show decide _ = decide _
      apply decide_eq_decide.2
      omega

theorem appendRune_c {base : Nat} {w : World} {v : Sl} {acc : List UInt8} (c : Int) (hc : scalar c = true) (hr : Row base w 5 1 v acc.length (bcells acc)) (hbase : base ≤ w.heap.size) (hacc : acc.length ≤ 1073741824) :
    Calls Tryz.prog 46 [.slice v.a v.len v.cap, .int .i32 c].toArray w (Adds base v acc (utf c) w) := by
  obtain ⟨h0, hmax, hsur, _⟩ := scalar_valid hc
  refine calls_tree hm Tryz.func46 (d46_ok v c) ?_
  unfold d46
  rw [wrapu32 h0 (by omega)]
  refine wIf (fun h => ?_) (fun h => ?_)
  · simp only [decide_eq_true_eq] at h
    rw [utf1 hc (by omega)]
    refine wAddB _ hr hbase hacc rfl (by decide) ?_
    have e1 : Value.int .u8 (c % 256) = .int .u8 ((UInt8.ofNat c.toNat).toNat : Int) := cellB _ (by omega) (by omega)
    rw [wrap8, e1]
    exact fillB1 _
  · simp only [decide_eq_false_iff_not] at h
    refine wCall (nonAscii_c c hc (by omega) hr hbase hacc) ?_
    rintro x w' ⟨v', rfl, hk, hr'⟩
    exact ⟨(v', ()), rfl, wRet ⟨v', rfl, hk, hr'⟩⟩

end Go.Proofs.Cf
