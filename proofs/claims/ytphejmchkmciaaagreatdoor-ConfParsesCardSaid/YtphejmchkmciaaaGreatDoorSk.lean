/- The keys of a resource file: their names, what they take; and the program's table of them. -/
import Derived.Test.YtphejmchkmciaaaGreatDoorSj
set_option maxRecDepth 100000
namespace Go.Proofs.Cf
open Go.WF

/-- A key: its section, its name, its lowest and highest value, is it a block's size, the words that it takes and what they mean, its cell in a Config, its value where it is missing. -/
structure KD where
  sec : ByteArray
  nm : ByteArray
  lo : Int
  hi : Int
  sz : Bool
  ws : List ByteArray
  vs : List Int
  cell : Nat
  dflt : Int

/-- protocol -/
def key0 : KD := ⟨(bs []), (bs [112, 114, 111, 116, 111, 99, 111, 108]), 0, 0, false, [(bs [65]), (bs [66]), (bs [67])], [1, 2, 3], 4, 3⟩
/-- blocks -/
def key1 : KD := ⟨(bs [100, 101, 118, 105, 99, 101]), (bs [98, 108, 111, 99, 107, 115]), 1, 4096, false, [], [], 1, -1⟩
/-- block-size -/
def key2 : KD := ⟨(bs [100, 101, 118, 105, 99, 101]), (bs [98, 108, 111, 99, 107, 45, 115, 105, 122, 101]), 128, 1024, true, [], [], 2, -1⟩
/-- al-slots -/
def key3 : KD := ⟨(bs [100, 101, 118, 105, 99, 101]), (bs [97, 108, 45, 115, 108, 111, 116, 115]), 1, 16, false, [], [], 3, 4⟩
/-- window -/
def key4 : KD := ⟨(bs [110, 101, 116]), (bs [119, 105, 110, 100, 111, 119]), 1, 64, false, [], [], 5, 8⟩
/-- backlog -/
def key5 : KD := ⟨(bs [110, 101, 116]), (bs [98, 97, 99, 107, 108, 111, 103]), 1, 1024, false, [], [], 6, 256⟩
/-- resend -/
def key6 : KD := ⟨(bs [110, 101, 116]), (bs [114, 101, 115, 101, 110, 100]), 1, 1000, false, [], [], 7, 3⟩
/-- timeout -/
def key7 : KD := ⟨(bs [110, 101, 116]), (bs [116, 105, 109, 101, 111, 117, 116]), 1, 1000, false, [], [], 8, 20⟩
/-- max-epoch-size -/
def key8 : KD := ⟨(bs [110, 101, 116]), (bs [109, 97, 120, 45, 101, 112, 111, 99, 104, 45, 115, 105, 122, 101]), 1, 64, false, [], [], 9, 16⟩
/-- max-queue -/
def key9 : KD := ⟨(bs [110, 101, 116]), (bs [109, 97, 120, 45, 113, 117, 101, 117, 101]), 1, 256, false, [], [], 10, 32⟩
/-- after-sb-0pri -/
def key10 : KD := ⟨(bs [110, 101, 116]), (bs [97, 102, 116, 101, 114, 45, 115, 98, 45, 48, 112, 114, 105]), 0, 0, false, [(bs [100, 105, 115, 99, 111, 110, 110, 101, 99, 116]), (bs [100, 105, 115, 99, 97, 114, 100, 45, 122, 101, 114, 111, 45, 99, 104, 97, 110, 103, 101, 115]), (bs [100, 105, 115, 99, 97, 114, 100, 45, 108, 101, 97, 115, 116, 45, 99, 104, 97, 110, 103, 101, 115]), (bs [100, 105, 115, 99, 97, 114, 100, 45, 110, 111, 100, 101, 45, 48]), (bs [100, 105, 115, 99, 97, 114, 100, 45, 110, 111, 100, 101, 45, 49])], [0, 1, 2, 3, 4], 12, 0⟩
/-- after-sb-1pri -/
def key11 : KD := ⟨(bs [110, 101, 116]), (bs [97, 102, 116, 101, 114, 45, 115, 98, 45, 49, 112, 114, 105]), 0, 0, false, [(bs [100, 105, 115, 99, 111, 110, 110, 101, 99, 116]), (bs [100, 105, 115, 99, 97, 114, 100, 45, 115, 101, 99, 111, 110, 100, 97, 114, 121]), (bs [99, 111, 110, 115, 101, 110, 115, 117, 115])], [0, 5, 6], 13, 0⟩
/-- after-sb-2pri -/
def key12 : KD := ⟨(bs [110, 101, 116]), (bs [97, 102, 116, 101, 114, 45, 115, 98, 45, 50, 112, 114, 105]), 0, 0, false, [(bs [100, 105, 115, 99, 111, 110, 110, 101, 99, 116])], [0], 14, 0⟩
/-- rate -/
def key13 : KD := ⟨(bs [115, 121, 110, 99, 101, 114]), (bs [114, 97, 116, 101]), 1, 1024, false, [], [], 15, 4⟩
/-- burst -/
def key14 : KD := ⟨(bs [115, 121, 110, 99, 101, 114]), (bs [98, 117, 114, 115, 116]), 1, 1024, false, [], [], 16, 8⟩
/-- ahead -/
def key15 : KD := ⟨(bs [115, 121, 110, 99, 101, 114]), (bs [97, 104, 101, 97, 100]), 1, 64, false, [], [], 17, 4⟩

/-- The key of a number. -/
def kd : Nat → KD
  | 0 => key0
  | 1 => key1
  | 2 => key2
  | 3 => key3
  | 4 => key4
  | 5 => key5
  | 6 => key6
  | 7 => key7
  | 8 => key8
  | 9 => key9
  | 10 => key10
  | 11 => key11
  | 12 => key12
  | 13 => key13
  | 14 => key14
  | 15 => key15
  | _ => key0

/-- The number of the key of that name in a section, from i on. -/
def findFrom (sec nm : ByteArray) (i : Nat) : Option Nat :=
  if h : i < 16 then (if (kd i).sec = sec ∧ (kd i).nm = nm then some i else findFrom sec nm (i + 1)) else none
termination_by 16 - i

/-- What a word means, of some words. -/
def wordV (v : ByteArray) : List ByteArray → List Int → Option Int
  | x :: xs, n :: ns => if x = v then some n else wordV v xs ns
  | _, _ => none

/-- What a text means for a key. -/
def valK (k : KD) (v : ByteArray) : Option Int :=
  match k.ws with
  | [] => match numV v with
    | some n => if (k.lo ≤ n ∧ n ≤ k.hi) ∧ (k.sz = true → n = 128 ∨ n = 256 ∨ n = 512 ∨ n = 1024) then some n else none
    | none => none
  | _ => wordV v k.ws k.vs

/-! ### The program's table -/
theorem info9 : Tryz.prog.info? 9 = some Tryz.t9 := by kernel_rfl
theorem info3 : Tryz.prog.info? 3 = some Tryz.t3 := by kernel_rfl
theorem info83 : Tryz.prog.info? 83 = some Tryz.t83 := by kernel_rfl

/-- Some cells stand there, in memory that is younger than base. -/
def At (base : Nat) (w : World) (a : Addr) (vs : List Value) : Prop := base ≤ a.block ∧ cellsAt w a vs

theorem cellsAt_keep {S : List Nat} {w w' : World} (hk : Keep S w w') : ∀ {vs : List Value} {a : Addr}, a.block ∉ S → cellsAt w a vs → cellsAt w' a vs
  | [], _, _, _ => trivial
  | v :: vs, a, ha, h => by
    refine ⟨?_, cellsAt_keep hk (a := a.add 1) (by unfold Addr.add; split <;> exact ha) h.2⟩
    have h1 := h.1
    have hlt : a.block < w.heap.size := World.block_lt_of_cell? w a h1
    rw [← h1]
    exact World.cell?_of_block (hk.block _ hlt ha)

theorem At.keep {base : Nat} {S : List Nat} {w w' : World} {a : Addr} {vs : List Value} (h : At base w a vs) (hk : Keep S w w') (hs : ∀ x ∈ S, x < base) : At base w' a vs :=
  ⟨h.1, cellsAt_keep hk (fun hm => by have := hs _ hm; have := h.1; omega) h.2⟩

/-- The cells of a key. -/
abbrev keyCells (k : KD) (f : Nat) (ws vs : Sl) : List Value := [.string k.sec, .string k.nm, .int .i64 k.lo, .int .i64 k.hi, .bool k.sz, .slice ws.a ws.len ws.cap, .slice vs.a vs.len vs.cap, .func (.func f) #[] #[]]

/-- A key of the program's table lies there. -/
def KeyAt (base : Nat) (w : World) (a : Addr) (k : KD) (f : Nat) : Prop :=
  ∃ ws vs : Sl, At base w a (keyCells k f ws vs) ∧ (k.ws = [] → ws.a = none) ∧
    (k.ws ≠ [] → ∃ wa va, ws.a = some wa ∧ ws.len = k.ws.length ∧ At base w wa (k.ws.map .string) ∧ vs.a = some va ∧ vs.len = k.ws.length ∧ At base w va (k.vs.map (.int .i64)))

theorem KeyAt.keep {base : Nat} {S : List Nat} {w w' : World} {a : Addr} {k : KD} {f : Nat} (h : KeyAt base w a k f) (hk : Keep S w w') (hs : ∀ x ∈ S, x < base) : KeyAt base w' a k f := by
  obtain ⟨ws, vs, h1, h2, h3⟩ := h
  exact ⟨ws, vs, h1.keep hk hs, h2, fun hn => by
    obtain ⟨wa, va, a1, a2, a3, a4, a5, a6⟩ := h3 hn
    exact ⟨wa, va, a1, a2, a3.keep hk hs, a4, a5, a6.keep hk hs⟩⟩

theorem cellsAt_sub {w : World} {b : Nat} {cs : List Value} {e : TypeId} (h : Blk w b cs e) (o n : Nat) {vs : List Value} (hv : (cs.drop o).take n = vs) : cellsAt w ⟨b, o, none⟩ vs :=
  cellsAt_blk h vs o fun j u hj => by
    rw [← hv, List.getElem?_take] at hj
    split at hj
    · rwa [List.getElem?_drop] at hj
    · cases hj

theorem fillS1 (a0 : ByteArray) : fillRow 1 #[.string ⟨#[]⟩] 1 [(0, .string a0)] = some #[.string a0] := by kernel_rfl
theorem fillI1 (a0 : Int) : fillRow 1 #[.int .i64 0] 1 [(0, .int .i64 a0)] = some #[.int .i64 a0] := by kernel_rfl
theorem fillS3 (a0 a1 a2 : ByteArray) : fillRow 1 #[.string ⟨#[]⟩] 3 [(0, .string a0), (1, .string a1), (2, .string a2)] = some #[.string a0, .string a1, .string a2] := by kernel_rfl
theorem fillI3 (a0 a1 a2 : Int) : fillRow 1 #[.int .i64 0] 3 [(0, .int .i64 a0), (1, .int .i64 a1), (2, .int .i64 a2)] = some #[.int .i64 a0, .int .i64 a1, .int .i64 a2] := by kernel_rfl
theorem fillS5 (a0 a1 a2 a3 a4 : ByteArray) : fillRow 1 #[.string ⟨#[]⟩] 5 [(0, .string a0), (1, .string a1), (2, .string a2), (3, .string a3), (4, .string a4)] = some #[.string a0, .string a1, .string a2, .string a3, .string a4] := by kernel_rfl
theorem fillI5 (a0 a1 a2 a3 a4 : Int) : fillRow 1 #[.int .i64 0] 5 [(0, .int .i64 a0), (1, .int .i64 a1), (2, .int .i64 a2), (3, .int .i64 a3), (4, .int .i64 a4)] = some #[.int .i64 a0, .int .i64 a1, .int .i64 a2, .int .i64 a3, .int .i64 a4] := by kernel_rfl

/-- The program's table, cell by cell. -/
def tableC (x0 x1 x2 x3 x4 x5 x6 x7 : Sl) : List Value := [.string (bs []), .string (bs [112, 114, 111, 116, 111, 99, 111, 108]), .int .i64 0, .int .i64 0, .bool false, .slice x1.a x1.len x1.cap, .slice x2.a x2.len x2.cap, .func (.func 48) #[] #[],
  .string (bs [100, 101, 118, 105, 99, 101]), .string (bs [98, 108, 111, 99, 107, 115]), .int .i64 1, .int .i64 4096, .bool false, .slice none 0 0, .slice none 0 0, .func (.func 49) #[] #[],
  .string (bs [100, 101, 118, 105, 99, 101]), .string (bs [98, 108, 111, 99, 107, 45, 115, 105, 122, 101]), .int .i64 128, .int .i64 1024, .bool true, .slice none 0 0, .slice none 0 0, .func (.func 50) #[] #[],
  .string (bs [100, 101, 118, 105, 99, 101]), .string (bs [97, 108, 45, 115, 108, 111, 116, 115]), .int .i64 1, .int .i64 16, .bool false, .slice none 0 0, .slice none 0 0, .func (.func 51) #[] #[],
  .string (bs [110, 101, 116]), .string (bs [119, 105, 110, 100, 111, 119]), .int .i64 1, .int .i64 64, .bool false, .slice none 0 0, .slice none 0 0, .func (.func 52) #[] #[],
  .string (bs [110, 101, 116]), .string (bs [98, 97, 99, 107, 108, 111, 103]), .int .i64 1, .int .i64 1024, .bool false, .slice none 0 0, .slice none 0 0, .func (.func 53) #[] #[],
  .string (bs [110, 101, 116]), .string (bs [114, 101, 115, 101, 110, 100]), .int .i64 1, .int .i64 1000, .bool false, .slice none 0 0, .slice none 0 0, .func (.func 54) #[] #[],
  .string (bs [110, 101, 116]), .string (bs [116, 105, 109, 101, 111, 117, 116]), .int .i64 1, .int .i64 1000, .bool false, .slice none 0 0, .slice none 0 0, .func (.func 55) #[] #[],
  .string (bs [110, 101, 116]), .string (bs [109, 97, 120, 45, 101, 112, 111, 99, 104, 45, 115, 105, 122, 101]), .int .i64 1, .int .i64 64, .bool false, .slice none 0 0, .slice none 0 0, .func (.func 56) #[] #[],
  .string (bs [110, 101, 116]), .string (bs [109, 97, 120, 45, 113, 117, 101, 117, 101]), .int .i64 1, .int .i64 256, .bool false, .slice none 0 0, .slice none 0 0, .func (.func 57) #[] #[],
  .string (bs [110, 101, 116]), .string (bs [97, 102, 116, 101, 114, 45, 115, 98, 45, 48, 112, 114, 105]), .int .i64 0, .int .i64 0, .bool false, .slice x0.a x0.len x0.cap, .slice x3.a x3.len x3.cap, .func (.func 58) #[] #[],
  .string (bs [110, 101, 116]), .string (bs [97, 102, 116, 101, 114, 45, 115, 98, 45, 49, 112, 114, 105]), .int .i64 0, .int .i64 0, .bool false, .slice x4.a x4.len x4.cap, .slice x5.a x5.len x5.cap, .func (.func 59) #[] #[],
  .string (bs [110, 101, 116]), .string (bs [97, 102, 116, 101, 114, 45, 115, 98, 45, 50, 112, 114, 105]), .int .i64 0, .int .i64 0, .bool false, .slice x6.a x6.len x6.cap, .slice x7.a x7.len x7.cap, .func (.func 60) #[] #[],
  .string (bs [115, 121, 110, 99, 101, 114]), .string (bs [114, 97, 116, 101]), .int .i64 1, .int .i64 1024, .bool false, .slice none 0 0, .slice none 0 0, .func (.func 61) #[] #[],
  .string (bs [115, 121, 110, 99, 101, 114]), .string (bs [98, 117, 114, 115, 116]), .int .i64 1, .int .i64 1024, .bool false, .slice none 0 0, .slice none 0 0, .func (.func 62) #[] #[],
  .string (bs [115, 121, 110, 99, 101, 114]), .string (bs [97, 104, 101, 97, 100]), .int .i64 1, .int .i64 64, .bool false, .slice none 0 0, .slice none 0 0, .func (.func 63) #[] #[]]

theorem fillK (x0 x1 x2 x3 x4 x5 x6 x7 : Sl) : fillRow 8 #[.string ⟨#[]⟩, .string ⟨#[]⟩, .int .i64 0, .int .i64 0, .bool false, .slice none 0 0, .slice none 0 0, .nilFunc] 16 [(0, .agg #[.string (bs []), .string (bs [112, 114, 111, 116, 111, 99, 111, 108]), .int .i64 0, .int .i64 0, .bool false, .slice x1.a x1.len x1.cap, .slice x2.a x2.len x2.cap, .func (.func 48) #[] #[]]), (1, .agg #[.string (bs [100, 101, 118, 105, 99, 101]), .string (bs [98, 108, 111, 99, 107, 115]), .int .i64 1, .int .i64 4096, .bool false, .slice none 0 0, .slice none 0 0, .func (.func 49) #[] #[]]), (2, .agg #[.string (bs [100, 101, 118, 105, 99, 101]), .string (bs [98, 108, 111, 99, 107, 45, 115, 105, 122, 101]), .int .i64 128, .int .i64 1024, .bool true, .slice none 0 0, .slice none 0 0, .func (.func 50) #[] #[]]), (3, .agg #[.string (bs [100, 101, 118, 105, 99, 101]), .string (bs [97, 108, 45, 115, 108, 111, 116, 115]), .int .i64 1, .int .i64 16, .bool false, .slice none 0 0, .slice none 0 0, .func (.func 51) #[] #[]]), (4, .agg #[.string (bs [110, 101, 116]), .string (bs [119, 105, 110, 100, 111, 119]), .int .i64 1, .int .i64 64, .bool false, .slice none 0 0, .slice none 0 0, .func (.func 52) #[] #[]]), (5, .agg #[.string (bs [110, 101, 116]), .string (bs [98, 97, 99, 107, 108, 111, 103]), .int .i64 1, .int .i64 1024, .bool false, .slice none 0 0, .slice none 0 0, .func (.func 53) #[] #[]]), (6, .agg #[.string (bs [110, 101, 116]), .string (bs [114, 101, 115, 101, 110, 100]), .int .i64 1, .int .i64 1000, .bool false, .slice none 0 0, .slice none 0 0, .func (.func 54) #[] #[]]), (7, .agg #[.string (bs [110, 101, 116]), .string (bs [116, 105, 109, 101, 111, 117, 116]), .int .i64 1, .int .i64 1000, .bool false, .slice none 0 0, .slice none 0 0, .func (.func 55) #[] #[]]), (8, .agg #[.string (bs [110, 101, 116]), .string (bs [109, 97, 120, 45, 101, 112, 111, 99, 104, 45, 115, 105, 122, 101]), .int .i64 1, .int .i64 64, .bool false, .slice none 0 0, .slice none 0 0, .func (.func 56) #[] #[]]), (9, .agg #[.string (bs [110, 101, 116]), .string (bs [109, 97, 120, 45, 113, 117, 101, 117, 101]), .int .i64 1, .int .i64 256, .bool false, .slice none 0 0, .slice none 0 0, .func (.func 57) #[] #[]]), (10, .agg #[.string (bs [110, 101, 116]), .string (bs [97, 102, 116, 101, 114, 45, 115, 98, 45, 48, 112, 114, 105]), .int .i64 0, .int .i64 0, .bool false, .slice x0.a x0.len x0.cap, .slice x3.a x3.len x3.cap, .func (.func 58) #[] #[]]), (11, .agg #[.string (bs [110, 101, 116]), .string (bs [97, 102, 116, 101, 114, 45, 115, 98, 45, 49, 112, 114, 105]), .int .i64 0, .int .i64 0, .bool false, .slice x4.a x4.len x4.cap, .slice x5.a x5.len x5.cap, .func (.func 59) #[] #[]]), (12, .agg #[.string (bs [110, 101, 116]), .string (bs [97, 102, 116, 101, 114, 45, 115, 98, 45, 50, 112, 114, 105]), .int .i64 0, .int .i64 0, .bool false, .slice x6.a x6.len x6.cap, .slice x7.a x7.len x7.cap, .func (.func 60) #[] #[]]), (13, .agg #[.string (bs [115, 121, 110, 99, 101, 114]), .string (bs [114, 97, 116, 101]), .int .i64 1, .int .i64 1024, .bool false, .slice none 0 0, .slice none 0 0, .func (.func 61) #[] #[]]), (14, .agg #[.string (bs [115, 121, 110, 99, 101, 114]), .string (bs [98, 117, 114, 115, 116]), .int .i64 1, .int .i64 1024, .bool false, .slice none 0 0, .slice none 0 0, .func (.func 62) #[] #[]]), (15, .agg #[.string (bs [115, 121, 110, 99, 101, 114]), .string (bs [97, 104, 101, 97, 100]), .int .i64 1, .int .i64 64, .bool false, .slice none 0 0, .slice none 0 0, .func (.func 63) #[] #[]])] = some (tableC x0 x1 x2 x3 x4 x5 x6 x7).toArray := by kernel_rfl

theorem allKeys_c (w : World) : Calls Tryz.prog 36 #[] w fun x w' => ∃ b, x = .returned (tupOf [.slice (some ⟨b, 0, none⟩) 16 16]) ∧ Keep [] w w' ∧ ∀ i, i < 16 → KeyAt w.heap.size w' ⟨b, 8 * i, none⟩ (kd i) (48 + i) := by
  refine calls_tree hm Tryz.func36 d36_ok ?_
  unfold d36
  have H : ST w [] w [] := ST.nil [] w

  refine wBuild H [.string (bs [100, 105, 115, 99, 111, 110, 110, 101, 99, 116]), .string (bs [100, 105, 115, 99, 97, 114, 100, 45, 122, 101, 114, 111, 45, 99, 104, 97, 110, 103, 101, 115]), .string (bs [100, 105, 115, 99, 97, 114, 100, 45, 108, 101, 97, 115, 116, 45, 99, 104, 97, 110, 103, 101, 115]), .string (bs [100, 105, 115, 99, 97, 114, 100, 45, 110, 111, 100, 101, 45, 48]), .string (bs [100, 105, 115, 99, 97, 114, 100, 45, 110, 111, 100, 101, 45, 49])] Tryz.underlying79 info9 (z := .string ⟨#[]⟩) rfl (by decide) (fillS5 _ _ _ _ _) fun b0 w0 hb0 H => ?_
  refine wBuild H [.string (bs [65]), .string (bs [66]), .string (bs [67])] Tryz.underlying79 info9 (z := .string ⟨#[]⟩) rfl (by decide) (fillS3 _ _ _) fun b1 w1 hb1 H => ?_
  refine wBuild H [.int .i64 1, .int .i64 2, .int .i64 3] Tryz.underlying80 info3 (z := .int .i64 0) rfl (by decide) (fillI3 _ _ _) fun b2 w2 hb2 H => ?_
  refine wBuild H [.int .i64 0, .int .i64 1, .int .i64 2, .int .i64 3, .int .i64 4] Tryz.underlying80 info3 (z := .int .i64 0) rfl (by decide) (fillI5 _ _ _ _ _) fun b3 w3 hb3 H => ?_
  refine wBuild H [.string (bs [100, 105, 115, 99, 111, 110, 110, 101, 99, 116]), .string (bs [100, 105, 115, 99, 97, 114, 100, 45, 115, 101, 99, 111, 110, 100, 97, 114, 121]), .string (bs [99, 111, 110, 115, 101, 110, 115, 117, 115])] Tryz.underlying79 info9 (z := .string ⟨#[]⟩) rfl (by decide) (fillS3 _ _ _) fun b4 w4 hb4 H => ?_
  refine wBuild H [.int .i64 0, .int .i64 5, .int .i64 6] Tryz.underlying80 info3 (z := .int .i64 0) rfl (by decide) (fillI3 _ _ _) fun b5 w5 hb5 H => ?_
  refine wBuild H [.string (bs [100, 105, 115, 99, 111, 110, 110, 101, 99, 116])] Tryz.underlying79 info9 (z := .string ⟨#[]⟩) rfl (by decide) (fillS1 _) fun b6 w6 hb6 H => ?_
  refine wBuild H [.int .i64 0] Tryz.underlying80 info3 (z := .int .i64 0) rfl (by decide) (fillI1 _) fun b7 w7 hb7 H => ?_
  refine wBuild H (tableC ⟨some ⟨b0, 0, none⟩, 5, 5⟩ ⟨some ⟨b1, 0, none⟩, 3, 3⟩ ⟨some ⟨b2, 0, none⟩, 3, 3⟩ ⟨some ⟨b3, 0, none⟩, 5, 5⟩ ⟨some ⟨b4, 0, none⟩, 3, 3⟩ ⟨some ⟨b5, 0, none⟩, 3, 3⟩ ⟨some ⟨b6, 0, none⟩, 1, 1⟩ ⟨some ⟨b7, 0, none⟩, 1, 1⟩) Tryz.underlying77 info83 (z := .agg #[.string ⟨#[]⟩, .string ⟨#[]⟩, .int .i64 0, .int .i64 0, .bool false, .slice none 0 0, .slice none 0 0, .nilFunc]) rfl (by decide) (fillK ⟨some ⟨b0, 0, none⟩, 5, 5⟩ ⟨some ⟨b1, 0, none⟩, 3, 3⟩ ⟨some ⟨b2, 0, none⟩, 3, 3⟩ ⟨some ⟨b3, 0, none⟩, 5, 5⟩ ⟨some ⟨b4, 0, none⟩, 3, 3⟩ ⟨some ⟨b5, 0, none⟩, 3, 3⟩ ⟨some ⟨b6, 0, none⟩, 1, 1⟩ ⟨some ⟨b7, 0, none⟩, 1, 1⟩) fun b8 w8 hb8 H => ?_
  refine wRet ⟨b8, rfl, H.keep, fun i hi => ?_⟩
  have g0 := H.get (i := 0) rfl
  have o0 : w.heap.size ≤ b0 := (H.own (b0, _) (List.mem_of_getElem? (i := 0) rfl)).resolve_left (by simp)
  have g1 := H.get (i := 1) rfl
  have o1 : w.heap.size ≤ b1 := (H.own (b1, _) (List.mem_of_getElem? (i := 1) rfl)).resolve_left (by simp)
  have g2 := H.get (i := 2) rfl
  have o2 : w.heap.size ≤ b2 := (H.own (b2, _) (List.mem_of_getElem? (i := 2) rfl)).resolve_left (by simp)
  have g3 := H.get (i := 3) rfl
  have o3 : w.heap.size ≤ b3 := (H.own (b3, _) (List.mem_of_getElem? (i := 3) rfl)).resolve_left (by simp)
  have g4 := H.get (i := 4) rfl
  have o4 : w.heap.size ≤ b4 := (H.own (b4, _) (List.mem_of_getElem? (i := 4) rfl)).resolve_left (by simp)
  have g5 := H.get (i := 5) rfl
  have o5 : w.heap.size ≤ b5 := (H.own (b5, _) (List.mem_of_getElem? (i := 5) rfl)).resolve_left (by simp)
  have g6 := H.get (i := 6) rfl
  have o6 : w.heap.size ≤ b6 := (H.own (b6, _) (List.mem_of_getElem? (i := 6) rfl)).resolve_left (by simp)
  have g7 := H.get (i := 7) rfl
  have o7 : w.heap.size ≤ b7 := (H.own (b7, _) (List.mem_of_getElem? (i := 7) rfl)).resolve_left (by simp)
  have g8 := H.get (i := 8) rfl
  have o8 : w.heap.size ≤ b8 := (H.own (b8, _) (List.mem_of_getElem? (i := 8) rfl)).resolve_left (by simp)
  match i, hi with
  | 0, _ => exact ⟨⟨some ⟨b1, 0, none⟩, 3, 3⟩, ⟨some ⟨b2, 0, none⟩, 3, 3⟩, ⟨o8, cellsAt_sub g8 0 8 rfl⟩, fun h => by simp [kd, key0] at h, fun _ => ⟨_, _, rfl, rfl, ⟨o1, cellsAt_sub g1 0 3 rfl⟩, rfl, rfl, ⟨o2, cellsAt_sub g2 0 3 rfl⟩⟩⟩
  | 1, _ => exact ⟨⟨none, 0, 0⟩, ⟨none, 0, 0⟩, ⟨o8, cellsAt_sub g8 8 8 rfl⟩, fun _ => rfl, fun h => absurd rfl h⟩
  | 2, _ => exact ⟨⟨none, 0, 0⟩, ⟨none, 0, 0⟩, ⟨o8, cellsAt_sub g8 16 8 rfl⟩, fun _ => rfl, fun h => absurd rfl h⟩
  | 3, _ => exact ⟨⟨none, 0, 0⟩, ⟨none, 0, 0⟩, ⟨o8, cellsAt_sub g8 24 8 rfl⟩, fun _ => rfl, fun h => absurd rfl h⟩
  | 4, _ => exact ⟨⟨none, 0, 0⟩, ⟨none, 0, 0⟩, ⟨o8, cellsAt_sub g8 32 8 rfl⟩, fun _ => rfl, fun h => absurd rfl h⟩
  | 5, _ => exact ⟨⟨none, 0, 0⟩, ⟨none, 0, 0⟩, ⟨o8, cellsAt_sub g8 40 8 rfl⟩, fun _ => rfl, fun h => absurd rfl h⟩
  | 6, _ => exact ⟨⟨none, 0, 0⟩, ⟨none, 0, 0⟩, ⟨o8, cellsAt_sub g8 48 8 rfl⟩, fun _ => rfl, fun h => absurd rfl h⟩
  | 7, _ => exact ⟨⟨none, 0, 0⟩, ⟨none, 0, 0⟩, ⟨o8, cellsAt_sub g8 56 8 rfl⟩, fun _ => rfl, fun h => absurd rfl h⟩
  | 8, _ => exact ⟨⟨none, 0, 0⟩, ⟨none, 0, 0⟩, ⟨o8, cellsAt_sub g8 64 8 rfl⟩, fun _ => rfl, fun h => absurd rfl h⟩
  | 9, _ => exact ⟨⟨none, 0, 0⟩, ⟨none, 0, 0⟩, ⟨o8, cellsAt_sub g8 72 8 rfl⟩, fun _ => rfl, fun h => absurd rfl h⟩
  | 10, _ => exact ⟨⟨some ⟨b0, 0, none⟩, 5, 5⟩, ⟨some ⟨b3, 0, none⟩, 5, 5⟩, ⟨o8, cellsAt_sub g8 80 8 rfl⟩, fun h => by simp [kd, key10] at h, fun _ => ⟨_, _, rfl, rfl, ⟨o0, cellsAt_sub g0 0 5 rfl⟩, rfl, rfl, ⟨o3, cellsAt_sub g3 0 5 rfl⟩⟩⟩
  | 11, _ => exact ⟨⟨some ⟨b4, 0, none⟩, 3, 3⟩, ⟨some ⟨b5, 0, none⟩, 3, 3⟩, ⟨o8, cellsAt_sub g8 88 8 rfl⟩, fun h => by simp [kd, key11] at h, fun _ => ⟨_, _, rfl, rfl, ⟨o4, cellsAt_sub g4 0 3 rfl⟩, rfl, rfl, ⟨o5, cellsAt_sub g5 0 3 rfl⟩⟩⟩
  | 12, _ => exact ⟨⟨some ⟨b6, 0, none⟩, 1, 1⟩, ⟨some ⟨b7, 0, none⟩, 1, 1⟩, ⟨o8, cellsAt_sub g8 96 8 rfl⟩, fun h => by simp [kd, key12] at h, fun _ => ⟨_, _, rfl, rfl, ⟨o6, cellsAt_sub g6 0 1 rfl⟩, rfl, rfl, ⟨o7, cellsAt_sub g7 0 1 rfl⟩⟩⟩
  | 13, _ => exact ⟨⟨none, 0, 0⟩, ⟨none, 0, 0⟩, ⟨o8, cellsAt_sub g8 104 8 rfl⟩, fun _ => rfl, fun h => absurd rfl h⟩
  | 14, _ => exact ⟨⟨none, 0, 0⟩, ⟨none, 0, 0⟩, ⟨o8, cellsAt_sub g8 112 8 rfl⟩, fun _ => rfl, fun h => absurd rfl h⟩
  | 15, _ => exact ⟨⟨none, 0, 0⟩, ⟨none, 0, 0⟩, ⟨o8, cellsAt_sub g8 120 8 rfl⟩, fun _ => rfl, fun h => absurd rfl h⟩
  | n + 16, h => exact absurd h (by omega)

end Go.Proofs.Cf
