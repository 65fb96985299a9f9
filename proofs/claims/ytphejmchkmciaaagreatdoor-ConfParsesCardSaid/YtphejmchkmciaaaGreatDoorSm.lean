/- A resource file's reading, in plain words. -/
import Derived.Test.YtphejmchkmciaaaGreatDoorSl
set_option maxRecDepth 100000
namespace Go.Proofs.Cf
open Go.WF

/-- What was read so far: the two texts, the keys' values, which stood there. -/
structure St where
  nm : ByteArray
  sc : ByteArray
  is : Nat → Int
  th : Nat → Bool
  sth : Bool

/-- Something, or a fault with its place. -/
inductive PR (α : Type) where
  | ok (a : α)
  | fault (pos : Nat) (code : Int)

def upd {α : Type} (f : Nat → α) (i : Nat) (a : α) : Nat → α := fun j => if j = i then a else f j

/-- A token that must be just that. -/
def pWant (s : ByteArray) (p : Nat) (k0 : Int) (v0 : ByteArray) : PR Nat :=
  match lexS s p with
  | .tok k a v q => if k = k0 ∧ v = v0 then .ok q else .fault a 121
  | .fin _ pos => .fault pos 121

/-- What the value's token says: the state behind it. -/
def pSet (key : Option Nat) (st : St) (k : Int) (v : ByteArray) : Option St :=
  match key with
  | none => if 64 < v.size then none else some { st with sc := v, sth := true }
  | some i => match (if k = 0 then valK (kd i) v else none) with
    | some n => some { st with is := upd st.is i n, th := upd st.th i true }
    | none => none

abbrev semiS : ByteArray := bs [59]
abbrev openS : ByteArray := bs [123]
abbrev closeS : ByteArray := bs [125]

/-- A key's value, and the mark behind it. -/
def pValue (s : ByteArray) (p : Nat) (key : Option Nat) (st : St) : PR (Nat × St) :=
  match lexS s p with
  | .tok k a v q => if k = 1 then .fault a 121 else
    match pSet key st k v with
    | none => .fault a 124
    | some st' => match pWant s q 1 semiS with
      | .ok q' => .ok (q', st')
      | .fault pos c => .fault pos c
  | .fin _ pos => .fault pos 121

/-- The key of that name in a section (none: the secret's). -/
def findS (sec nm : ByteArray) : Option (Option Nat) :=
  if sec = netS ∧ nm = secretS then some none else (findFrom sec nm 0).map some

def given (key : Option Nat) (st : St) : Bool :=
  match key with
  | none => st.sth
  | some i => st.th i

/-- A section, from behind its opening brace. -/
def pSection (s sec : ByteArray) : Nat → Nat → St → PR (Nat × St)
  | 0, _, _ => .fault 0 0
  | n + 1, p, st =>
    match lexS s p with
    | .tok k a v q => if k = 1 ∧ v = closeS then .ok (q, st) else if k ≠ 0 then .fault a 121 else
      match findS sec v with
      | none => .fault a 122
      | some key => if given key st = true then .fault a 123 else
        match pValue s q key st with
        | .ok (q', st') => pSection s sec n q' st'
        | .fault pos c => .fault pos c
    | .fin _ pos => .fault pos 121

abbrev protocolS : ByteArray := bs [112, 114, 111, 116, 111, 99, 111, 108]
abbrev deviceS : ByteArray := bs [100, 101, 118, 105, 99, 101]
abbrev syncerS : ByteArray := bs [115, 121, 110, 99, 101, 114]
abbrev resourceS : ByteArray := bs [114, 101, 115, 111, 117, 114, 99, 101]

/-- The parts, from behind the outer brace: the place of the closing one, the place behind it. -/
def pRes (s : ByteArray) : Nat → Nat → List ByteArray → St → PR (Nat × Nat × St)
  | 0, _, _, _ => .fault 0 0
  | n + 1, p, seen, st =>
    match lexS s p with
    | .tok k a v q => if k = 1 ∧ v = closeS then .ok (a, q, st) else if k ≠ 0 then .fault a 121 else
      if v ≠ protocolS ∧ v ≠ deviceS ∧ v ≠ netS ∧ v ≠ syncerS then .fault a 122 else
      if hasK seen v = true then .fault a 123 else
      if v = protocolS then
        match pValue s q (some 0) st with
        | .ok (q', st') => pRes s n q' (seen ++ [v]) st'
        | .fault pos c => .fault pos c
      else
        match pWant s q 1 openS with
        | .ok q' => match pSection s v (s.size + 1) q' st with
          | .ok (q2, st') => pRes s n q2 (seen ++ [v]) st'
          | .fault pos c => .fault pos c
        | .fault pos c => .fault pos c
    | .fin _ pos => .fault pos 121

/-- Does what must go together? (In the machine's words.) -/
def togB (f : Nat → Int) : Bool :=
  decide (f 7 > f 6) && decide (f 5 ≥ IntKind.wrap .i64 (IntKind.wrap .i64 (IntKind.wrap .i64 ((16 : Int) + IntKind.wrap .i64 ((2 : Int) * f 15)) + IntKind.wrap .i64 ((2 : Int) * f 9)) + IntKind.wrap .i64 ((8 : Int) * f 8)))

/-- The keys' values, the missing ones as they are then. -/
def fullV (st : St) : Nat → Int := fun i => if st.th i then st.is i else (kd i).dflt

def st0 : St := ⟨bs [], bs [], fun _ => 0, fun _ => false, false⟩

/-- All of it: what was read. -/
def pFile (s : ByteArray) : PR St :=
  match pWant s 0 0 resourceS with
  | .fault pos c => .fault pos c
  | .ok p1 =>
    match lexS s p1 with
    | .fin _ pos => .fault pos 121
    | .tok k a v p2 => if k ≠ 0 then .fault a 121 else if nameOk v = false then .fault a 124 else
      match pWant s p2 1 openS with
      | .fault pos c => .fault pos c
      | .ok p3 =>
        match pRes s (s.size + 1) p3 [] { st0 with nm := v } with
        | .fault pos c => .fault pos c
        | .ok (a, q, st) => if (st.th 1 && st.th 2) = false then .fault a 125 else if togB (fullV st) = false then .fault a 124 else
          match lexS s q with
          | .fin true _ => .ok st
          | .fin false pos => .fault pos 121
          | .tok _ a' _ _ => .fault a' 121

/-! ### A Config -/
/-- A Config's cells. -/
def cfgC (nm sc : ByteArray) (f : Nat → Int) : List Value := [.string nm, .int .i64 (f 1), .int .i64 (f 2), .int .i64 (f 3), .int .i64 (f 0), .int .i64 (f 4), .int .i64 (f 5), .int .i64 (f 6), .int .i64 (f 7), .int .i64 (f 8), .int .i64 (f 9), .string sc, .int .i64 (f 10), .int .i64 (f 11), .int .i64 (f 12), .int .i64 (f 13), .int .i64 (f 14), .int .i64 (f 15)]

/-- .. as the values of a walk. -/
def cfgV (nm sc : ByteArray) (f : Nat → Int) : Ty23 := (nm, f 1, f 2, f 3, f 0, f 4, f 5, f 6, f 7, f 8, f 9, sc, f 10, f 11, f 12, f 13, f 14, f 15, ())

theorem cfgV_C (nm sc : ByteArray) (f : Nat → Int) : bencs K23 (cfgV nm sc f) = cfgC nm sc f := rfl

/-- What the program puts where a key is missing. -/
def usualV (i : Nat) : Int := if i = 1 ∨ i = 2 then 0 else (kd i).dflt

/-- The program's values so far. -/
def progV (st : St) : Nat → Int := fun i => if st.th i then st.is i else usualV i

theorem progV_upd (st : St) (i : Nat) (n : Int) : progV { st with is := upd st.is i n, th := upd st.th i true } = upd (progV st) i n := by
  funext j
  simp only [progV, upd]
  by_cases h : j = i <;> simp [h]

theorem cfgC_set (nm sc : ByteArray) (f : Nat → Int) (i : Nat) (hi : i < 16) (n : Int) : (cfgC nm sc f).set (kd i).cell (.int .i64 n) = cfgC nm sc (upd f i n) ∧ (kd i).cell < 18 := by
  match i, hi with
  | 0, _ | 1, _ | 2, _ | 3, _ | 4, _ | 5, _ | 6, _ | 7, _ | 8, _ | 9, _ | 10, _ | 11, _ | 12, _ | 13, _ | 14, _ | 15, _ => exact ⟨rfl, by decide⟩
  | n + 16, h => exact absurd h (by omega)

theorem field_c (i : Nat) (hi : i < 16) (c : Nat) (w : World) : ∃ fn, Tryz.prog.funcs[48 + i]? = some fn ∧ (fn.name == "runtime.NumGoroutine") = false ∧ fn.body.isNone = false ∧
    Calls Tryz.prog (48 + i) #[.pointer (some ⟨c, 0, none⟩)] w fun x w' => x = .returned (tupOf [.pointer (some ⟨c, (kd i).cell, none⟩)]) ∧ w' = w := by
  match i, hi with
  | 0, _ => exact ⟨_, Tryz.func48, by kernel_rfl, by kernel_rfl, calls_tree hm Tryz.func48 (d48_ok ⟨c, 0, none⟩) (by unfold d48; exact wRet ⟨by rw [add_mk]; rfl, rfl⟩)⟩
  | 1, _ => exact ⟨_, Tryz.func49, by kernel_rfl, by kernel_rfl, calls_tree hm Tryz.func49 (d49_ok ⟨c, 0, none⟩) (by unfold d49; exact wRet ⟨by rw [add_mk]; rfl, rfl⟩)⟩
  | 2, _ => exact ⟨_, Tryz.func50, by kernel_rfl, by kernel_rfl, calls_tree hm Tryz.func50 (d50_ok ⟨c, 0, none⟩) (by unfold d50; exact wRet ⟨by rw [add_mk]; rfl, rfl⟩)⟩
  | 3, _ => exact ⟨_, Tryz.func51, by kernel_rfl, by kernel_rfl, calls_tree hm Tryz.func51 (d51_ok ⟨c, 0, none⟩) (by unfold d51; exact wRet ⟨by rw [add_mk]; rfl, rfl⟩)⟩
  | 4, _ => exact ⟨_, Tryz.func52, by kernel_rfl, by kernel_rfl, calls_tree hm Tryz.func52 (d52_ok ⟨c, 0, none⟩) (by unfold d52; exact wRet ⟨by rw [add_mk]; rfl, rfl⟩)⟩
  | 5, _ => exact ⟨_, Tryz.func53, by kernel_rfl, by kernel_rfl, calls_tree hm Tryz.func53 (d53_ok ⟨c, 0, none⟩) (by unfold d53; exact wRet ⟨by rw [add_mk]; rfl, rfl⟩)⟩
  | 6, _ => exact ⟨_, Tryz.func54, by kernel_rfl, by kernel_rfl, calls_tree hm Tryz.func54 (d54_ok ⟨c, 0, none⟩) (by unfold d54; exact wRet ⟨by rw [add_mk]; rfl, rfl⟩)⟩
  | 7, _ => exact ⟨_, Tryz.func55, by kernel_rfl, by kernel_rfl, calls_tree hm Tryz.func55 (d55_ok ⟨c, 0, none⟩) (by unfold d55; exact wRet ⟨by rw [add_mk]; rfl, rfl⟩)⟩
  | 8, _ => exact ⟨_, Tryz.func56, by kernel_rfl, by kernel_rfl, calls_tree hm Tryz.func56 (d56_ok ⟨c, 0, none⟩) (by unfold d56; exact wRet ⟨by rw [add_mk]; rfl, rfl⟩)⟩
  | 9, _ => exact ⟨_, Tryz.func57, by kernel_rfl, by kernel_rfl, calls_tree hm Tryz.func57 (d57_ok ⟨c, 0, none⟩) (by unfold d57; exact wRet ⟨by rw [add_mk]; rfl, rfl⟩)⟩
  | 10, _ => exact ⟨_, Tryz.func58, by kernel_rfl, by kernel_rfl, calls_tree hm Tryz.func58 (d58_ok ⟨c, 0, none⟩) (by unfold d58; exact wRet ⟨by rw [add_mk]; rfl, rfl⟩)⟩
  | 11, _ => exact ⟨_, Tryz.func59, by kernel_rfl, by kernel_rfl, calls_tree hm Tryz.func59 (d59_ok ⟨c, 0, none⟩) (by unfold d59; exact wRet ⟨by rw [add_mk]; rfl, rfl⟩)⟩
  | 12, _ => exact ⟨_, Tryz.func60, by kernel_rfl, by kernel_rfl, calls_tree hm Tryz.func60 (d60_ok ⟨c, 0, none⟩) (by unfold d60; exact wRet ⟨by rw [add_mk]; rfl, rfl⟩)⟩
  | 13, _ => exact ⟨_, Tryz.func61, by kernel_rfl, by kernel_rfl, calls_tree hm Tryz.func61 (d61_ok ⟨c, 0, none⟩) (by unfold d61; exact wRet ⟨by rw [add_mk]; rfl, rfl⟩)⟩
  | 14, _ => exact ⟨_, Tryz.func62, by kernel_rfl, by kernel_rfl, calls_tree hm Tryz.func62 (d62_ok ⟨c, 0, none⟩) (by unfold d62; exact wRet ⟨by rw [add_mk]; rfl, rfl⟩)⟩
  | 15, _ => exact ⟨_, Tryz.func63, by kernel_rfl, by kernel_rfl, calls_tree hm Tryz.func63 (d63_ok ⟨c, 0, none⟩) (by unfold d63; exact wRet ⟨by rw [add_mk]; rfl, rfl⟩)⟩
  | n + 16, h => exact absurd h (by omega)

theorem wField {R : Ending → World → Prop} {K : Tys [.b .ptr] → T} {i : Nat} (hi : i < 16) {c : Nat} {w : World} (h : (K (some ⟨c, (kd i).cell, none⟩, ())).wp Tryz.prog R w) : (T.callV (.func (.func (48 + i)) #[] #[]) [.pointer (some ⟨c, 0, none⟩)] [.b .ptr] K).wp Tryz.prog R w := by
  obtain ⟨fn, h1, h2, h3, h4⟩ := field_c i hi c w
  simp only [T.wp]
  refine ⟨48 + i, #[], #[], fn, rfl, h1, h2, h3, ?_⟩
  have e : (#[] : Array Value) ++ [Value.pointer (some ⟨c, 0, none⟩)].toArray ++ #[] = #[.pointer (some ⟨c, 0, none⟩)] := rfl
  rw [e]
  refine h4.mono ?_
  rintro x w' ⟨rfl, rfl⟩
  exact ⟨(some ⟨c, (kd i).cell, none⟩, ()), rfl, h⟩

end Go.Proofs.Cf
