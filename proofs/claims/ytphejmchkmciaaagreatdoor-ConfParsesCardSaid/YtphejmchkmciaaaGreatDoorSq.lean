/- The program reads a resource: the walk. -/
import Derived.Test.YtphejmchkmciaaaGreatDoorSp
set_option maxRecDepth 100000
set_option linter.unusedVariables false
namespace Go.Proofs.Cf
open Go.WF

/-- Behind the parts. -/
def pEnd (s : ByteArray) (a q : Nat) (st : St) : PR St :=
  if (st.th 1 && st.th 2) = false then .fault a 125 else if togB (fullV st) = false then .fault a 124 else
    match lexS s q with
    | .fin true _ => .ok st
    | .fin false pos => .fault pos 121
    | .tok _ a' _ _ => .fault a' 121

def pTail (s : ByteArray) : PR (Nat × Nat × St) → PR St
  | .ok (a, q, st) => pEnd s a q st
  | .fault pos c => .fault pos c

theorem pFile_eq (s : ByteArray) : pFile s = match pWant s 0 0 resourceS with
    | .fault pos c => .fault pos c
    | .ok p1 =>
      match lexS s p1 with
      | .fin _ pos => .fault pos 121
      | .tok k a v p2 => if k ≠ 0 then .fault a 121 else if nameOk v = false then .fault a 124 else
        match pWant s p2 1 openS with
        | .fault pos c => .fault pos c
        | .ok p3 => pTail s (pRes s (s.size + 1) p3 [] { st0 with nm := v }) := by
  unfold pFile pTail pEnd
  cases pWant s 0 0 resourceS with
  | fault pos c => rfl
  | ok p1 =>
    simp only []
    cases lexS s p1 with
    | fin eb pos => rfl
    | tok k a v p2 =>
      simp only []
      split
      · rfl
      · split
        · rfl
        · cases pWant s p2 1 openS with
          | fault pos c => rfl
          | ok p3 =>
            simp only []
            cases pRes s (s.size + 1) p3 [] { st0 with nm := v } with
            | fault pos c => rfl
            | ok r => obtain ⟨a, q, st⟩ := r; rfl

/-- want's answer against the plain word. -/
theorem want_p {s : ByteArray} {r : Nat} {e : TypeId} {w : World} {k0 : Int} {v0 : ByteArray} {p : Nat} {x : Ending} {w' : World} (h : WantR s r e w k0 v0 (lexS s p) x w') :
    Keep [r] w w' ∧ ((∃ pos code, pWant s p k0 v0 = .fault pos code ∧ x = .panicked (faultL pos code)) ∨ ∃ q a : Nat, pWant s p k0 v0 = .ok q ∧ x = .returned (tupOf [.agg #[.int .i64 k0, .int .i64 (a : Int), .string v0]]) ∧ Blk w' r [.string s, .int .i64 (q : Int)] e) := by
  refine ⟨h.1, ?_⟩
  have h2 := h.2
  unfold pWant
  cases hl : lexS s p with
  | fin eb pos =>
    rw [hl] at h2
    exact .inl ⟨_, _, rfl, h2⟩
  | tok k a v q =>
    rw [hl] at h2
    simp only [] at h2 ⊢
    by_cases hc : k = k0 ∧ v = v0
    · rw [if_pos hc] at h2 ⊢
      rw [hc.1, hc.2] at h2
      exact .inr ⟨q, a, rfl, h2⟩
    · rw [if_neg hc] at h2 ⊢
      exact .inl ⟨_, _, rfl, h2⟩

/-- Two known blocks have turned. -/
theorem st_upd2 {w0 w w' : World} {S : List Nat} {L : HL} (H : ST w0 S w L) {i j b c : Nat} {o1 o1' o2 o2' : Obj} (hi : L[i]? = some (b, o1)) (hj : L[j]? = some (c, o2)) (hij : j ≠ i) (hk : Keep [b, c] w w') (hb : w'.heap[b]? = some o1') (hc : w'.heap[c]? = some o2') :
    ST w0 S w' ((L.set i (b, o1')).set j (c, o2')) := by
  have hmi := List.mem_of_getElem? hi
  have hmj := List.mem_of_getElem? hj
  have hj' : (L.set i (b, o1'))[j]? = some (c, o2) := by rw [List.getElem?_set, if_neg (fun e => hij e.symm)]; exact hj
  have hcase : ∀ x ∈ (L.set i (b, o1')).set j (c, o2'), x = (c, o2') ∨ x = (b, o1') ∨ ∃ k, k ≠ i ∧ k ≠ j ∧ L[k]? = some x := fun x hx => by
    rcases mem_set hx with rfl | ⟨k, hkj, hk2⟩
    · exact .inl rfl
    · rw [List.getElem?_set] at hk2
      split at hk2
      · split at hk2
        · exact .inr (.inl (by simpa using hk2.symm))
        · cases hk2
      · rename_i hne
        exact .inr (.inr ⟨k, fun e => hne e.symm, hkj, hk2⟩)
  refine ⟨H.keep.trans hk fun x hx hlt => ?_, fun x hx => ?_, by rw [map_set_same hj', map_set_same hi]; exact H.nodup, fun x hx => ?_⟩
  · simp only [List.mem_cons, List.not_mem_nil, or_false] at hx
    rcases hx with rfl | rfl
    · exact (H.own _ hmi).resolve_right (Nat.not_le.2 hlt)
    · exact (H.own _ hmj).resolve_right (Nat.not_le.2 hlt)
  · rcases hcase x hx with rfl | rfl | ⟨k, hki, hkj, hk2⟩
    · exact hc
    · exact hb
    · refine hk.obj (H.blk x (List.mem_of_getElem? hk2)) ?_
      simp only [List.mem_cons, List.not_mem_nil, or_false, not_or]
      exact ⟨nodup_ne H hi hk2 hki, nodup_ne H hj hk2 hkj⟩
  · rcases hcase x hx with rfl | rfl | ⟨k, hki, hkj, hk2⟩
    · exact H.own (c, o2) hmj
    · exact H.own (b, o1) hmi
    · exact H.own x (List.mem_of_getElem? hk2)

/-- A block that a call has made is known. -/
theorem st_addNew {w0 w : World} {S : List Nat} {L : HL} (H : ST w0 S w L) {n m : Nat} {o : Obj} (hL : ∀ x ∈ L, x.1 < n) (hn : n ≤ m) (h0 : w0.heap.size ≤ n) (hm : w.heap[m]? = some o) : ST w0 S w (L ++ [(m, o)]) := by
  refine ⟨H.keep, fun x hx => ?_, ?_, fun x hx => ?_⟩
  · rcases List.mem_append.1 hx with hx | hx
    · exact H.blk x hx
    · rw [List.mem_singleton] at hx; subst hx; exact hm
  · rw [List.map_append, List.nodup_append]
    refine ⟨H.nodup, by simp, ?_⟩
    intro x hx y hy
    simp only [List.map_cons, List.map_nil, List.mem_singleton] at hy
    subst hy
    obtain ⟨z, hz, rfl⟩ := List.mem_map.1 hx
    have := hL z hz
    intro e
    omega
  · rcases List.mem_append.1 hx with hx | hx
    · exact H.own x hx
    · rw [List.mem_singleton] at hx; subst hx
      exact .inr (Nat.le_trans h0 hn)

theorem resource_c {s : ByteArray} (hs : s.size ≤ 4096) {r : Nat} {e : TypeId} {w : World} (hb : Blk w r [.string s, .int .i64 ((0 : Nat) : Int)] e) :
    Calls Tryz.prog 8 [.pointer (some ⟨r, 0, none⟩)].toArray w (ResourceR r w (pFile s)) := by
  refine calls_tree hm Tryz.func8 (d8_ok ⟨r, 0, none⟩) ?_
  unfold d8
  have hrw : r < w.heap.size := hb.lt
  rw [pFile_eq]
  have H : ST w [r] w [RdL r s 0 e] := ST.one hb (by simp)
  refine wN H fun b0 w1 hb0 H => ?_
  refine wCall (usual_c w1) ?_
  rintro x w2 ⟨rfl, hk2⟩
  refine ⟨(cfgV (bs []) (bs []) usualV, ()), rfl, ?_⟩
  replace H := H.made hk2
  refine wN H fun c w3 hc3 H => ?_
  refine wSA H 2 rfl rfl rfl rfl fun w4 H => ?_
  replace H : ST w [r] w4 [RdL r s 0 e, (b0, cellsO Z23 23), (c, cellsO (cfgC (bs []) (bs []) usualV) 23)] := H
  refine wCall (want_c hs (Nat.zero_le _) (H.get (i := 0) rfl) 0 resourceS) ?_
  intro x w5 hx
  obtain ⟨hk5, hx⟩ := want_p hx
  rcases hx with ⟨pos, code, hpw, rfl⟩ | ⟨p1, a1, hpw, rfl, hb5⟩
  · rw [hpw]
    exact ⟨H.keep.trans hk5 (fun x hx _ => hx), rfl⟩
  rw [hpw]
  have hp1 := pWant_ok hpw
  simp only []
  refine ⟨((0, (a1 : Int), resourceS, ()), ()), rfl, ?_⟩
  replace H : ST w [r] w5 [RdL r s p1 e, (b0, cellsO Z23 23), (c, cellsO (cfgC (bs []) (bs []) usualV) 23)] := H.upd (i := 0) rfl hk5 hb5
  refine wCall (next_c hs hp1.2.1 (H.get (i := 0) rfl)) ?_
  rintro x w6 ⟨hk6, hx⟩
  cases hl : lexS s p1 with
  | fin eb pos =>
    rw [hl] at hx
    subst hx
    exact ⟨H.keep.trans hk6 (fun x hx _ => hx), rfl⟩
  | tok k a v p2 =>
    rw [hl] at hx
    obtain ⟨rfl, hb6⟩ := hx
    simp only []
    refine ⟨((k, (a : Int), v, ()), ()), rfl, ?_⟩
    replace H : ST w [r] w6 [RdL r s p2 e, (b0, cellsO Z23 23), (c, cellsO (cfgC (bs []) (bs []) usualV) 23)] := H.upd (i := 0) rfl hk6 hb6
    have hp2 := lexS_tok hl
    refine wN H fun b5 w7 hb7 H => ?_
    refine wSA H 3 rfl rfl rfl rfl fun w8 H => ?_
    refine wBlk ?_
    refine wL H 3 k rfl rfl rfl ?_
    refine wIf (fun h1 => ?_) (fun h1 => ?_)
    · have h1' : k ≠ 0 := by simpa using h1
      refine wL H 3 (a : Int) rfl rfl rfl ?_
      exact wGive (ResourceR.fault H (if_pos h1'))
    have h1' : ¬ (k ≠ 0) := by simpa using h1
    rw [if_neg h1']
    refine wJump () rfl ?_
    refine wBlk ?_
    refine wL H 3 v rfl rfl rfl ?_
    refine wG (name_c v (Nat.lt_of_le_of_lt (tok_val hs hl) (by decide))) (_, ()) rfl ?_
    refine wIf (fun h2 => ?_) (fun h2 => ?_)
    · have h2' : nameOk v = false := by simpa using h2
      refine wL H 3 (a : Int) rfl rfl rfl ?_
      exact wGive (ResourceR.fault H (if_pos h2'))
    have h2' : ¬ nameOk v = false := by simpa using h2
    rw [if_neg h2']
    refine wJump () rfl ?_
    refine wL H 3 v rfl rfl rfl ?_
    refine wS H 2 rfl rfl (by show 0 < 18; decide) rfl fun w9 H => ?_
    have hcf : (cfgC (bs []) (bs []) usualV).set 0 (.string v) = cfgC v (bs []) (progV { st0 with nm := v }) := rfl
    rw [show (List.set _ 0 (Value.string v)) = cfgC v (bs []) (progV { st0 with nm := v }) from hcf] at H
    refine wCall (want_c hs hp2.2 (H.get (i := 0) rfl) 1 openS) ?_
    intro x w10 hx
    obtain ⟨hk10, hx⟩ := want_p hx
    rcases hx with ⟨pos, code, hpw2, rfl⟩ | ⟨p3, a3, hpw2, rfl, hb10⟩
    · rw [hpw2]
      exact ⟨H.keep.trans hk10 (fun x hx _ => hx), rfl⟩
    rw [hpw2]
    have hp3 := pWant_ok hpw2
    simp only []
    refine ⟨((1, (a3 : Int), openS, ()), ()), rfl, ?_⟩
    replace H : ST w [r] w10 [RdL r s p3 e, (b0, cellsO Z23 23), CfL c { st0 with nm := v }, (b5, cellsO (bencs K49 (k, (a : Int), v, ())) 49)] := H.upd (i := 0) rfl hk10 hb10
    refine wMakeMap H fun m1 w11 hm1 H => ?_
    refine wMakeMap H fun m2 w12 hm2 H => ?_
    have hg0 : GlobInv [] { st0 with nm := v } := ⟨fun _ _ _ => rfl, fun _ => rfl⟩
    have hd0 : DevInv [] { st0 with nm := v } := ⟨rfl, rfl⟩
    generalize { st0 with nm := v } = st1 at H hg0 hd0 ⊢
    refine wLoop (fun n y w' => ∃ (p' : Nat) (st : St) (seen dks : List ByteArray) (dm n' : Nat) (tk : Ty49), y = (some dm, ()) ∧ p' ≤ s.size ∧ n = s.size - p' ∧ s.size - p' < n' ∧ GlobInv seen st ∧ DevInv dks st ∧ pRes s (s.size + 1) p3 [] st1 = pRes s n' p' seen st ∧
      ST w [r] w' [RdL r s p' e, (b0, cellsO Z23 23), CfL c st, (b5, cellsO (bencs K49 tk) 49), (m1, mapO seen), (dm, mapO dks)]) (s.size - p3) (some m2, ()) rfl ⟨p3, st1, [], [], m2, s.size + 1, (k, (a : Int), v, ()), rfl, hp3.2.1, rfl, by omega, hg0, hd0, rfl, H⟩ ?_
    clear hg0 hd0 H
    rintro _ _ w13 ⟨p', st, seen, dks, dm, n', ⟨tk1, tk2, tk3, ⟨⟩⟩, rfl, hp', rfl, hn', hgi, hdi, hpr, H⟩
    obtain ⟨n'', rfl⟩ : ∃ n'', n' = n'' + 1 := ⟨n' - 1, by omega⟩
    generalize pRes s (s.size + 1) p3 [] st1 = PV at hpr ⊢
    simp only [pRes] at hpr
    refine wCall (next_c hs hp' (H.get (i := 0) rfl)) ?_
    rintro x w14 ⟨hk14, hx⟩
    cases hl : lexS s p' with
    | fin eb pos =>
      rw [hl] at hx hpr
      subst hx
      refine ⟨H.keep.trans hk14 (fun x hx _ => hx), ?_⟩
      rw [hpr]
      rfl
    | tok k a v q =>
      rw [hl] at hx hpr
      obtain ⟨rfl, hb14⟩ := hx
      simp only [] at hpr
      have hq := lexS_tok hl
      refine ⟨((k, (a : Int), v, ()), ()), rfl, ?_⟩
      replace H : ST w [r] w14 [RdL r s q e, (b0, cellsO Z23 23), CfL c st, (b5, cellsO (bencs K49 (tk1, tk2, tk3, ())) 49), (m1, mapO seen), (dm, mapO dks)] := H.upd (i := 0) rfl hk14 hb14
      refine wSA H 3 rfl rfl rfl rfl fun w15 H => ?_
      replace H : ST w [r] w15 [RdL r s q e, (b0, cellsO Z23 23), CfL c st, (b5, cellsO (bencs K49 (k, (a : Int), v, ())) 49), (m1, mapO seen), (dm, mapO dks)] := H
      have hfault : ∀ {pos : Nat} {code : Int} {w' : World} {L : HL}, ST w [r] w' L → PV = .fault pos code → ResourceR r w (pTail s PV) (.panicked (faultL pos code)) w' := fun H' h => by
        rw [h]; exact ⟨H'.keep, rfl⟩
      refine wBlkK (fun _ w' => w' = w15 ∧ ¬ (k = 1 ∧ v = closeS) ∧ k = 0 ∧ ¬ (v ≠ protocolS ∧ v ≠ deviceS ∧ v ≠ netS ∧ v ≠ syncerS) ∧ hasK seen v = false) ?_ (fun rest => ?_)
      · rintro ⟨⟩ w' ⟨rfl, g1, g2, g3, g4⟩
        rw [if_neg g1, if_neg (by simpa using g2), if_neg g3, if_neg (by rw [g4]; simp)] at hpr
        refine wL H 3 v rfl rfl rfl ?_
        refine wLookup Tryz.underlying53 Tryz.underlying9 info3 info3z H 4 rfl ?_
        have e1 : IntKind.wrap .i64 ((if hasK seen v = true then (1 : Int) else 0) + 1) = 1 := by rw [g4]; rfl
        rw [show (((if hasK seen v = true then 1 else 0 : Int), ()) : Int × Unit).1 = (if hasK seen v = true then (1 : Int) else 0) from rfl, e1]
        have hr16 : ∀ x ∈ [r, c], x < w'.heap.size := by
          intro x hx
          simp only [List.mem_cons, List.not_mem_nil, or_false] at hx
          rcases hx with rfl | rfl
          · exact lt_of_obj (H.get (i := 0) rfl)
          · exact lt_of_obj (H.get (i := 2) rfl)
        refine wMapPut Tryz.underlying53 Tryz.underlying9 H 4 rfl g4 fun w16 H hk16 => ?_
        have hsz16 := hk16.size
        refine wL H 3 v rfl rfl rfl ?_
        refine wCall (find_c (bs []) v w16) ?_
        rintro x w17 ⟨hk17, hx⟩
        have hne : ¬ ((bs [] : ByteArray) = netS ∧ v = secretS) := fun h => absurd h.1 (by decide)
        rw [if_neg hne] at hx
        replace H := H.made hk17
        replace H : ST w [r] w17 [RdL r s q e, (b0, cellsO Z23 23), CfL c st, (b5, cellsO (bencs K49 (k, (a : Int), v, ())) 49), (m1, mapO (seen ++ [v])), (dm, mapO dks)] := H
        have hrc : r ≠ c := by
          have hnd := H.nodup
          simp at hnd
          exact hnd.1.2.1
        by_cases hv : v = protocolS
        · rw [if_pos hv] at hpr
          rw [hv, find_prot] at hx
          obtain ⟨ad, rfl, hkey⟩ := hx
          refine ⟨(some ad, true, ()), rfl, ?_⟩
          refine wIft rfl ?_
          refine wCall (value_c hs hq.2 hrc (H.get (i := 0) rfl) (H.get (i := 2) rfl) (base := w16.heap.size) (key := some 0) (kp := some ad) ⟨by decide, ad, rfl, hkey⟩ (by have := hr16 r (by simp); omega) (by have := hr16 c (by simp); omega)) ?_
          rintro x w18 ⟨hk18, hx⟩
          cases hpv : pValue s q (some 0) st with
          | fault pos code =>
            rw [hpv] at hx hpr
            subst hx
            have hcw : c ∈ [r] ∨ w.heap.size ≤ c := H.own (CfL c st) (by simp)
            refine ⟨H.keep.trans hk18 (fun x hx hlt => ?_), by rw [hpr]; rfl⟩
            simp only [List.mem_cons, List.not_mem_nil, or_false] at hx
            rcases hx with rfl | rfl
            · simp
            · exact hcw.resolve_right (by omega)
          | ok r2 =>
            obtain ⟨q2, st2⟩ := r2
            rw [hpv] at hx hpr
            obtain ⟨rfl, hb18, hc18⟩ := hx
            simp only [] at hpr
            obtain ⟨v1, v2, k', v', hset⟩ := pValue_ok hpv
            obtain ⟨a1, a2, _⟩ := pSet_some hset
            have H18 := st_upd2 H (i := 0) (j := 2) rfl rfl (by decide) hk18 hb18 hc18
            refine ⟨(), rfl, wJump (some dm, ()) rfl ⟨s.size - q2, by omega, q2, st2, seen ++ [v], dks, dm, n'', (k, (a : Int), v, ()), rfl, v2, rfl, by omega, ?_, ?_, hpr, H18⟩⟩
            · rw [hv]
              exact hgi.prot a1 a2
            · unfold DevInv
              rw [a1 1, a1 2]
              simpa [DevInv] using hdi
        · rw [if_neg hv] at hpr
          rw [find_noprot hv] at hx
          subst hx
          have hv3 : v = deviceS ∨ v = netS ∨ v = syncerS := by
            by_cases h1 : v = deviceS
            · exact .inl h1
            · by_cases h2 : v = netS
              · exact .inr (.inl h2)
              · by_cases h3 : v = syncerS
                · exact .inr (.inr h3)
                · exact absurd ⟨hv, h1, h2, h3⟩ g3
          refine ⟨(none, false, ()), rfl, ?_⟩
          refine wIff rfl ?_
          refine wCall (want_c hs hq.2 (H.get (i := 0) rfl) 1 openS) ?_
          intro x w18 hx
          obtain ⟨hk18, hx⟩ := want_p hx
          rcases hx with ⟨pos, code, hpw3, rfl⟩ | ⟨q2, a3, hpw3, rfl, hb18⟩
          · rw [hpw3] at hpr
            exact ⟨H.keep.trans hk18 (fun x hx _ => hx), by rw [hpr]; rfl⟩
          rw [hpw3] at hpr
          simp only [] at hpr
          have hq2 := pWant_ok hpw3
          refine ⟨((1, (a3 : Int), openS, ()), ()), rfl, ?_⟩
          replace H : ST w [r] w18 [RdL r s q2 e, (b0, cellsO Z23 23), CfL c st, (b5, cellsO (bencs K49 (k, (a : Int), v, ())) 49), (m1, mapO (seen ++ [v])), (dm, mapO dks)] := H.upd (i := 0) rfl hk18 hb18
          refine wL H 3 v rfl rfl rfl ?_
          refine wCall (section_c hs v hq2.2.1 hrc (H.get (i := 0) rfl) (H.get (i := 2) rfl) (n := s.size + 1) (by omega) (hgi.sec hv3 g4)) ?_
          rintro x w19 ⟨hk19, hx⟩
          cases hps : pSection s v (s.size + 1) q2 st with
          | fault pos code =>
            rw [hps] at hx hpr
            subst hx
            have hcw : c ∈ [r] ∨ w.heap.size ≤ c := H.own (CfL c st) (by simp)
            refine ⟨H.keep.trans hk19 (fun x hx hlt => ?_), by rw [hpr]; rfl⟩
            simp only [List.mem_cons, List.not_mem_nil, or_false] at hx
            rcases hx with rfl | rfl
            · simp
            · exact hcw.resolve_right (by omega)
          | ok r2 =>
            obtain ⟨q3, st2⟩ := r2
            rw [hps] at hx hpr
            obtain ⟨m, ks, rfl, hb19, hc19, hm19, hmn, hsi⟩ := hx
            simp only [] at hpr
            obtain ⟨v1, v2, _, v4, v5⟩ := pSection_ok hps
            have H19 := st_upd2 H (i := 0) (j := 2) rfl rfl (by decide) hk19 hb19 hc19
            have hlt18 : ∀ x ∈ [RdL r s q2 e, (b0, cellsO Z23 23), CfL c st, (b5, cellsO (bencs K49 (k, (a : Int), v, ())) 49), (m1, mapO (seen ++ [v])), (dm, mapO dks)], x.1 < w18.heap.size := fun x hx => lt_of_obj (H.blk x hx)
            refine ⟨(some m, ()), rfl, ?_⟩
            refine wL H19 3 v rfl rfl rfl ?_
            have hgi2 := hgi.next v4 v5 hv3
            refine wIf (fun hd => ?_) (fun hd => ?_)
            · have hd' : v = deviceS := of_decide_eq_true (by rw [← str_eq]; exact hd)
              have H20 : ST w [r] w19 ([RdL r s q3 e, (b0, cellsO Z23 23), CfL c st2, (b5, cellsO (bencs K49 (k, (a : Int), v, ())) 49), (m1, mapO (seen ++ [v]))] ++ [(m, mapO ks)]) := st_addNew (n := w18.heap.size) (H19.sub (by
                show List.Sublist [RdL r s q3 e, (b0, cellsO Z23 23), CfL c st2, (b5, cellsO (bencs K49 (k, (a : Int), v, ())) 49), (m1, mapO (seen ++ [v]))] [RdL r s q3 e, (b0, cellsO Z23 23), CfL c st2, (b5, cellsO (bencs K49 (k, (a : Int), v, ())) 49), (m1, mapO (seen ++ [v])), (dm, mapO dks)]
                exact List.sublist_append_left _ [(dm, mapO dks)])) (fun x hx => by
                simp only [List.mem_cons, List.not_mem_nil, or_false] at hx
                rcases hx with rfl | rfl | rfl | rfl | rfl
                · exact hlt18 (RdL r s q2 e) (by simp)
                · exact hlt18 _ (by simp)
                · exact hlt18 (CfL c st) (by simp)
                · exact hlt18 _ (by simp)
                · exact hlt18 _ (by simp)) hmn H.keep.size hm19
              refine wJump (some m, ()) rfl ⟨s.size - q3, by omega, q3, st2, seen ++ [v], ks, m, n'', (k, (a : Int), v, ()), rfl, v2, rfl, by omega, hgi2, ⟨hsi.1 1 (by decide) hd'.symm, hsi.1 2 (by decide) hd'.symm⟩, hpr, H20⟩
            · have hd' : v ≠ deviceS := of_decide_eq_false (by rw [← str_eq]; exact hd)
              refine wJump (some dm, ()) rfl ⟨s.size - q3, by omega, q3, st2, seen ++ [v], dks, dm, n'', (k, (a : Int), v, ()), rfl, v2, rfl, by omega, hgi2, ?_, hpr, H19⟩
              unfold DevInv
              rw [v4 1 (by decide) (fun e => hd' e.symm), v4 2 (by decide) (fun e => hd' e.symm)]
              exact hdi
      · -- what the token is
        have hlb : hasK dks (bs [98, 108, 111, 99, 107, 115]) = st.th 1 := hdi.1
        have hls : hasK dks (bs [98, 108, 111, 99, 107, 45, 115, 105, 122, 101]) = st.th 2 := hdi.2
        refine wBlkK (fun xs w' => w' = w15 ∧ xs.1 = decide (k = 1 ∧ v = closeS)) ?_ (fun rest2 => ?_)
        · rintro ⟨cl, ⟨⟩⟩ w' ⟨rfl, hcl⟩
          simp only [] at hcl
          subst hcl
          refine wIf (fun hcl => ?_) (fun hcl => ?_)
          · have hcl' := of_decide_eq_true hcl
            rw [if_pos hcl'] at hpr
            have hpe : pTail s PV = pEnd s a q st := by rw [hpr]; rfl
            rw [hpe]
            unfold pEnd
            refine wBlkK (fun _ w2 => ∃ w3, ST w [r] w2 [RdL r s q e, (b0, cellsO Z23 23), CfL c st] ∧ w3 = w2 ∧ (st.th 1 && st.th 2) = true ∧ togB (fullV st) = true) ?_ (fun rest3 => ?_)
            · rintro ⟨⟩ w2 ⟨_, H2, _, t1, t2⟩
              rw [if_neg (by rw [t1]; simp), if_neg (by rw [t2]; simp)]
              refine wBlk ?_
              refine wCall (more_c hs hq.2 (H2.get (i := 0) rfl)) ?_
              rintro x w3 ⟨rfl, hk3, hb3⟩
              refine ⟨(_, ()), rfl, ?_⟩
              have hble := blankTo_le s q hq.2
              have H3 : ST w [r] w3 [RdL r s (blankTo s q) e, (b0, cellsO Z23 23), CfL c st] := H2.upd (i := 0) rfl hk3 hb3
              refine wIf (fun hm => ?_) (fun hm => ?_)
              · have hm' := of_decide_eq_true hm
                refine wCall (next_c hs hble (H3.get (i := 0) rfl)) ?_
                rintro x w4 ⟨hk4, hx⟩
                rw [lexS_blank] at hx
                have hk4' := H3.keep.trans hk4 (fun x hx _ => hx)
                cases hl4 : lexS s q with
                | fin eb pos =>
                  have := lexS_fin hm' hl4
                  subst this
                  rw [hl4] at hx
                  subst hx
                  exact ⟨hk4', rfl⟩
                | tok k4 a4 v4 q4 =>
                  rw [hl4] at hx
                  obtain ⟨rfl, hb4⟩ := hx
                  refine ⟨((k4, (a4 : Int), v4, ()), ()), rfl, ?_⟩
                  exact wGive ⟨hk4', rfl⟩
              · have hm' := of_decide_eq_false hm
                rw [lexS_end hm']
                refine wJump () rfl ?_
                refine wLA H3 2 (cfgV st.nm st.sc (progV st)) rfl rfl rfl ?_
                refine wSA H3 1 rfl rfl rfl rfl fun w4 H4 => ?_
                refine wLA H4 1 (cfgV st.nm st.sc (progV st)) rfl rfl rfl ?_
                exact wRet ⟨H4.keep, rfl⟩
            · have Hs : ST w [r] w' [RdL r s q e, (b0, cellsO Z23 23), CfL c st] := H.sub (List.sublist_append_left [RdL r s q e, (b0, cellsO Z23 23), CfL c st] _)
              refine wBlkK (fun xs w2 => w2 = w' ∧ xs.1 = !(st.th 1 && st.th 2)) ?_ (fun rest4 => ?_)
              · rintro ⟨b, ⟨⟩⟩ w2 ⟨rfl, hb⟩
                simp only [] at hb
                subst hb
                refine wIf (fun hb => ?_) (fun hb => ?_)
                · rw [Bool.not_eq_true'] at hb
                  refine wL H 3 (a : Int) rfl rfl rfl ?_
                  exact wGive (ResourceR.fault H (if_pos hb))
                · rw [Bool.not_eq_false'] at hb
                  refine wLA H 2 (cfgV st.nm st.sc (progV st)) rfl rfl rfl ?_
                  refine wCall (together_c st.nm st.sc (progV st) w2) ?_
                  rintro x w3 ⟨rfl, hk3⟩
                  refine ⟨(_, ()), rfl, ?_⟩
                  rw [togB_prog]
                  have H3 := H.made hk3
                  refine wIf (fun ht => ?_) (fun ht => ?_)
                  · have ht' : togB (fullV st) = false := by simpa using ht
                    refine wL H3 3 (a : Int) rfl rfl rfl ?_
                    exact wGive (ResourceR.fault H3 (by rw [if_neg (by rw [hb]; simp), if_pos ht']))
                  · have ht' : togB (fullV st) = true := by simpa using ht
                    exact wJump () rfl (rest3 () w3 ⟨w3, Hs.made hk3, rfl, hb, ht'⟩)
              · refine wLookup Tryz.underlying53 Tryz.underlying9 info3 info3z H 5 rfl ?_
                rw [hlb]
                refine wIf (fun h1 => wJump (_, ()) rfl (rest4 _ _ ⟨rfl, ?_⟩)) (fun h1 => ?_)
                · cases ht : st.th 1 with
                  | true => rw [ht] at h1; cases h1
                  | false => rfl
                · refine wLookup Tryz.underlying53 Tryz.underlying9 info3 info3z H 5 rfl ?_
                  rw [hls]
                  refine wJump (_, ()) rfl (rest4 _ _ ⟨rfl, ?_⟩)
                  cases ht : st.th 1 with
                  | false => rw [ht] at h1; cases h1
                  | true => cases st.th 2 <;> rfl
          · have hcl' := of_decide_eq_false hcl
            rw [if_neg hcl'] at hpr
            refine wL H 3 k rfl rfl rfl ?_
            refine wIf (fun h1 => ?_) (fun h1 => ?_)
            · have h1' : k ≠ 0 := by simpa using h1
              rw [if_pos h1'] at hpr
              refine wL H 3 (a : Int) rfl rfl rfl ?_
              exact wGive (hfault H hpr)
            have h1' : k = 0 := by simpa using h1
            rw [if_neg (by simpa using h1')] at hpr
            refine wBlkK (fun xs w2 => w2 = w' ∧ xs.1 = decide (v ≠ protocolS ∧ v ≠ deviceS ∧ v ≠ netS ∧ v ≠ syncerS)) ?_ (fun rest3 => ?_)
            · rintro ⟨b, ⟨⟩⟩ w2 ⟨rfl, hb⟩
              simp only [] at hb
              subst hb
              refine wIf (fun hb => ?_) (fun hb => ?_)
              · have hb' := of_decide_eq_true hb
                rw [if_pos hb'] at hpr
                refine wL H 3 (a : Int) rfl rfl rfl ?_
                exact wGive (hfault H hpr)
              · have hb' := of_decide_eq_false hb
                rw [if_neg hb'] at hpr
                refine wL H 3 v rfl rfl rfl ?_
                refine wLookup Tryz.underlying53 Tryz.underlying9 info3 info3z H 4 rfl ?_
                by_cases hh : hasK seen v = true
                · rw [if_pos hh] at hpr
                  refine wIft (by rw [if_pos hh]; rfl) ?_
                  refine wL H 3 (a : Int) rfl rfl rfl ?_
                  exact wGive (hfault H hpr)
                · have hh' : hasK seen v = false := by simpa using hh
                  refine wIff (by rw [if_neg hh]; rfl) ?_
                  exact wJump () rfl (rest () _ ⟨rfl, hcl', h1', hb', hh'⟩)
            · refine wL H 3 v rfl rfl rfl ?_
              refine wIf (fun h2 => ?_) (fun h2 => wJump (_, ()) rfl (rest3 _ _ ⟨rfl, ?_⟩))
              · rw [str_eq] at h2
                have h2' : v ≠ protocolS := by simpa using h2
                refine wL H 3 v rfl rfl rfl ?_
                refine wIf (fun h3 => ?_) (fun h3 => wJump (_, ()) rfl (rest3 _ _ ⟨rfl, ?_⟩))
                · rw [str_eq] at h3
                  have h3' : v ≠ deviceS := by simpa using h3
                  refine wL H 3 v rfl rfl rfl ?_
                  refine wIf (fun h4 => ?_) (fun h4 => wJump (_, ()) rfl (rest3 _ _ ⟨rfl, ?_⟩))
                  · rw [str_eq] at h4
                    have h4' : v ≠ netS := by simpa using h4
                    refine wL H 3 v rfl rfl rfl ?_
                    refine wJump (_, ()) rfl (rest3 _ _ ⟨rfl, ?_⟩)
                    show (!(v.toList == _)) = decide _
                    rw [str_eq, ← decide_not]
                    apply decide_eq_decide.2
                    exact ⟨fun h => ⟨h2', h3', h4', h⟩, fun h => h.2.2.2⟩
                  · rw [str_eq] at h4
                    have h4' : v = netS := by simpa using h4
                    show false = decide _
                    rw [decide_eq_false (fun h => h.2.2.1 h4')]
                · rw [str_eq] at h3
                  have h3' : v = deviceS := by simpa using h3
                  show false = decide _
                  rw [decide_eq_false (fun h => h.2.1 h3')]
              · rw [str_eq] at h2
                have h2' : v = protocolS := by simpa using h2
                show false = decide _
                rw [decide_eq_false (fun h => h.1 h2')]
        · refine wL H 3 k rfl rfl rfl ?_
          refine wIf (fun h1 => ?_) (fun h1 => wJump (_, ()) rfl (rest2 _ _ ⟨rfl, ?_⟩))
          · have h1' : k = 1 := by simpa using h1
            refine wL H 3 v rfl rfl rfl ?_
            refine wJump (_, ()) rfl (rest2 _ _ ⟨rfl, ?_⟩)
            show (v.toList == _) = decide _
            rw [str_eq]
            apply decide_eq_decide.2
            exact ⟨fun h => ⟨h1', h⟩, fun h => h.2⟩
          · have h1' : k ≠ 1 := by simpa using h1
            show false = decide _
            rw [decide_eq_false (fun h => h1' h.1)]

end Go.Proofs.Cf
