/- The canonical order's tree serves every order; a region. No statement about the program stands here. -/
import Derived.Test.YtphejmchkmciaaaGreatDoorFe
namespace Go.WF
section
variable {P : Program} {R : Ending → World → Prop} {ops : Array Oper}

theorem count_set {listed : Array Bool} {i : Nat} (h : i < listed.size) (hu : listed.getD i true = false) : (listed.setIfInBounds i true).toList.count false + 1 = listed.toList.count false := by
  have hl : i < listed.toList.length := by simpa using h
  have hg : listed.toList[i] = false := by
    simp only [Array.getD_eq_getD_getElem?] at hu
    simp [h] at hu
    simpa using hu
  rw [Array.toList_setIfInBounds, List.count_set hl]
  have hpos : 0 < listed.toList.count false := List.count_pos_iff.2 (by rw [← hg]; exact List.getElem_mem hl)
  have e1 : (listed.toList[i] == false) = true := by rw [hg]; rfl
  have e2 : ((true : Bool) == false) = false := rfl
  rw [e1, e2, if_pos rfl, if_neg (by simp)]
  omega

theorem wp_hold {l : List (Addr × List Value)} {k : T} {w : World} (h : (holdT l k).wp P R w) : (∀ p ∈ l, cellsAt w p.1 p.2) ∧ k.wp P R w := by
  unfold holdT at h
  split at h
  · exact ⟨fun p hp => (by cases hp), h⟩
  · simp only [T.wp] at h; exact h

/-- Where a walk of the tree stands. -/
structure At (P : Program) (ops : Array Oper) (d : List Deferred) (fr0 : Fr) (L : Loads) (D : List Nat) (fr : Fr) (fuel : Nat) (listed : Array Bool) (a : Act) (w : World) : Prop where
  down : Down ops listed
  size : listed.size = ops.size
  fuel : listed.toList.count false ≤ fuel
  come : ∀ x ∈ D, listed.getD x false = true ∧ isEff P ops x = true
  held : V P ops L listed w
  agr : Agr fr a.tmps
  defers : a.defers = d
  out : Out (dstsOps ops.toList) fr0 fr

theorem At.step {d : List Deferred} {fr0 fr fr' : Fr} {L L' : Loads} {D D' : List Nat} {fuel : Nat} {listed : Array Bool} {a : Act} {w w' : World} {i : Nat} {o : Oper} {v : Value} (h : At P ops d fr0 L D fr (fuel + 1) listed a w)
    (hr : i ∈ Region.ready .any ops listed) (ho : ops[i]? = some o) (hout : Out (dstsOps ops.toList) fr fr') (hag : Agr fr' a.tmps) (hD : ∀ x ∈ D', x = i ∧ isEff P ops i = true ∨ x ∈ D) (hV : V P ops L' (listed.setIfInBounds i true) w') :
    At P ops d fr0 L' D' (put fr' o.dst v) fuel (listed.setIfInBounds i true) (a.put o.dst v) w' := by
  obtain ⟨hun, hsz, _⟩ := ready_spec hr
  refine ⟨h.down.set hr, by simpa using h.size, ?_, ?_, hV, hag.put _ _, by cases o.dst <;> exact h.defers, (h.out.trans hout).trans (Out.put fun t ht => mem_dstsOps ht (Array.mem_toList_iff.2 (Array.mem_of_getElem? ho)))⟩
  · have := count_set hsz hun
    have := h.fuel
    omega
  · intro x hx
    rw [getD_set _ _ _ _ hsz]
    rcases hD x hx with ⟨rfl, he⟩ | hx
    · exact ⟨by simp, he⟩
    · have := h.come x hx
      refine ⟨?_, this.2⟩
      split
      · rfl
      · exact this.1

theorem fuel_pos {d : List Deferred} {fr0 fr : Fr} {L : Loads} {D : List Nat} {fuel : Nat} {listed : Array Bool} {a : Act} {w : World} {i : Nat} (h : At P ops d fr0 L D fr fuel listed a w) (hr : i ∈ Region.ready .any ops listed) : ∃ n, fuel = n + 1 := by
  obtain ⟨hun, hsz, _⟩ := ready_spec hr
  have := count_set hsz hun
  have := h.fuel
  exact ⟨fuel - 1, by omega⟩

theorem tree_sound {d : List Deferred} {fr0 : Fr} {K : Fr → T} (hsel : Region.noSelect ops = true) : ∀ (t : OT),
    (∀ (L : Loads) (D : List Nat) (fr : Fr) (fuel : Nat) (listed : Array Bool) (a : Act) (w : World), okT P ops t listed [] = true → At P ops d fr0 L D fr fuel listed a w →
      (compTree P ops t L D fr K).wp P R w → wpAnyV P ops (QR R d (NextK P R (dstsOps ops.toList) fr0 d K)) L fuel listed a w) ∧
    (∀ (i : Nat) (t1 t2 : OT), t = .eff i t1 t2 → ∀ (before : List Nat) (L : Loads) (D : List Nat) (fr : Fr) (fuel : Nat) (listed : Array Bool) (a : Act) (w : World), okT P ops t listed before = true → At P ops d fr0 L D fr (fuel + 1) listed a w →
      (compTree P ops t L D fr K).wp P R w → ∃ rs, rs ≠ [] ∧ Region.ready .any ops listed = before.reverse ++ rs ∧
        ∀ j ∈ rs, wpOp P ops (QR R d (NextK P R (dstsOps ops.toList) fr0 d K)) j (fun a' w' => V P ops L (listed.setIfInBounds j true) w' ∧
          wpAnyV P ops (QR R d (NextK P R (dstsOps ops.toList) fr0 d K)) L fuel (listed.setIfInBounds j true) a' w') a w) := by
  have hns := Region.noSelect_spec hsel
  intro t
  induction t with
  | fin =>
    refine ⟨fun L D fr fuel listed a w hok hat hw => ?_, fun i t1 t2 h => by cases h⟩
    have hr : Region.ready .any ops listed = [] := by simpa [okT] using hok
    have hq : QR R d (NextK P R (dstsOps ops.toList) fr0 d K) .normal a w := ⟨fr, hat.agr, hat.defers, hat.out, hw⟩
    cases fuel with
    | zero => exact ⟨hr, hq⟩
    | succ n => exact ⟨fun _ => hq, by rw [hr]; simp⟩
  | take i t ih =>
    refine ⟨fun L D fr fuel listed a w hok hat hw => ?_, fun i t1 t2 h => by cases h⟩
    simp only [okT, Bool.and_eq_true, Bool.not_eq_true', List.contains_iff_mem] at hok
    obtain ⟨⟨⟨hr, hfree⟩, heff⟩, hok'⟩ := hok
    obtain ⟨fuel, rfl⟩ := fuel_pos hat hr
    obtain ⟨hun, hsz, oi, hoi, hdeps⟩ := ready_spec hr
    simp only [compTree, hoi] at hw
    split at hw
    case isFalse => exact hw.elim
    rename_i hkn
    simp only [opsKnown, Bool.and_eq_true] at hkn
    obtain ⟨fr', h', hout, hkno, hg⟩ := guard_sound hat.agr hw
    have hk' : oi.op.operands.all (known fr') = true := Array.all_eq_true'.2 fun x hx => hkno x (Array.all_eq_true'.1 hkn.1 x hx)
    have hex : execOp a.eval oi = execOp (ev fr') oi := h'.exec (fun cs b => hns i oi cs b hoi) hk'
    have hQ : ∀ v c (a : Act) w, QR R d (NextK P R (dstsOps ops.toList) fr0 d K) (.panic c) (a.put oi.dst v) w → QR R d (NextK P R (dstsOps ops.toList) fr0 d K) (.panic c) a w := fun v c a w h => by
      refine ⟨h.1, ?_⟩
      have := h.2
      cases hd : oi.dst <;> simpa [Act.put, hd] using this
    split at hg
    · rename_i hwant
      split at hg
      · split at hg
        · rename_i c v hv
          rw [chk_iff] at hg
          refine wpAnyV_first hoi heff hns (hQ v) fuel listed a w hat.down (Region.free_spec hoi hfree) hr (.inl ⟨hwant, fun l' w' _ _ _ => by rw [hex]; exact pureOp_run hv hg.1 w'⟩) hat.held ?_
          exact ih.1 L D _ fuel _ _ w hok' (hat.step hr hoi hout h' (fun x hx => .inr hx) (hat.held.set hsz)) hg.2
        · exact hg.elim
      · split at hg
        · rename_i k ad c hl
          rw [chk_iff] at hg
          obtain ⟨hc, hg⟩ := hg
          simp only [T.wp] at hg
          obtain ⟨x, hx, hg⟩ := hg
          have hV' : V P ops ((i, ad, k.cells x) :: L) listed w := fun p hp => by
            rcases List.mem_cons.1 hp with rfl | hp
            · exact .inr hx
            · exact hat.held p hp
          refine wpAnyV_mono (L' := (i, ad, k.cells x) :: L) (fun p hp => List.mem_cons_of_mem _ hp) _ _ _ _ ?_
          refine wpAnyV_first hoi heff hns (hQ (k.enc x)) fuel listed a w hat.down (Region.free_spec hoi hfree) hr (.inl ⟨hwant, fun l' w' hd' hun' hv' => ?_⟩) hV' ?_
          · rw [hex]
            rcases hv' (i, ad, k.cells x) (List.mem_cons_self ..) with ⟨e, h1, _, h3⟩ | hcell
            · have := hd'.waits _ _ h3 (.inl h1)
              rw [hun'] at this; cases this
            · exact loadOp_run hl hc x hcell
          · exact ih.1 _ D _ fuel _ _ w hok' (hat.step hr hoi hout h' (fun x hx => .inr hx) (hV'.set hsz)) hg
        · exact hg.elim
    · rename_i hwant
      refine wpAnyV_first hoi heff hns (hQ undef) fuel listed a w hat.down (Region.free_spec hoi hfree) hr (.inr ⟨by simpa using hwant, rfl⟩) hat.held ?_
      exact ih.1 L D _ fuel _ _ w hok' (hat.step hr hoi hout h' (fun x hx => .inr hx) (hat.held.set hsz)) hg
  | eff i t more iht ihm =>
    have key : ∀ (before : List Nat) (L : Loads) (D : List Nat) (fr : Fr) (fuel : Nat) (listed : Array Bool) (a : Act) (w : World), okT P ops (.eff i t more) listed before = true → At P ops d fr0 L D fr (fuel + 1) listed a w →
      (compTree P ops (.eff i t more) L D fr K).wp P R w → ∃ rs, rs ≠ [] ∧ Region.ready .any ops listed = before.reverse ++ rs ∧
        ∀ j ∈ rs, wpOp P ops (QR R d (NextK P R (dstsOps ops.toList) fr0 d K)) j (fun a' w' => V P ops L (listed.setIfInBounds j true) w' ∧
          wpAnyV P ops (QR R d (NextK P R (dstsOps ops.toList) fr0 d K)) L fuel (listed.setIfInBounds j true) a' w') a w := by
      intro before L D fr fuel listed a w hok hat hw
      unfold okT at hok
      simp only [Bool.and_eq_true] at hok
      obtain ⟨⟨heff, hok1⟩, hok2⟩ := hok
      -- the one operation
      have one : ∀ (hr : i ∈ Region.ready .any ops listed), (match ops[i]? with
          | none => T.stuck
          | some o => if opsKnown ops fr o then guardT ops o fr
            (fun fr => effOp P (ev fr) o fun v => holdT ((L.filter fun p => !waitsT ops ops.size i p.1 && !(D.any fun d => waitsT ops ops.size d p.1)).map (·.2)) (compTree P ops t L (i :: D) (put fr o.dst v) K))
            (fun fr => compTree P ops t L (i :: D) (put fr o.dst undef) K) else .stuck : T).wp P R w →
          wpOp P ops (QR R d (NextK P R (dstsOps ops.toList) fr0 d K)) i (fun a' w' => V P ops L (listed.setIfInBounds i true) w' ∧
            wpAnyV P ops (QR R d (NextK P R (dstsOps ops.toList) fr0 d K)) L fuel (listed.setIfInBounds i true) a' w') a w := by
        intro hr hw
        obtain ⟨hun, hsz, oi, hoi, hdeps⟩ := ready_spec hr
        simp only [hoi] at hw
        split at hw
        case isFalse => exact hw.elim
        rename_i hkn
        simp only [opsKnown, Bool.and_eq_true] at hkn
        obtain ⟨fr', h', hout, hkno, hg⟩ := guard_sound hat.agr hw
        have hk' : oi.op.operands.all (known fr') = true := Array.all_eq_true'.2 fun x hx => hkno x (Array.all_eq_true'.1 hkn.1 x hx)
        have hex : execOp a.eval oi = execOp (ev fr') oi := h'.exec (fun cs b => hns i oi cs b hoi) hk'
        have hD : ∀ x ∈ i :: D, x = i ∧ isEff P ops i = true ∨ x ∈ D := fun x hx => (List.mem_cons.1 hx).imp (fun h => ⟨h, heff⟩) id
        unfold wpOp
        simp only [hoi]
        split
        · rename_i hwant
          simp only [hwant, if_true] at hg
          refine .inl ?_
          unfold Oper.wp
          rw [hex]
          refine eff_sound (fun v w' hv => ?_) (fun c w' hr => ⟨hr, hat.defers⟩) (fun w' hr => ⟨a, w', hr⟩) (fun _ => rfl) hg
          obtain ⟨hh, hv⟩ := wp_hold hv
          have hV : V P ops L (listed.setIfInBounds i true) w' := fun p hp => by
            by_cases h1 : waitsT ops ops.size i p.1 = true
            · exact .inl ⟨i, by rw [getD_set _ _ _ _ hsz]; simp, heff, h1⟩
            · by_cases h2 : (D.any fun d => waitsT ops ops.size d p.1) = true
              · obtain ⟨x, hx, hxw⟩ := List.any_eq_true.1 h2
                have hc := hat.come x hx
                refine .inl ⟨x, ?_, hc.2, hxw⟩
                rw [getD_set _ _ _ _ hsz]
                split
                · rfl
                · exact hc.1
              · refine .inr (hh p.2 (List.mem_map.2 ⟨p, List.mem_filter.2 ⟨hp, ?_⟩, rfl⟩))
                simp only [Bool.not_eq_true] at h1 h2
                simp [h1, h2]
          exact ⟨hV, iht.1 L (i :: D) _ fuel _ _ w' hok1 (hat.step hr hoi hout h' hD hV) hv⟩
        · rename_i hwant
          simp only [hwant] at hg
          have hV := hat.held.set hsz
          exact ⟨hV, iht.1 L (i :: D) _ fuel _ _ w hok1 (hat.step hr hoi hout h' hD hV) hg⟩
      cases more with
      | fin =>
        simp only [beq_iff_eq] at hok2
        have hr : i ∈ Region.ready .any ops listed := by rw [hok2]; simp
        refine ⟨[i], by simp, by rw [hok2]; simp, fun j hj => ?_⟩
        rw [List.mem_singleton.1 hj]
        exact one hr hw
      | take _ _ => cases hok2
      | eff i2 t2 more2 =>
        obtain ⟨hw1, hw2⟩ : _ ∧ _ := by simpa only [compTree, T.wp] using hw
        obtain ⟨rs, hne, hready, hall⟩ := ihm.2 i2 t2 more2 rfl (i :: before) L D fr fuel listed a w hok2 hat hw2
        have hr : i ∈ Region.ready .any ops listed := by rw [hready]; simp
        refine ⟨i :: rs, by simp, by rw [hready]; simp, fun j hj => ?_⟩
        rcases List.mem_cons.1 hj with rfl | hj
        · exact one hr hw1
        · exact hall j hj
    refine ⟨fun L D fr fuel listed a w hok hat hw => ?_, fun i' t1 t2 h => by cases h; exact key⟩
    cases fuel with
    | zero =>
      exfalso
      -- something may come up, so something is not listed
      have hat1 : At P ops d fr0 L D fr (0 + 1) listed a w := { hat with fuel := Nat.le_succ_of_le hat.fuel }
      obtain ⟨rs, hne, hready, _⟩ := key [] L D fr 0 listed a w hok hat1 hw
      obtain ⟨j, hj⟩ := List.exists_mem_of_ne_nil rs hne
      have hr : j ∈ Region.ready .any ops listed := by rw [hready]; simpa using hj
      obtain ⟨n, hn⟩ := fuel_pos hat hr
      cases hn
    | succ n =>
      obtain ⟨rs, hne, hready, hall⟩ := key [] L D fr n listed a w hok hat hw
      simp only [List.reverse_nil, List.nil_append] at hready
      exact ⟨fun h0 => absurd (hready ▸ h0) hne, by rw [hready]; exact hall⟩

theorem region_sound (hm : P.follows .mixedOrders = true) {id : Nat} {draw : Bool} {fr : Fr} {a : Act} {w : World} {K : Fr → T} (h : Agr fr a.tmps) (hw : (compRegion P ops draw fr K).wp P R w) :
    (Code.region id ops draw).wp P (QR R a.defers (NextK P R (dstsOps ops.toList) fr a.defers K)) a w := by
  unfold compRegion at hw
  split at hw
  · rename_i hd
    subst hd
    simp only at hw
    split at hw
    · rename_i hok
      simp only [Bool.and_eq_true] at hok
      simp only [T.wp] at hw
      refine wp_region_any hm (wpAny_of_V (L := []) _ _ _ _ ?_)
      refine (tree_sound hok.2 _).1 [] [] fr _ _ _ _ hok.1 ⟨?_, by simp, ?_, (fun x hx => by cases hx), (fun p hp => by cases hp), h, rfl, Out.refl _ _⟩ hw
      · intro j oj hj hl
        have : (Array.replicate ops.size false).getD j false = false := by
          simp only [Array.getD_eq_getD_getElem?, Array.getElem?_replicate]
          split <;> rfl
        rw [this] at hl; cases hl
      · simp
    · exact hw.elim
  · rename_i hd
    have : draw = false := by simpa using hd
    subst this
    exact text_region h hw
end
end Go.WF
