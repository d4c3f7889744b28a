/-
  Calls: what is lent to a callee and handed back; the abstract machine's calls are the model's.
-/
import Derived.Test.YtfbnfdcbcobogaaGreatDoorAb13
namespace Go.Ab

/-! ### Lending -/
section
variable {w0 : World} {ρ : Nat → Option Nat} {O S : Nat → Prop} {h : Hp} {w : World}

theorem Stab.lend {q : Bool} {b : Nat} (h : Stab O S w q b) : Stab (fun _ => False) (fun x => O x ∨ S x) w q b :=
  ⟨h.1, fun e => e, fun hq e => e.elim h.2.1 (h.2.2 hq)⟩

mutual
theorem VR.lendTree : ∀ (x : AV) (v : Value), VR O S w (fun _ => none) x v → VR (fun _ => False) (fun x => O x ∨ S x) w (fun _ => none) x v
  | .undef, _, _ => by simp [VR]
  | .int k n, _, h => by simpa [VR] using h
  | .bool b, _, h => by simpa [VR] using h
  | .str l, _, h => by simpa [VR] using h
  | .val v, _, h => by simpa [VR] using h
  | .agg cs, v, h => by
    simp only [VR] at h ⊢
    obtain ⟨vs, e, h⟩ := h
    exact ⟨vs, e, VRs.lendTree cs vs h⟩
  | .tup cs, v, h => by
    simp only [VR] at h ⊢
    obtain ⟨vs, e, h⟩ := h
    exact ⟨vs, e, VRs.lendTree cs vs h⟩
  | .lst q z n cs, v, h => by
    simp only [VR] at h ⊢
    obtain ⟨a, cap, e, hc, hsp, hst, hm⟩ := h
    exact ⟨a, cap, e, hc, hsp, hst.imp id Stab.lend, VRM.lendTree cs a.block a.off hm⟩
  | .tptr q cs, v, h => by
    simp only [VR] at h ⊢
    obtain ⟨a, e, hsp, hst, hm⟩ := h
    exact ⟨a, e, hsp, hst.imp id Stab.lend, VRM.lendTree cs a.block a.off hm⟩
  | .ptr b o, v, h => by simp [VR] at h
  | .sl b o n z, v, h => by simp [VR] at h
  | .fn f caps, v, h => by
    simp only [VR] at h ⊢
    obtain ⟨vs, e, h⟩ := h
    exact ⟨vs, e, VRs.lendTree caps vs h⟩
  | .mv f caps, v, h => by
    simp only [VR] at h ⊢
    obtain ⟨vs, e, h⟩ := h
    exact ⟨vs, e, VRs.lendTree caps vs h⟩
  | .mapr b, v, h => by simp [VR] at h
  | .mtree q ks vs, v, h => by
    simp only [VR] at h ⊢
    obtain ⟨cb, ms, clock, e, hst, hh, hk, hv⟩ := h
    exact ⟨cb, ms, clock, e, hst.lend, hh, hk, VRs.lendTree vs _ hv⟩
  | .iface t x, v, h => by
    simp only [VR] at h ⊢
    obtain ⟨u, e, h⟩ := h
    exact ⟨u, e, VR.lendTree x u h⟩
theorem VRs.lendTree : ∀ (cs : List AV) (vs : List Value), VRs O S w (fun _ => none) cs vs → VRs (fun _ => False) (fun x => O x ∨ S x) w (fun _ => none) cs vs
  | [], _, h => by simpa [VRs] using h
  | c :: cs, _, h => by
    simp only [VRs] at h ⊢
    obtain ⟨v, r, e, h1, h2⟩ := h
    exact ⟨v, r, e, VR.lendTree c v h1, VRs.lendTree cs r h2⟩
theorem VRM.lendTree : ∀ (cs : List AV) (b o : Nat), VRM O S w (fun _ => none) cs b o → VRM (fun _ => False) (fun x => O x ∨ S x) w (fun _ => none) cs b o
  | [], _, _, _ => by simp [VRM]
  | c :: cs, b, o, h => by
    simp only [VRM] at h ⊢
    obtain ⟨⟨v, h1, h2⟩, h3⟩ := h
    exact ⟨⟨v, h1, VR.lendTree c v h2⟩, VRM.lendTree cs b (o + 1) h3⟩
end

theorem block_ok (I : Inv w0 ρ O S h w) {b cb : Nat} {e : TypeId} {cs : List AV} (hb : ρ b = some cb) (hg : h.get b = some (.cells e cs)) : O cb ∧ VRM O S w ρ cs cb 0 := by
  obtain ⟨hO, vs, ex, fr, h1, _, h3⟩ := I.blk b cb _ hb hg
  refine ⟨hO, VRM_of_vals h3 fun j v hj => ?_⟩
  have hlt : j < vs.length := (List.getElem?_eq_some_iff.1 hj).1
  rw [Nat.zero_add]
  simp only [World.cell?, h1]
  simp [List.getElem?_append_left hlt, hj]

mutual
theorem lend_ok (I : Inv w0 ρ O S h w) : ∀ (d : Nat) (x y : AV) (v : Value), lendAV h d x = some y → VR O S w ρ x v → VR (fun _ => False) (fun x => O x ∨ S x) w (fun _ => none) y v
  | 0, _, _, _, e, _ => by simp [lendAV] at e
  | d + 1, x, y, v, e, hx => by
    unfold lendAV at e
    split at e
    · injection e with e; subst e; exact hx
    · injection e with e; subst e; exact hx
    · injection e with e; subst e; exact hx
    · injection e with e; subst e; exact hx
    · split at e
      · rename_i r hr
        injection e with e
        subst e
        obtain ⟨vs, e, hvs⟩ := hx
        exact ⟨vs, e, lends_ok I d _ _ vs hr hvs⟩
      · cases e
    · split at e
      · rename_i r hr
        injection e with e
        subst e
        obtain ⟨vs, e, hvs⟩ := hx
        exact ⟨vs, e, lends_ok I d _ _ vs hr hvs⟩
      · cases e
    · injection e with e
      subst e
      obtain ⟨a, cap, e, hc, hsp, hst, hm⟩ := hx
      exact ⟨a, cap, e, hc, hsp, hst.imp id Stab.lend, VRM.lendTree _ _ _ hm⟩
    · injection e with e
      subst e
      obtain ⟨a, e, hsp, hst, hm⟩ := hx
      exact ⟨a, e, hsp, hst.imp id Stab.lend, VRM.lendTree _ _ _ hm⟩
    · rename_i b o n z
      split at e
      · rename_i t cs hg
        split at e
        · rename_i cs1 h1
          split at e
          · rename_i cs2 h2
            split at e
            · rename_i r hr
              injection e with e
              subst e
              obtain ⟨cb, hcb, hu⟩ := hx
              obtain ⟨hO, hm⟩ := block_ok I hcb hg
              obtain ⟨hle1, rfl⟩ := dropX_some.1 h1
              obtain ⟨hle2, rfl⟩ := takeX_some.1 h2
              have hm' := (hm.drop o).take (n * z)
              rw [Nat.zero_add] at hm'
              have hst : Stab (fun _ => False) (fun x => O x ∨ S x) w true cb := ⟨(I.own cb hO).2, fun e => e, fun e => by cases e⟩
              rcases hu with ⟨cap, e, sz, hu, hc, _, _⟩ | ⟨hn, a, hsp, hu⟩
              · exact ⟨⟨cb, o, none⟩, cap, hu, hc, rfl, .inr hst, lendM_ok I d _ _ cb o hr hm'⟩
              · subst hn
                rw [show Nat.mul 0 z = 0 from Nat.zero_mul z, List.take_zero] at hr
                have hr0 : r = [] := by
                  cases d with
                  | zero => simp [lendAVs] at hr
                  | succ d => simp [lendAVs] at hr; exact hr
                subst hr0
                exact ⟨a, 0, hu, Nat.le_refl _, hsp, .inl rfl, trivial⟩
            · cases e
          · cases e
        · cases e
      · cases e
    · injection e with e
      subst e
      obtain ⟨cb, ms, clock, e, hst, hh, hk, hv⟩ := hx
      exact ⟨cb, ms, clock, e, hst.lend, hh, hk, VRs.lendTree _ _ hv⟩
    · rename_i b
      split at e
      · rename_i c es hg
        split at e
        · rename_i r hr
          injection e with e
          subst e
          obtain ⟨cb, hcb, hu⟩ := hx
          obtain ⟨hO, ms, h1, h2, _, h4⟩ := I.blk b cb _ hcb hg
          rw [mapL_eq] at hr
          exact ⟨cb, ms, c, hu, ⟨(I.own cb hO).2, fun e => e, fun e => by cases e⟩, h1, by rw [h2, mapL_eq], lends_ok I d _ _ _ hr h4⟩
        · cases e
      · cases e
    · split at e
      · rename_i r hr
        injection e with e
        subst e
        obtain ⟨vs, e, hvs⟩ := hx
        exact ⟨vs, e, lends_ok I d _ _ vs hr hvs⟩
      · cases e
    · split at e
      · rename_i r hr
        injection e with e
        subst e
        obtain ⟨vs, e, hvs⟩ := hx
        exact ⟨vs, e, lends_ok I d _ _ vs hr hvs⟩
      · cases e
    · split at e
      · rename_i r hr
        injection e with e
        subst e
        obtain ⟨u, e, hu⟩ := hx
        exact ⟨u, e, lend_ok I d _ _ u hr hu⟩
      · cases e
    · cases e
theorem lends_ok (I : Inv w0 ρ O S h w) : ∀ (d : Nat) (xs ys : List AV) (vs : List Value), lendAVs h d xs = some ys → VRs O S w ρ xs vs → VRs (fun _ => False) (fun x => O x ∨ S x) w (fun _ => none) ys vs
  | 0, _, _, _, e, _ => by simp [lendAVs] at e
  | d + 1, [], ys, vs, e, hx => by
    simp [lendAVs] at e
    subst e
    exact hx
  | d + 1, c :: cs, ys, vs, e, hx => by
    unfold lendAVs at e
    split at e
    · rename_i r hr
      split at e
      · rename_i rs hrs
        injection e with e
        subst e
        obtain ⟨v, us, rfl, hv, hus⟩ := hx
        exact ⟨v, us, rfl, lend_ok I d _ _ v hr hv, lends_ok I d _ _ us hrs hus⟩
      · cases e
    · cases e
theorem lendM_ok (I : Inv w0 ρ O S h w) : ∀ (d : Nat) (xs ys : List AV) (b o : Nat), lendAVs h d xs = some ys → VRM O S w ρ xs b o → VRM (fun _ => False) (fun x => O x ∨ S x) w (fun _ => none) ys b o
  | 0, _, _, _, _, e, _ => by simp [lendAVs] at e
  | d + 1, [], ys, b, o, e, hx => by
    simp [lendAVs] at e
    subst e
    trivial
  | d + 1, c :: cs, ys, b, o, e, hx => by
    unfold lendAVs at e
    split at e
    · rename_i r hr
      split at e
      · rename_i rs hrs
        injection e with e
        subst e
        obtain ⟨⟨v, h1, h2⟩, h3⟩ := hx
        exact ⟨⟨v, h1, lend_ok I d _ _ v hr h2⟩, lendM_ok I d _ _ b (o + 1) hrs h3⟩
      · cases e
    · cases e
end

theorem lend_inv (I : Inv w0 ρ O S h w) : Inv w0 (fun _ => none) (fun _ => False) (fun x => O x ∨ S x) Hp.empty w where
  base := I.base
  dom _ _ e := by cases e
  blk _ _ _ e := by cases e
  inj _ _ _ _ _ e := by cases e
  own _ e := e.elim
  lent x e := e.elim (I.own x) (I.lent x)
end

/-! ### Handing back -/
section
variable {w0 : World} {ρ ρ' : Nat → Option Nat} {O S O' : Nat → Prop} {h h' : Hp} {w w' : World}

/-- A callee's stable memory is the caller's. -/
theorem Stab.give {b : Nat} (h : Stab O' (fun x => O x ∨ S x) w' false b) : Stab O S w' false b :=
  ⟨h.1, fun e => h.2.2 rfl (.inl e), fun _ e => h.2.2 rfl (.inr e)⟩

theorem give_own (I : Inv w0 ρ O S h w) (E : Ext (fun _ => none) (fun _ => False) (fun x => O x ∨ S x) w ρ' O' (fun x => O x ∨ S x) w') {cb : Nat} (hO : O' cb) (hlt : cb < w'.heap.size) : Stab O S w' false cb := by
  have hge : w.heap.size ≤ cb := by
    rcases Nat.lt_or_ge cb w.heap.size with q | q
    · exact (E.own cb q hO).elim
    · exact q
  exact ⟨hlt, fun e => by have := (I.own cb e).2; omega, fun _ e => by have := (I.lent cb e).2; omega⟩

mutual
theorem give_ok (I : Inv w0 ρ O S h w) (I' : Inv w0 ρ' O' (fun x => O x ∨ S x) h' w') (E : Ext (fun _ => none) (fun _ => False) (fun x => O x ∨ S x) w ρ' O' (fun x => O x ∨ S x) w') :
    ∀ (d : Nat) (x y : AV) (v : Value), giveAV h' d x = some y → VR O' (fun x => O x ∨ S x) w' ρ' x v → VR O S w' (fun _ => none) y v
  | 0, _, _, _, e, _ => by simp [giveAV] at e
  | d + 1, x, y, v, e, hx => by
    unfold giveAV at e
    split at e
    · injection e with e; subst e; exact hx
    · injection e with e; subst e; exact hx
    · injection e with e; subst e; exact hx
    · injection e with e; subst e; exact hx
    · split at e
      · rename_i r hr
        injection e with e
        subst e
        obtain ⟨vs, e, hvs⟩ := hx
        exact ⟨vs, e, gives_ok I I' E d _ _ vs hr hvs⟩
      · cases e
    · split at e
      · rename_i r hr
        injection e with e
        subst e
        obtain ⟨vs, e, hvs⟩ := hx
        exact ⟨vs, e, gives_ok I I' E d _ _ vs hr hvs⟩
      · cases e
    · rename_i q z n cs
      split at e
      · split at e
        · rename_i r hr
          injection e with e
          subst e
          obtain ⟨a, cap, e, hc, hsp, hst, hm⟩ := hx
          refine ⟨a, cap, e, hc, hsp, ?_, giveM_ok I I' E d _ _ _ _ hr hm.wide⟩
          rcases hst with rfl | hst
          · left
            cases d with
            | zero => simp [giveAVs] at hr
            | succ d => simp [giveAVs] at hr; exact hr
          · exact .inr hst.give
        · cases e
      · split at e
        · injection e with e
          subst e
          obtain ⟨a, cap, e, hc, hsp, hst, hm⟩ := hx
          exact ⟨a, cap, e, hc, hsp, .inl rfl, trivial⟩
        · cases e
    · rename_i b o n z
      split at e
      · rename_i t cs hg
        split at e
        · rename_i cs1 h1
          split at e
          · rename_i cs2 h2
            split at e
            · rename_i r hr
              injection e with e
              subst e
              obtain ⟨cb, hcb, hu⟩ := hx
              obtain ⟨hO, hm⟩ := block_ok I' hcb hg
              obtain ⟨hle1, rfl⟩ := dropX_some.1 h1
              obtain ⟨hle2, rfl⟩ := takeX_some.1 h2
              have hm' := (hm.drop o).take (n * z)
              rw [Nat.zero_add] at hm'
              have hst : Stab O S w' false cb := give_own I E hO (I'.own cb hO).2
              rcases hu with ⟨cap, e, sz, hu, hc, _, _⟩ | ⟨hn, a, hsp, hu⟩
              · exact ⟨⟨cb, o, none⟩, cap, hu, hc, rfl, .inr hst, giveM_ok I I' E d _ _ cb o hr hm'⟩
              · subst hn
                rw [show Nat.mul 0 z = 0 from Nat.zero_mul z, List.take_zero] at hr
                have hr0 : r = [] := by
                  cases d with
                  | zero => simp [giveAVs] at hr
                  | succ d => simp [giveAVs] at hr; exact hr
                subst hr0
                exact ⟨a, 0, hu, Nat.le_refl _, hsp, .inl rfl, trivial⟩
            · cases e
          · cases e
        · cases e
      · cases e
    · rename_i q ks vs
      split at e
      · split at e
        · rename_i r hr
          injection e with e
          subst e
          obtain ⟨cb, ms, clock, e, hst, hh, hk, hv⟩ := hx
          exact ⟨cb, ms, clock, e, hst.give, hh, hk, gives_ok I I' E d _ _ _ hr hv.wide⟩
        · cases e
      · cases e
    · rename_i b
      split at e
      · rename_i c es hg
        split at e
        · rename_i r hr
          injection e with e
          subst e
          obtain ⟨cb, hcb, hu⟩ := hx
          obtain ⟨hO, ms, h1, h2, _, h4⟩ := I'.blk b cb _ hcb hg
          rw [mapL_eq] at hr
          exact ⟨cb, ms, c, hu, give_own I E hO (I'.own cb hO).2, h1, by rw [h2, mapL_eq], gives_ok I I' E d _ _ _ hr h4⟩
        · cases e
      · cases e
    · split at e
      · rename_i r hr
        injection e with e
        subst e
        obtain ⟨vs, e, hvs⟩ := hx
        exact ⟨vs, e, gives_ok I I' E d _ _ vs hr hvs⟩
      · cases e
    · split at e
      · rename_i r hr
        injection e with e
        subst e
        obtain ⟨vs, e, hvs⟩ := hx
        exact ⟨vs, e, gives_ok I I' E d _ _ vs hr hvs⟩
      · cases e
    · split at e
      · rename_i r hr
        injection e with e
        subst e
        obtain ⟨u, e, hu⟩ := hx
        exact ⟨u, e, give_ok I I' E d _ _ u hr hu⟩
      · cases e
    · cases e
theorem gives_ok (I : Inv w0 ρ O S h w) (I' : Inv w0 ρ' O' (fun x => O x ∨ S x) h' w') (E : Ext (fun _ => none) (fun _ => False) (fun x => O x ∨ S x) w ρ' O' (fun x => O x ∨ S x) w') :
    ∀ (d : Nat) (xs ys : List AV) (vs : List Value), giveAVs h' d xs = some ys → VRs O' (fun x => O x ∨ S x) w' ρ' xs vs → VRs O S w' (fun _ => none) ys vs
  | 0, _, _, _, e, _ => by simp [giveAVs] at e
  | d + 1, [], ys, vs, e, hx => by
    simp [giveAVs] at e
    subst e
    exact hx
  | d + 1, c :: cs, ys, vs, e, hx => by
    unfold giveAVs at e
    split at e
    · rename_i r hr
      split at e
      · rename_i rs hrs
        injection e with e
        subst e
        obtain ⟨v, us, rfl, hv, hus⟩ := hx
        exact ⟨v, us, rfl, give_ok I I' E d _ _ v hr hv, gives_ok I I' E d _ _ us hrs hus⟩
      · cases e
    · cases e
theorem giveM_ok (I : Inv w0 ρ O S h w) (I' : Inv w0 ρ' O' (fun x => O x ∨ S x) h' w') (E : Ext (fun _ => none) (fun _ => False) (fun x => O x ∨ S x) w ρ' O' (fun x => O x ∨ S x) w') :
    ∀ (d : Nat) (xs ys : List AV) (b o : Nat), giveAVs h' d xs = some ys → VRM O' (fun x => O x ∨ S x) w' ρ' xs b o → VRM O S w' (fun _ => none) ys b o
  | 0, _, _, _, _, e, _ => by simp [giveAVs] at e
  | d + 1, [], ys, b, o, e, hx => by
    simp [giveAVs] at e
    subst e
    trivial
  | d + 1, c :: cs, ys, b, o, e, hx => by
    unfold giveAVs at e
    split at e
    · rename_i r hr
      split at e
      · rename_i rs hrs
        injection e with e
        subst e
        obtain ⟨⟨v, h1, h2⟩, h3⟩ := hx
        exact ⟨⟨v, h1, give_ok I I' E d _ _ v hr h2⟩, giveM_ok I I' E d _ _ b (o + 1) hrs h3⟩
      · cases e
    · cases e
end

theorem give_step (E : Ext (fun _ => none) (fun _ => False) (fun x => O x ∨ S x) w ρ' O' (fun x => O x ∨ S x) w') : Ext ρ O S w ρ O S w' :=
  ⟨fun _ _ e => e, E.size, fun x hx _ => E.old x hx (fun e => e), fun _ _ e => e, fun _ _ e => e, E.shape⟩

theorem give_inv (I : Inv w0 ρ O S h w) (I' : Inv w0 ρ' O' (fun x => O x ∨ S x) h' w') (E : Ext (fun _ => none) (fun _ => False) (fun x => O x ∨ S x) w ρ' O' (fun x => O x ∨ S x) w') : Inv w0 ρ O S h w' where
  base := I'.base
  dom := I.dom
  blk b cb x hb hg := by
    have h1 := I.blk b cb x hb hg
    cases x with
    | dead => trivial
    | _ =>
      have hO := h1.own trivial
      exact h1.step (give_step (ρ := ρ) E).step (fun _ _ e => e) hO (E.old cb (I.own cb hO).2 fun e => e)
  inj := I.inj
  own x hx := ⟨(I.own x hx).1, Nat.lt_of_lt_of_le (I.own x hx).2 E.size⟩
  lent x hx := ⟨(I.lent x hx).1, Nat.lt_of_lt_of_le (I.lent x hx).2 E.size⟩
end

/-! ### A call -/
section
variable {C : Ctx} {w0 : World} {call : FuncId → List AV → Hp → Option (AV × Hp)}

mutual
theorem lend_up {h h' : Hp} (L : HpLe h h') : ∀ (d : Nat) (x y : AV), lendAV h d x = some y → lendAV h' d x = some y
  | 0, _, _, e => by simp [lendAV] at e
  | d + 1, x, y, e => by
    unfold lendAV at e ⊢
    cases x with
    | agg cs =>
      simp only at e ⊢
      split at e
      · rename_i r hr; rw [lends_up L d _ _ hr]; exact e
      · cases e
    | tup cs =>
      simp only at e ⊢
      split at e
      · rename_i r hr; rw [lends_up L d _ _ hr]; exact e
      · cases e
    | sl b o n z =>
      simp only at e ⊢
      split at e
      · rename_i t cs hg
        rw [L _ _ hg]
        simp only
        split at e
        · split at e
          · split at e
            · rename_i r hr; rw [lends_up L d _ _ hr]; exact e
            · cases e
          · cases e
        · cases e
      · cases e
    | mapr b =>
      simp only at e ⊢
      split at e
      · rename_i c es hg
        rw [L _ _ hg]
        simp only
        split at e
        · rename_i r hr; rw [lends_up L d _ _ hr]; exact e
        · cases e
      · cases e
    | fn f cs =>
      simp only at e ⊢
      split at e
      · rename_i r hr; rw [lends_up L d _ _ hr]; exact e
      · cases e
    | mv f cs =>
      simp only at e ⊢
      split at e
      · rename_i r hr; rw [lends_up L d _ _ hr]; exact e
      · cases e
    | iface t v =>
      simp only at e ⊢
      split at e
      · rename_i r hr; rw [lend_up L d _ _ hr]; exact e
      · cases e
    | _ => exact e
theorem lends_up {h h' : Hp} (L : HpLe h h') : ∀ (d : Nat) (xs ys : List AV), lendAVs h d xs = some ys → lendAVs h' d xs = some ys
  | 0, _, _, e => by simp [lendAVs] at e
  | d + 1, [], ys, e => by simpa [lendAVs] using e
  | d + 1, c :: cs, ys, e => by
    unfold lendAVs at e ⊢
    split at e
    · rename_i r hr
      rw [lend_up L d _ _ hr]
      simp only
      split at e
      · rename_i rs hrs
        rw [lends_up L d _ _ hrs]
        exact e
      · cases e
    · cases e
end

theorem keep_of {h h' : Hp} {x : Option AV} {v : AV} (e : keep h x = some (v, h')) : x = some v ∧ h' = h := keep_some e

/-- No function with a text is one of those that the model makes itself. -/
def NamesOK (P : Program) : Prop := ∀ (f : Nat) (fn : Func), P.funcs[f]? = some fn → fn.name ≠ "runtime.NumGoroutine"

/-- What the shelf's functions are held to. -/
structure OrcOK (C : Ctx) (w0 : World) : Prop where
  ok : ∀ f g, C.orc f = some g → CallOK C w0 f g
  ent : ∀ f g, C.orc f = some g → ∀ args h r, g args h = some r → Enters C.P f = true
  pure : ∀ f g, C.orc f = some g → C.pure f = true → ∀ args h v k, g args h = some (v, k) → k = h ∧ ∀ h', HpLe h h' → g args h' = some (v, h')
  rnd : C.pure rndF = false
  memo : ∀ f args r, C.memo f args = some r → ∀ S w vs, Inv w0 (fun _ => none) (fun _ => False) S Hp.empty w → VRs (fun _ => False) S w (fun _ => none) args vs →
    Calls C.P f vs.toArray w fun e w' => ∃ v ρ' O', e = .returned v ∧ Inv w0 ρ' O' S Hp.empty w' ∧ VR O' S w' ρ' r v ∧ Ext (fun _ => none) (fun _ => False) S w ρ' O' S w'
  once : C.once ≠ rndF → ∀ call, Callees C w0 call → CallOK C w0 C.once (onceA call)
  onceE : C.once ≠ rndF → Enters C.P C.once = true
  onceP : C.once ≠ rndF → C.pure C.once = false

/-! ### Leaving -/
theorem Inv.touch {O S : Nat → Prop} {ρ : Nat → Option Nat} {h : Hp} {w : World} (I : Inv w0 ρ O S h w) {D : Nat} (h0 : w0.heap.size ≤ D) (hO : ¬ O D) (hD : w.heap[D]? = some (.deferred (some []))) :
    Inv w0 ρ O S h (w.putObj D (.deferred none)) ∧ Step O S w O S (w.putObj D (.deferred none)) := by
  have hlt := lt_of_heap hD
  have E : Step O S w O S (w.putObj D (.deferred none)) := {
    size := by rw [World.putObj_size]; exact Nat.le_refl _
    old := fun x _ _ => by
      by_cases e : x = D
      · subst e; exact .inr ⟨_, _, hD, World.putObj_heap_same hlt⟩
      · exact .inl (World.putObj_heap_other e)
    own := fun _ _ e => e
    lent := fun _ _ e => e
    shape := fun x _ => by
      by_cases e : x = D
      · subst e; simp only [World.shape?, World.putObj_heap_same hlt, hD]
      · exact shape_of_heap (World.putObj_heap_other e) }
  refine ⟨{ base := ?_, dom := I.dom, blk := ?_, inj := I.inj, own := ?_, lent := ?_ }, E⟩
  · exact I.base.trans ⟨rfl, rfl, rfl, E.size, fun k hk => World.putObj_heap_other (by omega)⟩
  · intro b cb x e hx
    have hb := I.blk b cb x e hx
    cases hal : x with
    | dead => trivial
    | _ =>
      rw [← hal]
      have ho := hb.own (by rw [hal]; trivial)
      exact hb.step E (fun _ _ e => e) ho (World.putObj_heap_other (fun e => hO (e ▸ ho)))
  · intro y hy
    rw [World.putObj_size]
    exact I.own y hy
  · intro y hy
    rw [World.putObj_size]
    exact I.lent y hy

theorem leave_ok {P : Program} {O S : Nat → Prop} {ρ : Nat → Option Nat} {h : Hp} {fn : Func} {tmps : Array Value} {R : Ending → World → Prop} : ∀ (Ds : List Nat) (w : World), Inv w0 ρ O S h w → Ds.Nodup →
    (∀ D, D ∈ Ds → w0.heap.size ≤ D ∧ ¬ O D ∧ w.heap[D]? = some (.deferred (some []))) →
    (∀ w', Inv w0 ρ O S h w' → Step O S w O S w' → (∀ x, x ∉ Ds → w'.heap[x]? = w.heap[x]?) → ∃ v, (results fn tmps).run P w' = .ok v w' ∧ R (.returned v) w') →
    LeavesInM Fence.wide 0 P fn tmps R (Ds.map mark) .returning w := by
  intro Ds
  induction Ds with
  | nil =>
    intro w I _ _ K
    exact K w I ⟨Nat.le_refl _, fun _ _ _ => .inl rfl, fun _ _ e => e, fun _ _ e => e, fun _ _ => rfl⟩ fun _ _ => rfl
  | cons D Ds ih =>
    intro w I nd hD K
    obtain ⟨h0, h1, h2⟩ := hD D (List.mem_cons_self ..)
    rw [List.nodup_cons] at nd
    obtain ⟨I', E'⟩ := I.touch h0 h1 h2
    refine ⟨by simp, .inl ⟨D, _, rfl, run_takeDeferred h2, ?_⟩⟩
    refine ih _ I' nd.2 (fun x hx => ?_) fun w' I2 E2 hs => ?_
    · obtain ⟨a, b, c⟩ := hD x (List.mem_cons_of_mem _ hx)
      exact ⟨a, b, by rw [World.putObj_heap_other (fun e => by subst e; exact nd.1 hx)]; exact c⟩
    · refine K w' I2 ⟨Nat.le_trans E'.size E2.size, fun x hx ho => ?_, fun _ _ e => e, fun _ _ e => e, fun x hx => ?_⟩ fun x hx => ?_
      · have a := E'.old x hx ho
        have b := E2.old x (Nat.lt_of_lt_of_le hx E'.size) ho
        rcases a with a | ⟨p, q, a1, a2⟩
        · rcases b with b | ⟨p, q, b1, b2⟩
          · exact .inl (b.trans a)
          · exact .inr ⟨p, q, by rw [← a]; exact b1, b2⟩
        · rcases b with b | ⟨p', q', b1, b2⟩
          · exact .inr ⟨p, q, a1, by rw [b]; exact a2⟩
          · exact .inr ⟨p, q', a1, b2⟩
      · rw [E2.shape x (Nat.lt_of_lt_of_le hx E'.size), E'.shape x hx]
      · rw [hs x (fun e => hx (List.mem_cons_of_mem _ e)), World.putObj_heap_other (fun e => hx (by rw [e]; exact List.mem_cons_self ..))]

/-! ### Rounds -/
theorem Inv.turnLoop {O S : Nat → Prop} {ρ : Nat → Option Nat} {h : Hp} {w : World} (I : Inv w0 ρ O S h w) {b cb : Nat} {st st' : LS} {pe pe' : Option Exit} {T : Tr AV} {N D : Nat} {ps : List Tmp} {x y : Code} (hb : ρ b = some cb)
    (hg : h.get b = some (.loop st pe T N D ps x y)) {r : Loop} (hr : w.heap[cb]? = some (.loop r)) {pend : Option Code} (hpe : PE pe' pend) {st2 : LoopState} (hst : st2 = st'.st) :
    Inv w0 ρ O S (h.set b (.loop st' pe' T N D ps x y)) (w.putObj cb (.loop { r with state := st2, pending := pend })) ∧ Ext ρ O S w ρ O S (w.putObj cb (.loop { r with state := st2, pending := pend })) := by
  obtain ⟨hO, r', h1, h2, h3, h4, h5, h6, h7, h8⟩ := I.blk b cb _ hb hg
  rw [hr] at h1
  injection h1 with h1
  injection h1 with h1
  subst h1
  have hlt := lt_of_heap hr
  have hsh : (w.putObj cb (.loop { r with state := st2, pending := pend })).shape? cb = w.shape? cb := by simp only [World.shape?, World.putObj_heap_same hlt, hr]
  refine I.set hb hg trivial (by simp) hsh (fun z hz => World.putObj_heap_other hz) rfl rfl rfl ⟨hO, _, World.putObj_heap_same hlt, hst, hpe, h4, h5, h6, h7, fun t v ht => ?_⟩
  refine VR.step ⟨by simp, fun z _ hz => .inl (World.putObj_heap_other (fun e => hz (e ▸ hO))), fun _ _ e => e, fun _ _ e => e, fun z _ => ?_⟩ (fun _ _ e => e) v _ (h8 t v ht)
  by_cases e : z = cb
  · rw [e]; exact hsh
  · exact shape_of_heap (World.putObj_heap_other e)

theorem layK_nil {β : Type} {D N : Nat} {c : Tr AV → Option β} {vs : List AV} {T : Tr AV} : layK D N c [] vs T = match vs with | [] => c T | _ => none := rfl
theorem layK_cons {β : Type} {D N : Nat} {c : Tr AV → Option β} {p : Tmp} {ps : List Tmp} {vs : List AV} {T : Tr AV} : layK D N c (p :: ps) vs T = match vs with
    | [] => none
    | v :: vs => match Nat.blt p N with
      | true => forceAV v fun v => Tr.setK D p T v fun T => layK D N c ps vs T
      | false => none := rfl

theorem layK_ok {β : Type} {O S : Nat → Prop} {ρ : Nat → Option Nat} {w : World} {D N : Nat} {c : Tr AV → Option β} {z : β} : ∀ (ps : List Tmp) (vs : List AV) (T : Tr AV), layK D N c ps vs T = some z →
    ∀ (us : List Value) (tmps : Array Value), VRs O S w ρ vs us → tmps.size = N → (∀ t v, Tr.get D t T = some v → VR O S w ρ v (tmps.getD t undef)) →
    us.length = ps.length ∧ ∃ T', c T' = some z ∧ ((ps.zip us).foldl (fun tmps (t, a) => tmps.setIfInBounds t a) tmps).size = N ∧
      ∀ t v, Tr.get D t T' = some v → VR O S w ρ v (((ps.zip us).foldl (fun tmps (t, a) => tmps.setIfInBounds t a) tmps).getD t undef) := by
  intro ps
  induction ps with
  | nil =>
    intro vs T h us tmps hv hs ht
    rw [layK_nil] at h
    split at h
    · have : us = [] := hv
      subst this
      exact ⟨rfl, T, h, hs, ht⟩
    · cases h
  | cons p ps ih =>
    intro vs T h us tmps hv hs ht
    rw [layK_cons] at h
    split at h
    · cases h
    · rename_i v vs
      split at h
      · rename_i hlt
        have hlt := blt_iff.1 hlt
        rw [forceAV_eq, Tr.setK_eq] at h
        obtain ⟨u, us', rfl, hvu, hv'⟩ := hv
        obtain ⟨h1, T', h2, h3, h4⟩ := ih vs _ h us' (tmps.setIfInBounds p u) hv' (by simpa using hs) fun t x hx => by
          rcases Tr.get_upd hx with ⟨rfl, rfl⟩ | ⟨hne, hx⟩
          · have : (tmps.setIfInBounds t u).getD t undef = u := by simp [hs, hlt]
            rw [this]; exact hvu
          · have : (tmps.setIfInBounds p u).getD t undef = tmps.getD t undef := by
              simp [Array.getElem?_setIfInBounds_ne (Ne.symm hne)]
            rw [this]; exact ht t x hx
        exact ⟨by simp [h1], T', h2, h3, h4⟩
      · cases h

theorem roundA_ok (G : GOK C w0) (H : Callees C w0 call) (n : Nat) : RndOK C w0 (roundA C call n) := by
  intro b args h r h' e ρ O S w cb us I hb hv
  unfold roundA at e
  simp only at e
  split at e
  case h_2 => cases e
  rename_i st0 pe T N D ps x y hget
  split at e
  case h_2 => cases e
  obtain ⟨hO, rec, hr1, hr2, hr3, hr4, hr5, hr6, hr7, hr8⟩ := I.blk b cb _ hb hget
  obtain ⟨hlen, T', he, hsz, htm⟩ := layK_ok ps args T e us rec.tmps hv hr7 hr8
  clear e
  have hy := run_yield (P := C.P) (args := us.toArray) hr1 (by rw [List.size_toArray, hlen, ← hr4]; simp)
  have hfold : (rec.params.zip us.toArray).foldl (fun tmps (t, a) => tmps.setIfInBounds t a) rec.tmps = (ps.zip us).foldl (fun tmps (t, a) => tmps.setIfInBounds t a) rec.tmps := by
    rw [← Array.foldl_toList, ← hr4]
    simp
  rw [hfold] at hy
  rw [hr5, hr6] at hy
  refine ⟨_, _, _, _, hy, roundIn_of_wpIn trivial ?_⟩
  split at he
  case h_2 => cases he
  rename_i e1 s1 hx1
  split at he
  case h_2 => cases he
  split at he
  case h_2 => cases he
  rename_i st1 pe1 T1 N1 D1 ps1 as1 bd1 hget1
  split at he
  case h_2 => cases he
  split at he
  case h_2 => cases he
  rename_i e2 s2 hx2
  split at he
  case h_2 => cases he
  rename_i st2 pe2 T2 N2 D2 ps2 as2 bd2 hget2
  have G' : GOK (C.round D) w0 := G
  have H' : Callees (C.round D) w0 call := ⟨H.ok, H.rnd, H.ent, H.pure⟩
  have R0 : SR (C.round D) w0 [] ρ O S ⟨T', h, N⟩ { tmps := (ps.zip us).foldl (fun tmps (t, a) => tmps.setIfInBounds t a) rec.tmps, defers := [] } w := ⟨I, htm, hsz, rfl⟩
  refine exec_sound G' H' (rd := some cb) (fun e => Bool.noConfusion e) x R0 hx1 _ fun ds1 ρ1 O1 a1 w1 R1 E1 _ => ?_
  have hb1 := E1.sub b cb hb
  obtain ⟨_, r1, hq1, hq2, hq3, _⟩ := R1.inv.blk b cb _ hb1 hget1
  obtain ⟨I2, E2⟩ := R1.inv.turnLoop (st' := .busy) (pe' := pe1) hb1 hget1 hq1 hq3 (st2 := .busy) rfl
  refine ⟨_, run_beginRound hq1 hq2, ?_⟩
  have R2 : SR (C.round D) w0 ds1 ρ1 O1 S ⟨s1.T, s1.h.set b (.loop .busy pe1 T1 N1 D1 ps1 as1 bd1), s1.N⟩ a1 (w1.putObj cb (.loop { r1 with state := .busy })) :=
    ⟨I2, fun t v ht => (R1.tmp t v ht).mono E2, R1.sz, R1.dfr⟩
  refine exec_sound G' H' (rd := some cb) (fun e => Bool.noConfusion e) y R2 hx2 _ fun ds3 ρ3 O3 a3 w3 R3 E3 _ => ?_
  have hb3 := E3.sub b cb hb1
  obtain ⟨_, r3, hp1, _⟩ := R3.inv.blk b cb _ hb3 hget2
  have E13 := (E1.trans E2).trans E3
  cases e2 with
  | normal =>
    simp only [Option.some.injEq, Prod.mk.injEq] at he
    obtain ⟨rfl, rfl⟩ := he
    obtain ⟨I4, E4⟩ := R3.inv.turnLoop (st' := .ready) (pe' := none) hb3 hget2 hp1 (pend := none) rfl (st2 := .ready) rfl
    exact ⟨_, _, run_endRound none hp1, _, ρ3, O3, rfl, I4, rfl, E13.trans E4⟩
  | ret =>
    simp only [Option.some.injEq, Prod.mk.injEq] at he
    obtain ⟨rfl, rfl⟩ := he
    obtain ⟨I4, E4⟩ := R3.inv.turnLoop (st' := .done) (pe' := some .ret) hb3 hget2 hp1 (pend := some .ret) rfl (st2 := .done) rfl
    exact ⟨_, _, run_endRound (some .ret) hp1, _, ρ3, O3, rfl, I4, rfl, E13.trans E4⟩
  | exit id =>
    simp only [Option.some.injEq, Prod.mk.injEq] at he
    obtain ⟨rfl, rfl⟩ := he
    obtain ⟨I4, E4⟩ := R3.inv.turnLoop (st' := .done) (pe' := some (.exit id)) hb3 hget2 hp1 (pend := some (.exit id)) rfl (st2 := .done) rfl
    exact ⟨_, _, run_endRound (some (.exit id)) hp1, _, ρ3, O3, rfl, I4, rfl, E13.trans E4⟩
  | _ => cases he

theorem body_ok (G : GOK C w0) (H : Callees C w0 call) {n : Nat} {f : FuncId} {fn : Func} {c : Code} (hf : C.P.funcs[f]? = some fn) (hc : fn.body = some c) {ρ : Nat → Option Nat} {O S : Nat → Prop} {h : Hp} {w : World} {args : List AV} {vs : List Value}
    (I : Inv w0 ρ O S h w) (hv : VRs O S w ρ args vs) (hle : args.length ≤ fn.ntmps) {e : Exit} {s : St} (hx : exec (C.at fn) call n c (enter (C.at fn) fn.ntmps args h) = some (e, s)) (hl : leaves e = true) {r : AV} (hr : resAV (C.at fn) s fn.results.toList = some r)
    {R : Ending → World → Prop} (K : ∀ u ρ' O' w', Inv w0 ρ' O' S s.h w' → VR O' S w' ρ' r u → Ext ρ O S w ρ' O' S w' → R (.returned u) w') : Calls C.P f vs.toArray w R := by
  have G' : GOK (C.at fn) w0 := G
  have H' : Callees (C.at fn) w0 call := ⟨H.ok, H.rnd, H.ent, H.pure⟩
  have R0 := enter_SR (C := C.at fn) (m := fn.ntmps) I hv hle
  refine (callsIn_wide (n := 0)).1 (callsIn_of_wp_marks hf hc trivial (exec_sound G' H' (rd := none) (fun _ => rfl) c R0 hx _ fun ds' ρ' O' a' w' R' E' M' => ?_))
  obtain ⟨Ds, hds, nd, hD⟩ := M'
  have hfin : LeavesInM Fence.wide 0 C.P fn a'.tmps R a'.defers .returning w' := by
    rw [R'.dfr, hds, List.append_nil]
    refine leave_ok Ds w' R'.inv nd (fun D hD' => ⟨Nat.le_trans I.base.size (hD D hD').1, (hD D hD').2.1, (hD D hD').2.2⟩) fun w2 I2 E2 hsame => ?_
    have R2 : SR (C.at fn) w0 ds' ρ' O' S s a' w2 := ⟨I2, fun t v ht => VR.step E2 (fun _ _ e => e) v _ (R'.tmp t v ht), R'.sz, R'.dfr⟩
    have hs2 : ∀ x, x < w.heap.size → w2.heap[x]? = w'.heap[x]? := fun x hx => hsame x fun e => by have := (hD x e).1; omega
    obtain ⟨u, hu, hru⟩ := resAV_ok R2 hr
    exact ⟨u, hu, K u ρ' O' w2 I2 hru ⟨E'.sub, Nat.le_trans E'.size E2.size, fun x hx ho => by rw [hs2 x hx]; exact E'.old x hx ho, E'.own, E'.lent, fun x hx => by rw [shape_of_heap (hs2 x hx)]; exact E'.shape x hx⟩⟩
  cases e with
  | normal => exact hfin
  | ret => exact hfin
  | _ => simp [leaves] at hl

theorem funB_ok (G : GOK C w0) (N : NamesOK C.P) (A : OrcOK C w0) (H : Callees C w0 call) (n : Nat) : Callees C w0 fun f => (funB C call n f).f := by
  have hbeq : ∀ {f : Nat}, f ≠ rndF → Nat.beq f rndF = false := fun {f} h => by
    cases hb : Nat.beq f rndF with
    | false => rfl
    | true => exact absurd (Nat.eq_of_beq_eq_true hb) h
  constructor
  · intro f hne args h r h' e ρ O S w vs I hv
    simp only [funB, hbeq hne] at e
    split at e
    · rename_i ho
      have ho := Nat.eq_of_beq_eq_true ho
      subst ho
      exact A.once hne call H args h r h' e ρ O S w vs I hv
    split at e
    · rename_i g hg
      exact A.ok f g hg args h r h' e ρ O S w vs I hv
    · split at e
      · cases e
      · rename_i fn hf
        split at e
        · cases e
        · rename_i c hc
          split at e
          · simp only at e
            split at e
            · cases e
            · rename_i hle
              split at e
              · cases e
              · rename_i largs hla
                split at e
                · rename_i r1 hr1
                  obtain ⟨e1, rfl⟩ := keep_of e
                  refine (A.memo f largs r1 hr1 (fun x => O x ∨ S x) w vs (lend_inv I) (lends_ok I _ _ _ vs hla hv)).mono ?_
                  rintro e w' ⟨u, ρ', O', rfl, I', hru, E'⟩
                  exact ⟨u, ρ, O, rfl, give_inv I I' E', (give_ok I I' E' _ _ _ _ e1 hru).wide, give_step E'⟩
                split at e
                · rename_i x s hx
                  split at e
                  · rename_i hl
                    split at e
                    · rename_i r0 hr0
                      obtain ⟨e1, rfl⟩ := keep_of e
                      have hv' := lends_ok I _ _ _ vs hla hv
                      have hlen : largs.length ≤ fn.ntmps := by
                        have h1 := hv'.length
                        have h2 := hv.length
                        have h3 : args.length ≤ fn.ntmps := Nat.le_of_ble_eq_true hle
                        omega
                      exact body_ok G H hf hc (lend_inv I) hv' hlen hx hl hr0 fun u ρ' O' w' I' hru E' =>
                        ⟨u, ρ, O, rfl, give_inv I I' E', (give_ok I I' E' _ _ _ _ e1 hru).wide, give_step E'⟩
                    · cases e
                  · cases e
                · cases e
          · simp only at e
            split at e
            · cases e
            · rename_i hle
              split at e
              · rename_i x s hx
                split at e
                · rename_i hl
                  obtain ⟨e1, rfl⟩ := keep_of e
                  exact body_ok G H hf hc I hv (Nat.le_of_ble_eq_true hle) hx hl e1 fun u ρ' O' w' I' hru E' => ⟨u, ρ', O', rfl, I', hru, E'⟩
                · cases e
              · cases e
  · exact roundA_ok G H n
  · intro f args h r hne e
    simp only [funB, hbeq hne] at e
    split at e
    · rename_i ho
      have ho := Nat.eq_of_beq_eq_true ho
      subst ho
      exact A.onceE hne
    split at e
    · rename_i g hg
      exact A.ent f g hg args h r e
    · split at e
      · cases e
      · rename_i fn hf
        split at e
        · cases e
        · rename_i c hc
          unfold Enters
          rw [hf]
          simp [hc, N f fn hf]
  · intro f args h v k hp e
    have e : (funB C call n f).f args h = some (v, k) := e
    show k = h ∧ ∀ h', HpLe h h' → (funB C call n f).f args h' = some (v, h')
    by_cases hne : f = rndF
    · exact absurd hp (by rw [hne, A.rnd]; simp)
    simp only [funB, hbeq hne] at e ⊢
    split at e
    · rename_i ho
      have ho := Nat.eq_of_beq_eq_true ho
      subst ho
      rw [A.onceP hne] at hp
      cases hp
    split at e
    · rename_i g hg
      exact A.pure f g hg hp args h v k e
    · split at e
      · cases e
      · split at e
        · cases e
        · rw [hp] at e ⊢
          simp only at e ⊢
          split at e
          · cases e
          · split at e
            · cases e
            · rename_i largs hla
              split at e
              · rename_i r1 hr1
                obtain ⟨e1, e2⟩ := keep_of e
                refine ⟨e2, fun h' L => ?_⟩
                rw [lends_up L _ _ _ hla]
                simp only [hr1, e1]
                rfl
              rename_i hnm
              split at e
              · rename_i x s1 hx
                split at e
                · rename_i hl
                  split at e
                  · rename_i r0 hr
                    obtain ⟨e1, e2⟩ := keep_of e
                    refine ⟨e2, fun h' L => ?_⟩
                    rw [lends_up L _ _ _ hla]
                    simp only [hnm]
                    rw [hx]
                    simp only [hl, hr, e1]
                    rfl
                  · cases e
                · cases e
              · cases e

theorem callN_ok (G : GOK C w0) (N : NamesOK C.P) (A : OrcOK C w0) : ∀ n : Nat, Callees C w0 (callN C n) := by
  intro n
  induction n with
  | zero =>
    constructor
    · intro f _ args h r h' e; cases e
    · intro b args h r h' e; cases e
    · intro f args h r _ e; cases e
    · intro f args h v k _ e; cases e
  | succ n ih => exact funB_ok G N A ih n
end
end Go.Ab
