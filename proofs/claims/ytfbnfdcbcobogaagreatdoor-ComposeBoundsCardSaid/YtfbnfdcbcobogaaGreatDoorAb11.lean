/-
  Regions: two operations that are apart may change places; so the model's regions, in whatever order they run, end where the abstract machine ends.
-/
import Derived.Test.YtfbnfdcbcobogaaGreatDoorAb10
namespace Go.Ab

section
variable {C : Ctx} {ops : Array Oper} {o x y : Oper} {s s' s1 s2 : St} {call : FuncId → List AV → Hp → Option (AV × Hp)} {v : AV} {h h' : Hp}

/-- What a call of a function that is said to be pure does to the caller's heap: nothing; and more in the heap changes nothing. -/
def Quiet (C : Ctx) (call : FuncId → List AV → Hp → Option (AV × Hp)) : Prop :=
  ∀ f args h v k, C.pure f = true → call f args h = some (v, k) → k = h ∧ ∀ h', HpLe h h' → call f args h' = some (v, h')

theorem look_up {h h' : Hp} (L : HpLe h h') {x : AV} {cs : List AV} (e : look h x = some cs) : look h' x = some cs := by
  unfold look at e ⊢
  split at e
  · split at e
    · rename_i hg; rw [L _ _ hg]; exact e
    · cases e
  · exact e
  · cases e
theorem slCells_up {h h' : Hp} (L : HpLe h h') {x : AV} {cs : List AV} (e : slCells h x = some cs) : slCells h' x = some cs := by
  unfold slCells at e ⊢
  split at e
  · split at e
    · rename_i hg; rw [L _ _ hg]; exact e
    · cases e
  · exact e
  · exact e
  · exact e
  · cases e
theorem mapOf_up {h h' : Hp} (L : HpLe h h') {x : AV} {es : List (Value × AV)} (e : mapOf h x = some es) : mapOf h' x = some es := by
  unfold mapOf at e ⊢
  split at e
  · split at e
    · rename_i hg; rw [L _ _ hg]; exact e
    · cases e
  · exact e
  · exact e
  · cases e

theorem ev_heap (x : Operand) (h : Hp) : ev C x { s with h := h } = ev C x s := by cases x <;> rfl
theorem evs_heap (xs : List Operand) (h : Hp) : evs C xs { s with h := h } = evs C xs s := evs_congr fun x _ => ev_heap x h
theorem pureOp_heap (xs : List Operand) (h : Hp) : pureOp C o xs { s with h := h } = pureOp C o xs s := by
  unfold pureOp
  rw [evs_heap]
  have : opVal C { s with h := h } = opVal C s := funext fun x => by simp only [opVal, ev_heap]
  rw [this]
theorem bnds_heap {lo hi : Option Operand} (n : Nat) (h : Hp) : bndsA C lo hi n { s with h := h } = bndsA C lo hi n s := bnds_congr (fun y _ => ev_heap y h) (fun y _ => ev_heap y h) n

/-- What a step reads: the heap stays, and more in it changes nothing. -/
structure Rd (r : Option (AV × Hp)) (r' : Option (AV × Hp)) (h h' : Hp) : Prop where
  same : ∀ v k, r = some (v, k) → k = h ∧ r' = some (v, h')
theorem Rd.none {r : Option (AV × Hp)} (h h' : Hp) : Rd Option.none r h h' := ⟨fun _ _ e => nomatch e⟩
theorem Rd.some (h h' : Hp) (x : AV) : Rd (some (x, h)) (some (x, h')) h h' := ⟨fun v k e => by injection e with e; injection e with e1 e2; subst e1; subst e2; exact ⟨rfl, rfl⟩⟩
theorem Rd.keep (h h' : Hp) (r : Option AV) : Rd (Go.Ab.keep h r) (Go.Ab.keep h' r) h h' := by
  cases r with
  | none => exact Rd.none ..
  | some x => exact Rd.some ..

/-- What reads memory leaves it as it is. -/
theorem stepOp_reads (hcall : Quiet C call) (hc : opClass C o = 1) {h' : Hp} (L : HpLe s.h h') : Rd (stepOp C call o s) (stepOp C call o { s with h := h' }) s.h h' := by
  unfold opClass at hc
  unfold stepOp stepOpB
  cases ho : o.op <;> simp only [ho] at hc <;> try cases hc
  case buildSlice => split at hc <;> cases hc
  case load t x =>
    simp only [loadA, ev_heap]
    split
    · rename_i cs hcs
      rw [look_up L hcs]
      exact Rd.keep ..
    · exact Rd.none ..
  case lookup t x ix ok =>
    simp only [lookupB]
    split
    · split
      · simp only [ev_heap]
        split
        · split
          · rename_i es hes
            rw [mapOf_up L hes]
            simp only
            split
            · split
              · split
                · split
                  · split <;> exact Rd.some ..
                  · exact Rd.none ..
                · split <;> exact Rd.some ..
              · exact Rd.none ..
            · exact Rd.none ..
          · exact Rd.none ..
        · exact Rd.none ..
      · exact Rd.none ..
    · exact Rd.none ..
  case slice t x lo hi mx =>
    split at hc
    · rename_i hu
      dsimp only
      split
      · exact Rd.none ..
      · simp only [sliceB, hu]
        split
        · simp only [ev_heap, bnds_heap]
          split
          · split
            · split
              · rename_i hg
                rw [L _ _ hg]
                simp only
                split
                · exact Rd.some ..
                · exact Rd.none ..
              · exact Rd.none ..
            · exact Rd.none ..
          · split
            · split
              · split
                · exact Rd.some ..
                · exact Rd.none ..
              · exact Rd.none ..
            · exact Rd.none ..
          · exact Rd.none ..
        · exact Rd.none ..
    · cases hc
  case convert src dst x =>
    split at hc
    · cases hc
    · rename_i hu
      simp only [convertB, hu]
      split
      · rename_i e _; cases e
      · split
        · simp only [ev_heap]
          split
          · rename_i cs hcs
            rw [slCells_up L hcs]
            simp only
            split
            · split
              · split
                · exact Rd.some ..
                · exact Rd.none ..
              · exact Rd.none ..
            · exact Rd.none ..
          · exact Rd.none ..
        · exact Rd.none ..
      · simp only [ev_heap]
        split
        · exact Rd.some ..
        · exact Rd.none ..
      · rename_i e _; cases e
      · simp only [pureOp_heap]; exact Rd.keep ..
      · rename_i e _; cases e
      · rename_i e _; cases e
      · exact Rd.none ..
    · rename_i hu
      simp only [convertB, hu]
      split
      · rename_i e _; cases e
      · rename_i e _; cases e
      · rename_i e _; cases e
      · rename_i e _; cases e
      · rename_i e _; cases e
      · split
        · split
          · exact Rd.none ..
          · simp only [ev_heap]
            split
            · split
              · rename_i hg
                rw [L _ _ hg]
                simp only
                split
                · exact Rd.some ..
                · exact Rd.none ..
              · exact Rd.none ..
            · exact Rd.none ..
        · exact Rd.none ..
      · rename_i e _; cases e
      · exact Rd.none ..
    · rename_i hu
      simp only [convertB, hu]
      split
      · rename_i e _; cases e
      · rename_i e _; cases e
      · rename_i e _; cases e
      · rename_i e _; cases e
      · rename_i e _; cases e
      · rename_i e _; cases e
      · split
        · simp only [ev_heap]
          split
          · split
            · split
              · rename_i hg
                rw [L _ _ hg]
                simp only
                split
                · exact Rd.some ..
                · exact Rd.none ..
              · exact Rd.none ..
            · exact Rd.none ..
          · exact Rd.none ..
        · exact Rd.none ..
      · exact Rd.none ..
    · cases hc
  case call c =>
    obtain ⟨callee, args, ts⟩ := c
    simp only [callB]
    split
    · rename_i b
      simp only [builtinB]
      split
      · cases hc
      · simp only [lenB]
        split
        · rename_i x t ha hts
          simp only [hts] at hc
          split at hc
          · rename_i hu
            simp only [hu, ev_heap]
            split
            · rename_i es hes
              rw [mapOf_up L hes]
              exact Rd.some ..
            · exact Rd.none ..
          · cases hc
        · exact Rd.none ..
      · cases hc
      · cases hc
      · cases hc
      · cases hc
      · cases hc
      · cases hc
      · exact Rd.none ..
    · rename_i f
      cases f with
      | func f =>
        simp only at hc
        split at hc
        · cases hc
        · rename_i hsame
          split at hc
          · cases hc
          · rename_i hext
            split at hc
            · rename_i hp
              simp only [callFB, hsame, hext]
              split
              · exact Rd.none ..
              · simp only [evs_heap]
                exact ⟨fun v k e => let ⟨h1, h2⟩ := hcall _ _ _ _ _ hp e; ⟨h1, h2 _ L⟩⟩
            · cases hc
      | _ =>
        simp only at hc
        split at hc
        · rename_i hd
          simp only [hd, evs_heap, ev_heap]
          split
          · split
            · rename_i hp
              split
              · exact Rd.none ..
              · exact ⟨fun v k e => let ⟨h1, h2⟩ := hcall _ _ _ _ _ hp e; ⟨h1, h2 _ L⟩⟩
            · exact Rd.none ..
          · split
            · rename_i hp
              split
              · exact Rd.none ..
              · exact ⟨fun v k e => let ⟨h1, h2⟩ := hcall _ _ _ _ _ hp e; ⟨h1, h2 _ L⟩⟩
            · exact Rd.none ..
          · exact Rd.none ..
        · cases hc
    · cases hc

/-- What makes memory leaves what is there. -/
theorem stepOp_makes (hc : opClass C o = 3) {k : Hp} (h : stepOp C call o s = some (v, k)) : HpLe s.h k := by
  unfold opClass at hc
  unfold stepOp stepOpB at h
  have fin : ∀ {x : AV} {b : Blk}, some (x, s.h.new b) = some (v, k) → HpLe s.h k := fun e => by
    injection e with e
    injection e with _ e
    subst e
    exact HpLe.new _ _
  cases ho : o.op <;> simp only [ho] at hc h <;> try cases hc
  case alloc e =>
    simp only [allocB] at h
    split at h
    · split at h
      · exact fin h
      · cases h
    · cases h
  case box e x =>
    simp only [boxA] at h
    split at h
    · exact fin h
    · cases h
  case buildSlice t n ps =>
    split at hc
    · cases hc
    · rename_i hd
      simp only [buildSliceB, hd] at h
      split at h
      · split at h
        · split at h
          · simp only at h
            split at h
            · exact fin h
            · cases h
          · cases h
        · cases h
      · cases h
  case makeSlice t l c =>
    simp only [makeSliceB] at h
    split at h
    · split at h
      · split at h
        · simp only at h
          split at h
          · split at h
            · exact fin h
            · cases h
          · cases h
        · cases h
      · cases h
    · cases h
  case makeMap t r =>
    simp only [makeMapB] at h
    split at h
    · split at h
      · exact fin h
      · simp only at h
        split at h
        · exact fin h
        · cases h
    · cases h
  case slice t x lo hi mx => split at hc <;> cases hc
  case convert src dst x =>
    split at hc
    · rename_i hu
      simp only [convertB, hu] at h
      split at h
      · split at h
        · simp only at h
          split at h
          · exact fin h
          · cases h
        · cases h
      · rename_i e _; cases e
      · rename_i e _; cases e
      · rename_i e _; cases e
      · rename_i e _; cases e
      · rename_i e _; cases e
      · rename_i e _; cases e
      · cases h
    · cases hc
    · cases hc
    · cases hc
    · cases hc
  case call c =>
    split at hc
    · split at hc
      · split at hc <;> cases hc
      · cases hc
    · cases hc
    · cases hc
    · cases hc
    · cases hc
    · split at hc
      · cases hc
      · split at hc
        · cases hc
        · split at hc <;> cases hc
    · split at hc <;> cases hc
    · cases hc

theorem wanted_congr (hd : ∀ t, t ∈ o.looksAt ops → Tr.get C.D t s'.T = Tr.get C.D t s.T) : wantedA C ops o s' = wantedA C ops o s := by
  unfold wantedA wantedB
  cases hg : o.guard with
  | none => rfl
  | some gd =>
    obtain ⟨j, want⟩ := gd
    simp only [nth_eq]
    split
    · rfl
    · rename_i p hp
      have hp' : ops[j]? = some p := by simpa using hp
      split
      · rfl
      · rename_i t ht
        have := hd t (by simp [Oper.looksAt, hg, hp', ht])
        simp only [this]

theorem agree_of (hd : ∀ t, t ∈ o.looksAt ops → Tr.get C.D t s'.T = Tr.get C.D t s.T) : Agree C ops o s s' := by
  refine ⟨fun x hx => ?_, wanted_congr hd⟩
  cases x with
  | tmp t =>
    have := hd t (by
      refine List.mem_append_left _ (List.mem_filterMap.2 ⟨.tmp t, by simpa using hx, rfl⟩))
    show (match Tr.get C.D t s'.T with | some v => v | none => .undef) = (match Tr.get C.D t s.T with | some v => v | none => .undef)
    rw [this]
  | _ => rfl

theorem agree_put (ha : ∀ d, x.dst = some d → d ∉ y.looksAt ops) : Agree C ops y (putS C x.dst s h v) s :=
  agree_of fun t ht => (putS_get (fun e => ha t e ht)).symm
theorem agree_put' (ha : ∀ d, x.dst = some d → d ∉ y.looksAt ops) : Agree C ops y s (putS C x.dst s h v) :=
  agree_of fun t ht => putS_get (fun e => ha t e ht)

theorem resO_congr (A : Agree C ops o s s') (hh : s'.h = s.h) : resO C call ops o s' = resO C call ops o s := by
  unfold resO
  rw [A.wanted, stepOp_congr A.ev hh, hh]
theorem resO_blind (hc : opClass C o = 0) (A : Agree C ops o s s') : Blind (resO C call ops o s) (resO C call ops o s') s.h s'.h := by
  unfold resO
  rw [A.wanted]
  split
  · split
    · exact stepOp_blind hc A.ev
    · exact Blind.some ..
  · exact Blind.none ..
theorem resO_reads (hcall : Quiet C call) (hc : opClass C o = 1) {h' : Hp} (L : HpLe s.h h') : Rd (resO C call ops o s) (resO C call ops o { s with h := h' }) s.h h' := by
  unfold resO
  have hw : wantedA C ops o { s with h := h' } = wantedA C ops o s := wanted_congr fun _ _ => rfl
  rw [hw]
  split
  · split
    · exact stepOp_reads hcall hc L
    · exact Rd.some ..
  · exact Rd.none ..
theorem resO_makes (hc : opClass C o = 3) {k : Hp} (h : resO C call ops o s = some (v, k)) : HpLe s.h k := by
  unfold resO at h
  split at h
  · split at h
    · exact stepOp_makes hc h
    · simp only [Option.some.injEq, Prod.mk.injEq] at h
      rw [← h.2]
      exact HpLe.refl _
  · cases h

theorem stepOper_some (h : stepOper C call ops o s = some s') : ∃ v k, resO C call ops o s = some (v, k) ∧ s' = putS C o.dst s k v := by
  rw [stepOper_eq] at h
  split at h
  · rename_i p hp
    obtain ⟨v, k⟩ := p
    simp only [Option.some.injEq] at h
    exact ⟨v, k, hp, h.symm⟩
  · cases h
theorem stepOper_of {k : Hp} (h : resO C call ops o s = some (v, k)) : stepOper C call ops o s = some (putS C o.dst s k v) := by
  rw [stepOper_eq, h]

theorem commute (hcall : Quiet C call) (hi : indep C ops x y = true) (h1 : stepOper C call ops x s = some s1) (h2 : stepOper C call ops y s1 = some s2) :
    ∃ t, stepOper C call ops y s = some t ∧ stepOper C call ops x t = some s2 := by
  obtain ⟨v1, k1, r1, rfl⟩ := stepOper_some h1
  obtain ⟨v2, k2, r2, rfl⟩ := stepOper_some h2
  unfold indep at hi
  split at hi
  case h_2 => cases hi
  rename_i hap
  obtain ⟨a1, a2, a3⟩ := Oper.apart_spec hap
  have Ay : Agree C ops y (putS C x.dst s k1 v1) s := agree_put a1
  have Ax : ∀ k, Agree C ops x s (putS C y.dst s k v2) := fun k => agree_put' a3
  have zero_y : opClass C y = 0 → ∃ t, stepOper C call ops y s = some t ∧ stepOper C call ops x t = some (putS C y.dst (putS C x.dst s k1 v1) k2 v2) := fun hy => by
    obtain ⟨e1, e2⟩ := (resO_blind (call := call) hy Ay).same _ _ r2
    rw [putS_h] at e1
    subst e1
    refine ⟨_, stepOper_of e2, ?_⟩
    rw [stepOper_of (v := v1) (k := k2) (by rw [resO_congr (Ax _) (putS_h ..)]; exact r1)]
    rw [putS_comm a2]
  have zero_x : opClass C x = 0 → ∃ t, stepOper C call ops y s = some t ∧ stepOper C call ops x t = some (putS C y.dst (putS C x.dst s k1 v1) k2 v2) := fun hx => by
    have e0 := ((resO_blind (call := call) hx (Ax k2)).same _ _ r1)
    obtain ⟨e1, e2⟩ := e0
    rw [putS_h] at e2
    subst e1
    have r2' : resO C call ops y s = some (v2, k2) := by
      rw [resO_congr Ay (by rw [putS_h])]
      exact r2
    refine ⟨_, stepOper_of r2', ?_⟩
    rw [stepOper_of e2]
    rw [putS_comm a2]
  have both : opClass C x = 1 → opClass C y = 1 → ∃ t, stepOper C call ops y s = some t ∧ stepOper C call ops x t = some (putS C y.dst (putS C x.dst s k1 v1) k2 v2) := fun hx hy => by
    have e1 := ((resO_reads hcall hx (HpLe.refl _)).same _ _ r1).1
    have e2 := ((resO_reads hcall hy (HpLe.refl _)).same _ _ r2).1
    rw [putS_h] at e2
    subst e2
    subst e1
    have r2' : resO C call ops y s = some (v2, s.h) := by
      rw [resO_congr Ay (by rw [putS_h])]
      exact r2
    refine ⟨_, stepOper_of r2', ?_⟩
    rw [stepOper_of (v := v1) (k := s.h) (by rw [resO_congr (Ax _) (putS_h ..)]; exact r1)]
    rw [putS_comm a2]
  have make : opClass C x = 1 → opClass C y = 3 → ∃ t, stepOper C call ops y s = some t ∧ stepOper C call ops x t = some (putS C y.dst (putS C x.dst s k1 v1) k2 v2) := fun hx hy => by
    have e1 := ((resO_reads hcall hx (HpLe.refl _)).same _ _ r1).1
    subst e1
    have r2' : resO C call ops y s = some (v2, k2) := by
      rw [resO_congr Ay (by rw [putS_h])]
      exact r2
    have L := resO_makes hy r2'
    have r1' := ((resO_reads hcall hx L).same _ _ r1).2
    refine ⟨_, stepOper_of r2', ?_⟩
    have A' : Agree C ops x { s with h := k2 } (putS C y.dst s k2 v2) := agree_of fun t ht => putS_get (fun e => a3 t e ht)
    rw [stepOper_of (v := v1) (k := k2) (by rw [resO_congr A' (putS_h ..)]; exact r1')]
    rw [putS_comm a2]
  split at hi
  · rename_i hx; exact zero_x hx
  · rename_i hy _; exact zero_y hy
  · rename_i hx hy; exact both hx hy
  · rename_i hx hy; exact make hx hy
  · cases hi

theorem runOps_nil : runOps C call ops [] s = some s := rfl
theorem runOps_cons {l : List Oper} : runOps C call ops (o :: l) s = match stepOper C call ops o s with | some s => runOps C call ops l s | none => none := rfl

theorem runOps_front (hcall : Quiet C call) {r : List Oper} : ∀ (l : List Oper) {s s' : St}, (∀ x, x ∈ l → indep C ops x y = true) → runOps C call ops (l ++ y :: r) s = some s' →
    ∃ t, stepOper C call ops y s = some t ∧ runOps C call ops (l ++ r) t = some s' := by
  intro l
  induction l with
  | nil =>
    intro s s' _ h
    rw [List.nil_append, runOps_cons] at h
    split at h
    · rename_i t ht; exact ⟨t, ht, h⟩
    · cases h
  | cons x l ih =>
    intro s s' hl h
    rw [List.cons_append, runOps_cons] at h
    split at h
    · rename_i s1 h1
      obtain ⟨t, ht, hr⟩ := ih (fun z hz => hl z (List.mem_cons_of_mem _ hz)) h
      obtain ⟨u, hu, hxu⟩ := commute hcall (hl x (List.mem_cons_self ..)) h1 ht
      refine ⟨u, hu, ?_⟩
      rw [List.cons_append, runOps_cons, hxu]
      exact hr
    · cases h
end

/-! ### One operation of a region -/
section
variable {rd : Option Nat} {C : Ctx} {w0 : World} {ds : List Deferred} {ρ : Nat → Option Nat} {O S : Nat → Prop} {s s' : St} {a : Act} {w : World} {o : Oper} {ops : Array Oper} {call : FuncId → List AV → Hp → Option (AV × Hp)}

theorem wanted_ok (R : SR C w0 ds ρ O S s a w) {b : Bool} (h : wantedA C ops o s = some b) : Region.wanted o (yielded ops a.tmps) = b := by
  unfold wantedA wantedB at h
  unfold Region.wanted
  cases hg : o.guard with
  | none => rw [hg] at h; injection h
  | some gd =>
    obtain ⟨j, want⟩ := gd
    rw [hg] at h
    simp only [nth_eq] at h
    simp only
    split at h
    · cases h
    · rename_i p hp
      have hp' : ops[j]? = some p := by simpa using hp
      split at h
      · cases h
      · rename_i t ht
        simp only at h
        split at h
        · cases h
        · rename_i v hv
          have hr := R.tmp t v hv
          split at h
          · rename_i c
            have hr' : a.tmps.getD t undef = .bool c := hr
            have hr2 : a.tmps[t]? = some (.bool c) := by
              rcases Nat.lt_or_ge t a.tmps.size with q | q
              · simp [q] at hr' ⊢; exact hr'
              · simp [Array.getElem?_eq_none q, undef] at hr'
            have hy : yielded ops a.tmps j = some c := by simp [yielded, hp', ht, hr2]
            rw [hy]
            injection h with h
            rw [← h]
            cases c <;> cases want <;> rfl
          · split at h
            · obtain ⟨vs, hr', hvs⟩ := hr
              have hvs : vs = [] := hvs
              subst hvs
              have : ∀ c, a.tmps[t]? ≠ some (.bool c) := fun c e => by simp [e] at hr'
              have hy : yielded ops a.tmps j = none := by simp only [yielded, hp', ht, Option.bind_some]
              rw [hy]
              cases h; rfl
            · cases h
          · cases h

/-- What must hold of the calls that an operation may make. -/
structure Callees (C : Ctx) (w0 : World) (call : FuncId → List AV → Hp → Option (AV × Hp)) : Prop where
  ok : ∀ f, f ≠ rndF → CallOK C w0 f (call f)
  rnd : RndOK C w0 (call rndF)
  ent : ∀ f args h r, f ≠ rndF → call f args h = some r → Enters C.P f = true
  pure : Quiet C call

/-- No operation that the abstract machine takes puts a call off: so it is the same in a round. -/
theorem semAt_step {x : AV × Hp} (rd : Option Nat) (e : Operand → Value) {o : Oper} (h : stepOp C call o s = some x) : o.semAt (Fr rd).round e = execOp e o := by
  cases rd with
  | none => exact Oper.semAt_none ..
  | some l =>
    unfold Oper.semAt
    split
    · rename_i ho
      unfold stepOp stepOpB at h
      simp [ho] at h
    · rfl

theorem oper_ok (G : GOK C w0) (R : SR C w0 ds ρ O S s a w) (H : Callees C w0 call) (h : stepOper C call ops o s = some s') {i : Nat} (hi : ops[i]? = some o) {K : Act → World → Prop} {Q : Exit → Act → World → Prop}
    (k : ∀ ρ' O' a' w', SR C w0 ds ρ' O' S s' a' w' → Ext ρ O S w ρ' O' S w' → K a' w') : wpOpIn (Fr rd) 0 C.P ops Q i K a w := by
  obtain ⟨v, h', hr, rfl⟩ := stepOper_some h
  unfold resO at hr
  unfold wpOpIn
  simp only [hi]
  split at hr
  case h_2 => cases hr
  rename_i b hb
  rw [wanted_ok R hb]
  cases b with
  | true =>
    simp only [if_true] at hr ⊢
    refine ⟨fun _ _ => trivial, ?_⟩
    rw [semAt_step rd a.eval hr]
    exact step_ok G R H.rnd H.ok H.ent hr fun u w' ρ' O' I hv E => k _ _ _ _ (R.put I hv E) E
  | false =>
    simp only [Option.some.injEq, Prod.mk.injEq] at hr
    obtain ⟨rfl, rfl⟩ := hr
    simp only [Bool.false_eq_true, if_false]
    refine ⟨fun _ _ => trivial, ?_⟩
    exact k _ _ _ _ (R.put R.inv (show VR O S w ρ (.tup []) undef from ⟨[], rfl, rfl⟩) (Ext.refl ..)) (Ext.refl ..)

/-! ### The order that is written -/
theorem ops_run (G : GOK C w0) (H : Callees C w0 call) {Q : Exit → Act → World → Prop} : ∀ (l : List Nat) (xs : List Oper), (∀ n : Nat, (l[n]?).bind (fun i => ops[i]?) = xs[n]?) → l.length = xs.length → ∀ {ρ : Nat → Option Nat} {O : Nat → Prop} {s s' : St} {a : Act} {w : World}, SR C w0 ds ρ O S s a w → runOps C call ops xs s = some s' →
    (∀ ρ' O' a' w', SR C w0 ds ρ' O' S s' a' w' → Ext ρ O S w ρ' O' S w' → Q .normal a' w') → wpOpsIn (Fr rd) 0 C.P ops Q l a w := by
  intro l
  induction l with
  | nil =>
    intro xs _ hlen ρ O s s' a w R h k
    cases xs with
    | nil => injection h with h; subst h; exact k _ _ _ _ R (Ext.refl ..)
    | cons => cases hlen
  | cons i l ih =>
    intro xs hx hlen ρ O s s' a w R h k
    cases xs with
    | nil => cases hlen
    | cons o xs =>
      rw [runOps_cons] at h
      split at h
      · rename_i t ht
        rw [wpOpsIn_cons]
        refine oper_ok G R H ht (by simpa using hx 0) fun ρ' O' a' w' R' E' => ?_
        exact ih xs (fun n => by simpa using hx (n + 1)) (by simpa using hlen) R' h fun ρ2 O2 a2 w2 R2 E2 => k _ _ _ _ R2 (E'.trans E2)
      · cases h

theorem region_run (G : GOK C w0) (R : SR C w0 ds ρ O S s a w) (H : Callees C w0 call) {id : Nat} (h : runOps C call ops ops.toList s = some s') {Q : Exit → Act → World → Prop}
    (k : ∀ ρ' O' a' w', SR C w0 ds ρ' O' S s' a' w' → Ext ρ O S w ρ' O' S w' → Q .normal a' w') : (Code.region id ops false).wpIn (Fr rd) 0 C.P Q a w := by
  refine wpIn_region (ops_run G H _ ops.toList (fun n => ?_) (by simp) R h k)
  rcases Nat.lt_or_ge n ops.size with q | q
  · simp [List.getElem?_range q]
  · rw [List.getElem?_eq_none (by simpa using q), List.getElem?_eq_none (by simpa using q)]; rfl
end
end Go.Ab
