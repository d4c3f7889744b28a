/-
  Regions of the abstract machine: one order is as good as another; so the model's regions do, in whatever order, what the abstract machine says.
-/
import Derived.Test.YtfbnfdcbcobogaaGreatDoorAb9
namespace Go.Ab

/-! ### Slots -/
theorem Tr.kid_ext {α : Type} (t : Tr α) {q r : Qd} (h : q ≠ r) (x y : Tr α) : (t.withKid q x).withKid r y = (t.withKid r y).withKid q x := by
  cases q <;> cases r <;> first | (exact absurd rfl h) | simp [Tr.withKid, Tr.kid]
theorem Tr.withKid_withKid {α : Type} (t : Tr α) (q : Qd) (x y : Tr α) : (t.withKid q x).withKid q y = t.withKid q y := by
  cases q <;> simp [Tr.withKid, Tr.kid]

theorem Tr.updP_comm {α : Type} (v u : α) : ∀ (p r : List Qd) (t : Tr α), p.length = r.length → p ≠ r → Tr.updP p (Tr.updP r t u) v = Tr.updP r (Tr.updP p t v) u := by
  intro p
  induction p with
  | nil => intro r t h hne; cases r with
    | nil => exact absurd rfl hne
    | cons => simp at h
  | cons q p ih =>
    intro r t h hne
    cases r with
    | nil => simp at h
    | cons x r =>
      simp only [Tr.updP]
      by_cases hq : q = x
      · subst hq
        have hne' : p ≠ r := fun e => hne (by rw [e])
        simp only [Tr.kid_withKid, if_true, Tr.withKid_withKid]
        rw [ih r _ (by simpa using h) hne']
      · simp only [Tr.kid_withKid, hq, Ne.symm hq, if_false]
        exact Tr.kid_ext t (Ne.symm hq) _ _

theorem Tr.upd_comm {α : Type} {n j k : Nat} (t : Tr α) (v u : α) (h : j ≠ k) : Tr.upd n j (Tr.upd n k t u) v = Tr.upd n k (Tr.upd n j t v) u := by
  unfold Tr.upd
  cases hj : path n j with
  | none => cases path n k <;> rfl
  | some p =>
    cases hk : path n k with
    | none => rfl
    | some q =>
      obtain ⟨h1, rfl⟩ := path_some hj
      obtain ⟨h2, rfl⟩ := path_some hk
      exact Tr.updP_comm v u _ _ t (by rw [digits_length, digits_length]) (fun e => h (digits_inj h1 h2 e))

noncomputable def putS (C : Ctx) (dst : Option Tmp) (s : St) (h : Hp) (v : AV) : St :=
  match dst with
  | some t => if t < s.N then ⟨Tr.upd C.D t s.T v, h, s.N⟩ else ⟨s.T, h, s.N⟩
  | none => ⟨s.T, h, s.N⟩

theorem putK_eq (C : Ctx) (dst : Option Tmp) (s : St) (h : Hp) (v : AV) : putK C dst s h v = putS C dst s h v := by
  obtain ⟨T, h0, N⟩ := s
  cases dst with
  | none => simp only [putK, putB, putS, forceH_eq]
  | some t =>
    simp only [putK, putB, putS, forceH_eq]
    cases hb : Nat.blt t N with
    | true => simp only [forceAV_eq, Tr.setK_eq]; rw [if_pos (blt_iff.1 hb)]
    | false => simp only; rw [if_neg (fun e => by rw [blt_iff.2 e] at hb; cases hb)]

theorem putS_h (C : Ctx) (dst : Option Tmp) (s : St) (h : Hp) (v : AV) : (putS C dst s h v).h = h := by
  unfold putS
  split
  · split <;> rfl
  · rfl
theorem putS_N (C : Ctx) (dst : Option Tmp) (s : St) (h : Hp) (v : AV) : (putS C dst s h v).N = s.N := by
  unfold putS
  split
  · split <;> rfl
  · rfl
theorem putS_get {C : Ctx} {dst : Option Tmp} {s : St} {h : Hp} {v : AV} {t : Nat} (ht : dst ≠ some t) : Tr.get C.D t (putS C dst s h v).T = Tr.get C.D t s.T := by
  unfold putS
  split
  · rename_i d
    split
    · exact Tr.get_upd_ne _ _ (fun e => ht (by rw [e]))
    · rfl
  · rfl
theorem putS_comm {C : Ctx} {d e : Option Tmp} {s : St} {h1 h2 h3 : Hp} {v u : AV} (hne : ∀ t, d = some t → e ≠ some t) : putS C e (putS C d s h1 v) h3 u = putS C d (putS C e s h2 u) h3 v := by
  cases d with
  | none =>
    cases e with
    | none => rfl
    | some t => by_cases h : t < s.N <;> simp [putS, h]
  | some x =>
    cases e with
    | none => by_cases h : x < s.N <;> simp [putS, h]
    | some y =>
      have hxy : y ≠ x := fun e => hne x rfl (by rw [e])
      simp only [putS]
      by_cases h1 : x < s.N <;> by_cases h2 : y < s.N <;> simp [h1, h2, Tr.upd_comm s.T u v hxy]

theorem SR.put {C : Ctx} {w0 : World} {ds : List Deferred} {ρ ρ' : Nat → Option Nat} {O O' S : Nat → Prop} {s : St} {a : Act} {w w' : World} (R : SR C w0 ds ρ O S s a w) {h : Hp} {v : AV} {u : Value} {dst : Option Tmp} (I : Inv w0 ρ' O' S h w') (hv : VR O' S w' ρ' v u) (E : Ext ρ O S w ρ' O' S w') :
    SR C w0 ds ρ' O' S (putS C dst s h v) (a.put dst u) w' := by
  refine ⟨by rw [putS_h]; exact I, ?_, ?_, ?_⟩
  · intro t x hx
    cases dst with
    | none => exact (R.tmp t x hx).mono E
    | some d =>
      simp only [putS] at hx
      split at hx
      · rename_i hd
        rcases Tr.get_upd hx with ⟨rfl, rfl⟩ | ⟨hne, hx⟩
        · have : (a.put (some t) u).tmps.getD t undef = u := by
            have hs : t < a.tmps.size := by rw [R.sz]; exact hd
            simp [Act.put, hs]
          rw [this]
          exact hv
        · have : (a.put (some d) u).tmps.getD t undef = a.tmps.getD t undef := by
            simp [Act.put, Array.getElem?_setIfInBounds_ne (Ne.symm hne)]
          rw [this]
          exact (R.tmp t x hx).mono E
      · rename_i hd
        have : (a.put (some d) u).tmps.getD t undef = a.tmps.getD t undef := by
          have hs : a.tmps.size ≤ d := by rw [R.sz]; exact Nat.le_of_not_lt hd
          simp [Act.put, Array.setIfInBounds_eq_of_size_le hs]
        rw [this]
        exact (R.tmp t x hx).mono E
  · rw [putS_N]
    cases dst with
    | none => exact R.sz
    | some d => simp [Act.put, R.sz]
  · cases dst <;> exact R.dfr

/-! ### One operation: its value, by what it reads -/
noncomputable def resO (C : Ctx) (call : FuncId → List AV → Hp → Option (AV × Hp)) (ops : Array Oper) (o : Oper) (s : St) : Option (AV × Hp) :=
  match wantedA C ops o s with
  | some b => match b with
    | true => stepOp C call o s
    | false => some (.tup [], s.h)
  | none => none

theorem stepOper_eq (C : Ctx) (call : FuncId → List AV → Hp → Option (AV × Hp)) (ops : Array Oper) (o : Oper) (s : St) :
    stepOper C call ops o s = match resO C call ops o s with
      | some x => some (putS C o.dst s x.2 x.1)
      | none => none := by
  unfold stepOper stepperB resO
  cases hg : o.guard with
  | none =>
    have hw : wantedA C ops o s = some true := by unfold wantedA wantedB; rw [hg]
    rw [hw]
    simp only
    cases stepOp C call o s with
    | none => rfl
    | some x => obtain ⟨v, h⟩ := x; simp only [putK_eq]
  | some gd =>
    simp only
    cases wantedA C ops o s with
    | none => rfl
    | some b =>
      cases b with
      | true =>
        simp only
        cases stepOp C call o s with
        | none => rfl
        | some x => obtain ⟨v, h⟩ := x; simp only [putK_eq]
      | false => simp only [putK_eq]

/-- Two states that an operation cannot tell apart by its slots. -/
structure Agree (C : Ctx) (ops : Array Oper) (o : Oper) (s s' : St) : Prop where
  ev : ∀ x, x ∈ o.op.operands → ev C x s' = ev C x s
  wanted : wantedA C ops o s' = wantedA C ops o s

section
variable {C : Ctx} {ops : Array Oper} {o : Oper} {s s' : St} {call : FuncId → List AV → Hp → Option (AV × Hp)} {v : AV} {h : Hp}

theorem evs_congr {xs : List Operand} (hx : ∀ x, x ∈ xs → ev C x s' = ev C x s) : evs C xs s' = evs C xs s := by
  induction xs with
  | nil => rfl
  | cons x xs ih =>
    have e1 : evs C (x :: xs) s' = ev C x s' :: evs C xs s' := rfl
    have e2 : evs C (x :: xs) s = ev C x s :: evs C xs s := rfl
    rw [e1, e2, hx x (by simp), ih fun y hy => hx y (by simp [hy])]
theorem parts_congr {ps : List (Nat × Operand)} (hx : ∀ p, p ∈ ps → ev C p.2 s' = ev C p.2 s) : partsA C ps s' = partsA C ps s := by
  induction ps with
  | nil => rfl
  | cons p ps ih =>
    have e1 : partsA C (p :: ps) s' = (p.1, ev C p.2 s') :: partsA C ps s' := rfl
    have e2 : partsA C (p :: ps) s = (p.1, ev C p.2 s) :: partsA C ps s := rfl
    rw [e1, e2, hx p (by simp), ih fun y hy => hx y (by simp [hy])]
theorem pureOp_congr (hsel : ∀ cs b, o.op ≠ .select cs b) {xs : List Operand} (hx : ∀ x, x ∈ xs → ev C x s' = ev C x s) (hops : ∀ x, x ∈ o.op.operands → x ∈ xs) : pureOp C o xs s' = pureOp C o xs s := by
  unfold pureOp
  rw [evs_congr hx]
  rw [execOp_congr (ρ := opVal C s') (ρ' := opVal C s) o hsel fun x hx' => by
    simp only [opVal, hx x (hops x hx')]]

theorem opt_mem {x : Operand} {y : Option Operand} (h : y = some x) : x ∈ y.toArray := by subst h; simp

theorem loA_congr {lo : Option Operand} (hx : ∀ x, lo = some x → ev C x s' = ev C x s) : loA C lo s' = loA C lo s := by
  cases lo with
  | none => rfl
  | some x => show ixOf (ev C x s') = ixOf (ev C x s); rw [hx x rfl]
theorem bnds_congr {lo hi : Option Operand} (hl : ∀ x, lo = some x → ev C x s' = ev C x s) (hh : ∀ x, hi = some x → ev C x s' = ev C x s) (n : Nat) : bndsA C lo hi n s' = bndsA C lo hi n s := by
  unfold bndsA bndsB
  cases hi with
  | none => simp only [loA_congr hl]
  | some y => simp only [loA_congr hl, hh y rfl]
theorem sliceStr_congr {lo hi : Option Operand} (hl : ∀ x, lo = some x → ev C x s' = ev C x s) (hh : ∀ x, hi = some x → ev C x s' = ev C x s) (l : List UInt8) : sliceStr C lo hi l s' = sliceStr C lo hi l s := by
  unfold sliceStr sliceStrB
  cases hi with
  | none => simp only [loA_congr hl]
  | some y => simp only [loA_congr hl, hh y rfl]

/-- What an operation comes to hangs on its operands and on the heap. -/
theorem appZeroB_congr {C : Ctx} {t : TypeId} {x y : Operand} {s s' : St} (hx : ev C x s' = ev C x s) (hy : ev C y s' = ev C y s) (hh : s'.h = s.h) : (appZeroB C t x y).f s' = (appZeroB C t x y).f s := by
  unfold appZeroB
  split
  · split
    · split
      · split
        · dsimp only
          split
          · simp only [hx, hy, hh]
          · rfl
        · rfl
      · rfl
    · rfl
  · rfl

theorem stepOp_congr (hev : ∀ x, x ∈ o.op.operands → ev C x s' = ev C x s) (hh : s'.h = s.h) : stepOp C call o s' = stepOp C call o s := by
  unfold stepOp stepOpB
  cases ho : o.op <;> simp only [ho, Op.operands] at hev
  case move x => simp only [hev x (by simp), hh]
  case assign x => simp only [hev x (by simp), hh]
  case pick c a b => simp only [pickA, hev c (by simp), hev a (by simp), hev b (by simp), hh]
  case alloc e =>
    simp only [allocB]
    split
    · split <;> simp only [hh]
    · rfl
  case box e x => simp only [boxA, hev x (by simp), hh]
  case build t ps =>
    have := parts_congr (C := C) (s := s) (s' := s') (ps := ps.toList) fun p hp => hev p.2 (by simp; exact ⟨p.1, by simpa using hp⟩)
    simp only [buildB]
    split
    · split
      · split <;> simp only [this, hh]
      · split <;> simp only [this, hh]
      · rfl
    · rfl
  case buildSlice t n ps =>
    have := parts_congr (C := C) (s := s) (s' := s') (ps := ps.toList) fun p hp => hev p.2 (by simp; exact ⟨p.1, by simpa using hp⟩)
    simp only [buildSliceB]
    split
    · split
      · split
        · split <;> simp only [this, hh]
        · rfl
      · rfl
    · rfl
  case load t x => simp only [loadA, hev x (by simp), hh]
  case store t x y =>
    simp only [storeB]
    split <;> simp only [hev x (by simp), hev y (by simp), hh]
  case nilCheck x => simp only [nilCheckA, hev x (by simp), hh]
  case binOp op t x y t' =>
    have hp := pureOp_congr (C := C) (s := s) (s' := s') (o := o) (xs := [x, y]) (by rw [ho]; intro _ _ h; cases h) (by simpa using hev) (by rw [ho]; simp [Op.operands])
    simp only [binA, intA, intB, strA, strB, anyA, anyB, hev x (by simp), hev y (by simp), hh]
    congr 1
    split
    · split
      · split <;> simp only [hp]
      · split <;> simp only [hp]
    · split
      · split <;> simp only [hp]
      · split <;> simp only [hp]
    · split <;> simp only [hp]
  case unOp op t x =>
    have hp := pureOp_congr (C := C) (s := s) (s' := s') (o := o) (xs := [x]) (by rw [ho]; intro _ _ h; cases h) (by simpa using hev) (by rw [ho]; simp [Op.operands])
    simp only [hp, hh]
  case convert src dst x =>
    have hp := pureOp_congr (C := C) (s := s) (s' := s') (o := o) (xs := [x]) (by rw [ho]; intro _ _ h; cases h) (by simpa using hev) (by rw [ho]; simp [Op.operands])
    simp only [convertB]
    split
    · split <;> simp only [hev x (by simp), hh]
    · split <;> simp only [hev x (by simp), hh]
    · simp only [hev x (by simp), hh]
    · simp only [hev x (by simp), hh]
    · simp only [hp, hh]
    · split
      · split <;> simp only [hev x (by simp), hh]
      · rfl
    · split <;> simp only [hev x (by simp), hh]
    · rfl
  case makeInterface t x =>
    simp only [ifaceB]
    split <;> simp only [hev x (by simp), hh]
  case makeFunc fn first caps =>
    dsimp only
    split
    · split
      · have := evs_congr (C := C) (s := s) (s' := s') (xs := caps.toList) fun y hy => hev y (by simp at hy ⊢; exact Or.inr hy)
        simp only [this, hh]
      · split
        · have := evs_congr (C := C) (s := s) (s' := s') (xs := first.toList) fun y hy => hev y (by simp at hy ⊢; exact Or.inl hy)
          simp only [this, hh]
        · rfl
    · rfl
  case makeSlice t l c =>
    simp only [makeSliceB]
    split
    · split
      · split <;> simp only [hev l (by simp), hev c (by simp), hh]
      · rfl
    · rfl
  case slice t x lo hi mx =>
    have hx := hev x (by simp)
    have hl : ∀ y, lo = some y → ev C y s' = ev C y s := fun y e => hev y (by simp [e])
    have hhi : ∀ y, hi = some y → ev C y s' = ev C y s := fun y e => hev y (by simp [e])
    dsimp only
    split
    · rfl
    · have hp := pureOp_congr (C := C) (s := s) (s' := s') (o := o) (xs := x :: (lo.toList ++ hi.toList)) (by rw [ho]; intro _ _ h; cases h) (by
        intro y hy
        simp at hy
        rcases hy with rfl | hy | hy
        · exact hx
        · exact hl y hy
        · exact hhi y hy) (by
        rw [ho]
        intro y hy
        simp [Op.operands] at hy
        simp
        rcases hy with hy | hy | hy
        · exact Or.inl hy
        · exact Or.inr (Or.inl hy)
        · exact Or.inr (Or.inr hy))
      simp only [sliceB]
      split
      · simp only [hx, hh, sliceStr_congr hl hhi]
      · split <;> simp only [hx, hh, bnds_congr hl hhi, hp]
      · split <;> simp only [hx, hh, bnds_congr hl hhi]
      · rfl
  case fieldAddr t x i =>
    simp only [fieldAddrB]
    split
    · split
      · split <;> simp only [hev x (by simp), hh]
      · rfl
    · rfl
  case field t x i =>
    simp only [fieldB]
    split <;> simp only [hev x (by simp), hh]
  case indexAddr t x ix => simp only [hev x (by simp), hev ix (by simp), hh]
  case index t x ix =>
    simp only [idxB]
    split
    · simp only [hev x (by simp), hev ix (by simp), hh]
    · split <;> simp only [hev x (by simp), hev ix (by simp), hh]
    · rfl
  case range t x =>
    simp only [rangeB]
    split <;> simp only [hev x (by simp), hh]
  case next x isS =>
    simp only [nextB]
    split <;> simp only [hev x (by simp), hh]
  case extract x i => simp only [extractA, hev x (by simp), hh]
  case call c =>
    obtain ⟨callee, args, ts⟩ := c
    simp only [callB]
    split
    · rename_i b
      simp only [Call.operands] at hev
      have hargs : ∀ y, y ∈ args.toList → ev C y s' = ev C y s := fun y hy => hev y (by simp at hy ⊢; exact hy)
      have hp := pureOp_congr (C := C) (s := s) (s' := s') (o := o) (xs := args.toList) (by rw [ho]; intro _ _ h; cases h) hargs (by rw [ho]; simp [Op.operands, Call.operands])
      simp only [builtinB]
      split
      · split
        · rename_i x y t u ha ht
          split
          · exact appZeroB_congr (hargs x (by rw [ha]; simp)) (hargs y (by rw [ha]; simp)) hh
          · simp only [hargs x (by rw [ha]; simp), hargs y (by rw [ha]; simp), hh]
          · rfl
        · rfl
      · simp only [lenB]
        split
        · rename_i x t ha ht
          split <;> simp only [hargs x (by rw [ha]; simp), hh, hp]
        · rfl
      · split
        · rename_i x y t u ha ht
          simp only [copyB]
          split
          · split
            · simp only [hargs x (by rw [ha]; simp), hargs y (by rw [ha]; simp), hh]
            · rfl
          · rfl
        · rfl
      · split
        · rename_i x ha
          simp only [hargs x (by rw [ha]; simp), hh]
        · rfl
      · split
        · rename_i x y t u ha ht
          split
          · split <;> simp only [hargs x (by rw [ha]; simp), hargs y (by rw [ha]; simp), hh]
          · rfl
        · rfl
      · simp only [hp, hh]
      · simp only [hp, hh]
      · simp only [hp, hh]
      · rfl
    · rename_i f
      simp only [Call.operands] at hev
      have hargs := evs_congr (C := C) (s := s) (s' := s') (xs := args.toList) fun y hy => hev y (by simp at hy ⊢; exact Or.inr hy)
      split
      · rename_i g
        simp only [callFB]
        split
        · split
          · rename_i y hy
            have hev' : ev C y s' = ev C y s := hev y (by
              have : y ∈ args.toList := by rw [hy]; simp
              simp at this ⊢
              exact Or.inr this)
            simp only [hev', hh]
          · rfl
        · split
          · simp only [hargs, hh]
          · split
            · rfl
            · simp only [hargs, hh]
      · have hf := hev f (by simp)
        split <;> simp only [hargs, hh, hf]
    · rename_i r name
      simp only [Call.operands] at hev
      have hargs := evs_congr (C := C) (s := s) (s' := s') (xs := args.toList) fun y hy => hev y (by simp at hy ⊢; exact Or.inr hy)
      have hf := hev r (by simp)
      split
      · rfl
      · simp only [hargs, hh, hf]
  case makeMap t r =>
    simp only [makeMapB]
    split
    · split
      · simp only [hh]
      · rename_i x; simp only [hev x (by simp), hh]
    · rfl
  case lookup t x ix ok =>
    simp only [lookupB]
    split
    · split
      · simp only [hev x (by simp), hev ix (by simp), hh]
      · rfl
    · rfl
  case mapUpdate t m k x =>
    simp only [updateB]
    split
    · simp only [hev m (by simp), hev k (by simp), hev x (by simp), hh]
    · rfl
  case insert t m k x =>
    simp only [updateB]
    split
    · simp only [hev m (by simp), hev k (by simp), hev x (by simp), hh]
    · rfl
  case mapEntry t m k =>
    simp only [entryB]
    split
    · split
      · simp only [hev m (by simp), hev k (by simp), hh]
      · rfl
    · rfl
  case entryStore t m st x =>
    simp only [entryStoreB]
    simp only [hev m (by simp), hev st (by simp), hev x (by simp), hh]
  all_goals rfl

/-- A value and the heap it was asked in: nothing else. -/
structure Blind (r r' : Option (AV × Hp)) (h h' : Hp) : Prop where
  same : ∀ v k, r = some (v, k) → k = h ∧ r' = some (v, h')

theorem Blind.keep (h h' : Hp) (r : Option AV) : Blind (Go.Ab.keep h r) (Go.Ab.keep h' r) h h' := by
  refine ⟨fun v k e => ?_⟩
  cases r with
  | none => cases e
  | some x => injection e with e; injection e with e1 e2; subst e1; subst e2; exact ⟨rfl, rfl⟩
theorem Blind.some (h h' : Hp) (x : AV) : Blind (some (x, h)) (some (x, h')) h h' := Blind.keep h h' (Option.some x)
theorem Blind.none {r : Option (AV × Hp)} (h h' : Hp) : Blind Option.none r h h' := ⟨fun _ _ e => nomatch e⟩

/-- An operation that touches slots alone: the heap stays, and any other heap does as well. -/
theorem stepOp_blind (hc : opClass C o = 0) (hev : ∀ x, x ∈ o.op.operands → ev C x s' = ev C x s) : Blind (stepOp C call o s) (stepOp C call o s') s.h s'.h := by
  have hs : stepOp C call o s' = stepOp C call o { s with h := s'.h } := stepOp_congr (s := { s with h := s'.h }) (fun x hx => by rw [hev x hx]; cases x <;> rfl) rfl
  rw [hs]
  clear hs hev
  have hev : ∀ x, ev C x { s with h := s'.h } = ev C x s := fun x => by cases x <;> rfl
  have hp : ∀ xs, pureOp C o xs { s with h := s'.h } = pureOp C o xs s := fun xs => by
    unfold pureOp
    rw [evs_congr fun x _ => hev x]
    have : opVal C { s with h := s'.h } = opVal C s := funext fun x => by simp only [opVal, hev]
    rw [this]
  generalize s'.h = h' at hev hp ⊢
  have hparts : ∀ ps, partsA C ps { s with h := h' } = partsA C ps s := fun ps => parts_congr fun p _ => hev p.2
  have hevs : ∀ xs, evs C xs { s with h := h' } = evs C xs s := fun xs => evs_congr fun p _ => hev p
  unfold opClass at hc
  unfold stepOp stepOpB
  cases ho : o.op <;> simp only [ho] at hc <;> try cases hc
  case move x => simp only [hev]; exact Blind.some ..
  case assign x => simp only [hev]; exact Blind.some ..
  case pick c a b =>
    simp only [pickA, hev]
    split
    · split <;> exact Blind.some ..
    · exact Blind.none ..
  case build t ps =>
    simp only [buildB]
    split
    · split
      · split
        · simp only [hparts]
          split
          · exact Blind.some ..
          · exact Blind.none ..
        · exact Blind.none ..
      · split
        · simp only [hparts]
          split
          · exact Blind.some ..
          · exact Blind.none ..
        · exact Blind.none ..
      · exact Blind.none ..
    · exact Blind.none ..
  case buildSlice t n ps =>
    split at hc
    · rename_i hd
      simp only [buildSliceB, hd]
      split
      · split
        · split
          · simp only [hparts]
            split
            · split
              · exact Blind.some ..
              · exact Blind.none ..
            · exact Blind.none ..
          · exact Blind.none ..
        · exact Blind.none ..
      · exact Blind.none ..
    · cases hc
  case nilCheck x =>
    simp only [nilCheckA, hev]
    split <;> first | exact Blind.some .. | exact Blind.none ..
  case binOp op t x y t' =>
    have : binA C o op t x y { s with h := h' } = binA C o op t x y s := by
      simp only [binA, intA, intB, strA, strB, anyA, anyB, hev]
      split
      · split
        · split <;> simp only [hp]
        · split <;> simp only [hp]
      · split
        · split <;> simp only [hp]
        · split <;> simp only [hp]
      · split <;> simp only [hp]
    simp only [this]
    exact Blind.keep ..
  case unOp op t x => simp only [hp]; exact Blind.keep ..
  case makeInterface t x =>
    simp only [ifaceB]
    split
    · exact Blind.none ..
    · simp only [hev]; exact Blind.some ..
    · exact Blind.none ..
  case makeFunc fn first caps =>
    dsimp only
    split
    · split
      · simp only [hevs]; exact Blind.some ..
      · split
        · simp only [hevs]; exact Blind.some ..
        · exact Blind.none ..
    · exact Blind.none ..
  case fieldAddr t x i =>
    simp only [fieldAddrB]
    split
    · split
      · split
        · exact Blind.none ..
        · simp only [hev]
          split
          · exact Blind.some ..
          · split
            · exact Blind.some ..
            · exact Blind.none ..
          · exact Blind.none ..
      · exact Blind.none ..
    · exact Blind.none ..
  case field t x i =>
    simp only [fieldB]
    split
    · simp only [hev]
      split
      · split
        · exact Blind.keep ..
        · exact Blind.none ..
      · exact Blind.none ..
    · exact Blind.none ..
  case indexAddr t x ix =>
    simp only [hev, indexAddrA, indexAddrB]
    split
    · exact Blind.none ..
    · split
      · split
        · dsimp only
          split
          · split
            · exact Blind.some ..
            · exact Blind.none ..
          · split
            · split
              · exact Blind.some ..
              · exact Blind.none ..
            · exact Blind.none ..
          · exact Blind.none ..
        · exact Blind.none ..
      · split
        · dsimp only
          split
          · split
            · exact Blind.some ..
            · exact Blind.none ..
          · split
            · split
              · exact Blind.some ..
              · exact Blind.none ..
            · exact Blind.none ..
          · exact Blind.none ..
        · exact Blind.none ..
      · exact Blind.none ..
  case index t x ix =>
    simp only [idxB]
    split
    · simp only [hev]
      split
      · split
        · split
          · exact Blind.some ..
          · exact Blind.none ..
        · exact Blind.none ..
      · exact Blind.none ..
    · split
      · simp only [hev]
        split
        · split
          · split
            · split
              · exact Blind.keep ..
              · exact Blind.none ..
            · exact Blind.none ..
          · exact Blind.none ..
        · exact Blind.none ..
      · exact Blind.none ..
    · exact Blind.none ..
  case extract x i =>
    simp only [extractA, hev]
    split
    · exact Blind.keep ..
    · exact Blind.none ..
  case slice t x lo hi mx =>
    have hlo : loA C lo { s with h := h' } = loA C lo s := loA_congr fun y _ => hev y
    have hb : ∀ n, bndsA C lo hi n { s with h := h' } = bndsA C lo hi n s := fun n => bnds_congr (fun y _ => hev y) (fun y _ => hev y) n
    have hss : ∀ l, sliceStr C lo hi l { s with h := h' } = sliceStr C lo hi l s := fun l => sliceStr_congr (fun y _ => hev y) (fun y _ => hev y) l
    dsimp only
    split
    · exact Blind.none ..
    · simp only [sliceB]
      split
      · simp only [hev, hss]
        split
        · split
          · exact Blind.some ..
          · exact Blind.none ..
        · exact Blind.none ..
      · split
        · simp only [hev, hb, hp]
          split
          · split
            · exact Blind.some ..
            · exact Blind.none ..
          · split
            · split
              · split
                · exact Blind.some ..
                · exact Blind.none ..
              · exact Blind.none ..
            · exact Blind.none ..
          · exact Blind.keep ..
        · exact Blind.none ..
      · rename_i hu
        rw [hu] at hc
        cases hc
      · exact Blind.none ..
  case convert src dst x =>
    simp only [convertB]
    split
    · rename_i h1 _
      rw [h1] at hc
      cases hc
    · rename_i h1 _
      rw [h1] at hc
      cases hc
    · rename_i h1 _
      rw [h1] at hc
      cases hc
    · simp only [hev]
      split
      · exact Blind.some ..
      · exact Blind.none ..
    · rename_i h1 _
      rw [h1] at hc
      cases hc
    · rename_i h1 _
      rw [h1] at hc
      cases hc
    · rename_i h1 _
      rw [h1] at hc
      cases hc
    · exact Blind.none ..
  case call c =>
    obtain ⟨callee, args, ts⟩ := c
    simp only [callB]
    split
    · rename_i b
      simp only [builtinB]
      split
      · cases hc
      · simp only [lenB]
        split
        · split
          · simp only [hev]
            split
            · exact Blind.some ..
            · exact Blind.none ..
          · simp only [hev, hp]
            split
            · exact Blind.some ..
            · exact Blind.some ..
            · exact Blind.keep ..
          · rename_i hts _ _ _ hu
            simp only [hts, hu] at hc
            cases hc
          · simp only [hp]
            exact Blind.keep ..
        · exact Blind.none ..
      · cases hc
      · split
        · simp only [hev]
          split
          · split
            · exact Blind.none ..
            · exact Blind.some ..
          · exact Blind.some ..
          · exact Blind.none ..
        · exact Blind.none ..
      · cases hc
      · simp only [hp]
        exact Blind.keep ..
      · simp only [hp]
        exact Blind.keep ..
      · simp only [hp]
        exact Blind.keep ..
      · exact Blind.none ..
    · rename_i f
      cases f with
      | func f =>
        simp only [callFB]
        split
        · split
          · simp only [hev]; exact Blind.some ..
          · exact Blind.none ..
        · rename_i hsame
          split
          · simp only [hevs]; exact Blind.keep ..
          · rename_i hext
            simp only [hsame, hext] at hc
            split at hc <;> cases hc
      | _ =>
        simp only at hc
        split at hc <;> cases hc
    · cases hc
end
end Go.Ab
