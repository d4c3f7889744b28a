/-
  Whole texts: what the abstract machine's exec ends in, the model's code ends in.
-/
import Derived.Test.YtfbnfdcbcobogaaGreatDoorAb12
import Derived.Scope
import Derived.LoopNIn
import Derived.RangeFuncRecord
import Derived.RangeFuncIn
namespace Go.Ab

section
variable {C : Ctx} {call : FuncId → List AV → Hp → Option (AV × Hp)} {n : Nat} {s : St}

theorem exec_region {id : Nat} {ops : Array Oper} : exec C call n (.region id ops false) s = match runOps C call ops ops.toList s with
    | some s => some (.normal, s)
    | none => none := rfl
theorem exec_region_draw {id : Nat} {ops : Array Oper} : exec C call n (.region id ops true) s = (match drawOK C ops with
    | true => (Bx.mk fun s => match runOps C call ops ops.toList s with
      | some s => some (.normal, s)
      | none => none : Bx (St → Option (Exit × St)))
    | false => match drawOK C.strict ops with
      | true => .mk fun s => match runOps C.strict call ops ops.toList s with
        | some s => some (.normal, s)
        | none => none
      | false => .mk fun _ => none).f s := rfl
theorem exec_scope {c : Code} : exec C call n (.scope c) s = match exec C call n c s with
    | some (e, s) => match e with
      | .goto _ => none
      | e => some (e, s)
    | none => none := rfl
theorem exec_seq {x y : Code} : exec C call n (.seq x y) s = match exec C call n x s with
    | some (e, s) => match e with
      | .normal => exec C call n y s
      | e => some (e, s)
    | none => none := rfl
theorem exec_cond {c : Operand} {x y : Code} : exec C call n (.cond c x y) s = match ev C c s with
    | .bool t => match t with
      | true => exec C call n x s
      | false => exec C call n y s
    | _ => none := rfl
theorem exec_block {id : Nat} {c : Code} : exec C call n (.block id c) s = match exec C call n c s with
    | some (e, s) => match e with
      | .exit id' => match Nat.beq id' id with
        | true => some (.normal, s)
        | false => some (.exit id', s)
      | e => some (e, s)
    | none => none := rfl
theorem exec_loop {c : Code} : exec C call n (.loop c) s = loopN (exec C call n c) n s := rfl
theorem loopN_succ {body : St → Option (Exit × St)} {m : Nat} : loopN body (m + 1) s = match body s with
    | some (e, s) => match e with
      | .normal => loopN body m s
      | e => some (e, s)
    | none => none := rfl
end

section
variable {C : Ctx} {w0 : World} {S : Nat → Prop} {call : FuncId → List AV → Hp → Option (AV × Hp)} {n : Nat}

theorem stepR_scope' {P : Program} {b : Frame} {a : Act} {k : List Item} {cs : List Frame} {w : World} {c : Code} : step P (lone (b.atR a (.code (.scope c) :: k)) cs w) = .next (lone (b.atR a (.code c :: .inScope c :: k)) cs w) :=
  step_lone_go (by simp [stepG, stepG.exec, Frame.atR])
theorem stepR_inScope' {P : Program} {b : Frame} {a : Act} {k : List Item} {cs : List Frame} {w : World} {c : Code} : step P (lone (b.atR a (.inScope c :: k)) cs w) = .next (lone (b.atR a k) cs w) :=
  step_lone_go (by simp [stepG, stepG.exec, Frame.atR])
theorem wpIn_scope_straight {F : Fence} {P : Program} {a : Act} {w : World} {Q : Exit → Act → World → Prop} {c : Code} (h : c.wpIn F n P (Exit.noGoto Q) a w) : (Code.scope c).wpIn F n P Q a w := by
  intro b k cs hro hb hr
  have h0 : (lone (b.atR a (.code (.scope c) :: k)) cs w).fenced P F := fenced_calm hb hr rfl
  obtain ⟨e, a₁, w₁, hq, harr⟩ := h b (.inScope c :: k) cs hro hb hr
  cases e with
  | normal => exact ⟨.normal, a₁, w₁, hq, .head h0 stepR_scope' (StepsIn.trans harr (.one (fenced_calm hb hr rfl) stepR_inScope'))⟩
  | exit id' =>
    have hx : exitTo id' (.inScope c :: k) = exitTo id' k := by simp [exitTo]
    exact ⟨.exit id', a₁, w₁, hq, fun k' hk => .head h0 stepR_scope' (harr.1 k' (by rw [hx]; exact hk)),
      fun hr' hk => let ⟨k₁, h1, h2⟩ := harr.2 hr' (by rw [hx]; exact hk); ⟨k₁, h1, .head h0 stepR_scope' h2⟩⟩
  | goto l => exact hq.elim
  | ret => exact ⟨_, a₁, w₁, hq, .of_steps (.one h0 stepR_scope') harr⟩
  | panic ch => exact ⟨_, a₁, w₁, hq, .of_steps (.one h0 stepR_scope') harr⟩
  | outgrown => exact ⟨_, a₁, w₁, hq, .of_steps (.one h0 stepR_scope') harr⟩

/-- The marks that ranges over functions have left among the deferred calls. -/
def mark (D : Nat) : Deferred := { target := .collected D, args := #[] }
def Marks (w : World) (O' : Nat → Prop) (w' : World) (ds ds' : List Deferred) : Prop :=
  ∃ Ds : List Nat, ds' = Ds.map mark ++ ds ∧ Ds.Nodup ∧ ∀ D, D ∈ Ds → w.heap.size ≤ D ∧ ¬ O' D ∧ w'.heap[D]? = some (.deferred (some []))

theorem Marks.refl {w w' : World} {O : Nat → Prop} {ds : List Deferred} : Marks w O w' ds ds := ⟨[], rfl, List.nodup_nil, fun _ h => by cases h⟩
theorem Marks.trans {ρ₁ ρ₂ : Nat → Option Nat} {w w₁ w₂ : World} {O₁ O₂ S₁ S₂ : Nat → Prop} {ds ds₁ ds₂ : List Deferred} (hsz : w.heap.size ≤ w₁.heap.size) (h : Marks w O₁ w₁ ds ds₁) (E : Ext ρ₁ O₁ S₁ w₁ ρ₂ O₂ S₂ w₂) (k : Marks w₁ O₂ w₂ ds₁ ds₂) : Marks w O₂ w₂ ds ds₂ := by
  obtain ⟨D1, rfl, n1, h1⟩ := h
  obtain ⟨D2, rfl, n2, h2⟩ := k
  refine ⟨D2 ++ D1, by simp, ?_, ?_⟩
  · rw [List.nodup_append]
    refine ⟨n2, n1, fun x hx y hy => ?_⟩
    have a1 := (h2 x hx).1
    have a2 := lt_of_heap (h1 y hy).2.2
    omega
  · intro D hD
    rcases List.mem_append.1 hD with hD | hD
    · obtain ⟨a, b, c⟩ := h2 D hD
      exact ⟨by omega, b, c⟩
    · obtain ⟨a, b, c⟩ := h1 D hD
      have hlt := lt_of_heap c
      exact ⟨a, fun e => b (E.own D hlt e), by rw [E.old D hlt b]; exact c⟩

/-- What exec says of a text. -/
def Sound (rd : Option Nat) (C : Ctx) (w0 : World) (S : Nat → Prop) (c : Code) (x : St → Option (Exit × St)) : Prop :=
  ∀ {ds : List Deferred} {ρ : Nat → Option Nat} {O : Nat → Prop} {s s' : St} {a : Act} {w : World} {e : Exit}, SR C w0 ds ρ O S s a w → x s = some (e, s') → ∀ Q : Exit → Act → World → Prop,
    (∀ ds' ρ' O' a' w', SR C w0 ds' ρ' O' S s' a' w' → Ext ρ O S w ρ' O' S w' → Marks w O' w' ds ds' → Q e a' w') → c.wpIn (Fr rd) 0 C.P Q a w

theorem loop_sound {rd : Option Nat} {c : Code} {x : St → Option (Exit × St)} (h : Sound rd C w0 S c x) : ∀ m : Nat, ∀ {ds : List Deferred} {ρ : Nat → Option Nat} {O : Nat → Prop} {s s' : St} {a : Act} {w : World} {e : Exit}, SR C w0 ds ρ O S s a w → loopN x m s = some (e, s') → ∀ Q : Exit → Act → World → Prop,
    (∀ ds' ρ' O' a' w', SR C w0 ds' ρ' O' S s' a' w' → Ext ρ O S w ρ' O' S w' → Marks w O' w' ds ds' → Q e a' w') → Code.roundsIn (Fr rd) 0 C.P c Q m a w := by
  intro m
  induction m with
  | zero => intro ds ρ O s s' a w e R hx; cases hx
  | succ m ih =>
    intro ds ρ O s s' a w e R hx Q k
    rw [loopN_succ] at hx
    rw [roundsIn_succ]
    split at hx
    · rename_i e1 s1 h1
      split at hx
      · refine h R h1 _ fun ds' ρ' O' a' w' R' E' M' => ?_
        exact ih R' hx Q fun ds2 ρ2 O2 a2 w2 R2 E2 M2 => k _ _ _ _ _ R2 (E'.trans E2) (M'.trans E'.size E2 M2)
      · rename_i hne
        simp only [Option.some.injEq, Prod.mk.injEq] at hx
        obtain ⟨rfl, rfl⟩ := hx
        refine h R h1 _ fun ds' ρ' O' a' w' R' E' M' => ?_
        cases e1 with
        | normal => exact absurd rfl hne
        | _ => exact k _ _ _ _ _ R' E' M'
    · cases hx

theorem Inv.fresh {w0 : World} {ρ : Nat → Option Nat} {O S : Nat → Prop} {h : Hp} {w : World} (I : Inv w0 ρ O S h w) (o : Obj) : Inv w0 ρ O S h (w.alloc o) ∧ Ext ρ O S w ρ O S (w.alloc o) := by
  have hold : ∀ y, y < w.heap.size → (w.alloc o).heap[y]? = w.heap[y]? := fun y hy => by
    show (w.heap.push o)[y]? = _
    rw [Array.getElem?_push, if_neg (by omega)]
  have hsz : (w.alloc o).heap.size = w.heap.size + 1 := by show (w.heap.push o).size = _; simp
  have E : Ext ρ O S w ρ O S (w.alloc o) := {
    sub := fun _ _ e => e
    size := by omega
    old := fun y hy _ => hold y hy
    own := fun _ _ e => e
    lent := fun _ _ e => e
    shape := fun y hy => shape_of_heap (hold y hy) }
  refine ⟨{ base := ?_, dom := I.dom, blk := ?_, inj := I.inj, own := ?_, lent := ?_ }, E⟩
  · exact I.base.trans ⟨rfl, rfl, rfl, E.size, fun k hk => hold k (Nat.lt_of_lt_of_le hk I.base.size)⟩
  · intro b cb x e hx
    have hb := I.blk b cb x e hx
    cases hal : x with
    | dead => trivial
    | _ =>
      rw [← hal]
      have ho := hb.own (by rw [hal]; trivial)
      exact hb.step E.step E.sub ho (hold cb (I.own cb ho).2)
  · intro y hy
    have := I.own y hy
    omega
  · intro y hy
    have := I.lent y hy
    omega

theorem exec_range {g : Operand} {ps : Array Tmp} {x y : Code} {s : St} : exec C call n (.rangeFunc g ps x y) s = (match C.inr with
      | true => (.mk fun _ => none : Bx (St → Option (Exit × St)))
      | false => .mk fun s => match ev C g s with
        | .fn gf caps => match Nat.beq gf rndF with
          | true => none
          | false => match call gf (.rnd s.h.nx :: caps) (s.h.new (.loop .ready none s.T s.N C.D ps.toList x y)) with
            | some (_, h) => match h.get s.h.nx with
              | some (.loop st pe _ _ _ _ _ _) => match st with
                | .busy => none
                | _ => match pe with
                  | none => some (.normal, ⟨s.T, h.set s.h.nx .dead, s.N⟩)
                  | some e => some (e, ⟨s.T, h.set s.h.nx .dead, s.N⟩)
              | _ => none
            | none => none
        | _ => none).f s := rfl

theorem range_sound (G : GOK C w0) (H : Callees C w0 call) {g : Operand} {ps : Array Tmp} {x y : Code} (hir : C.inr = false) : Sound none C w0 S (.rangeFunc g ps x y) (exec C call n (.rangeFunc g ps x y)) := by
  intro ds ρ O s s' a w e R h Q k
  rw [exec_range, hir] at h
  simp only at h
  split at h
  case h_2 => cases h
  rename_i gf caps hg
  split at h
  · cases h
  rename_i hne
  split at h
  case h_2 => cases h
  rename_i rv h2 hcall
  split at h
  case h_2 => cases h
  rename_i st pe T2 N2 D2 ps2 x2 y2 hget
  have hgv := ev_VR G R g
  rw [hg] at hgv
  obtain ⟨cv, hge, hcv⟩ := hgv
  refine wpIn_rangeFunc fun fn _ => ?_
  -- the two blocks that the statement lays
  obtain ⟨I1, E1⟩ := R.inv.fresh (.deferred (some []))
  obtain ⟨rec, hrec⟩ : ∃ rec : Loop, rec = { state := .ready, pending := none, fn, tmps := a.tmps, params := ps, assign := x, body := y, defers := w.heap.size } := ⟨_, rfl⟩
  have hsz1 : (w.alloc (.deferred (some []))).heap.size = w.heap.size + 1 := by show (w.heap.push _).size = _; simp
  obtain ⟨I2, E2⟩ := I1.new (w' := (w.alloc (.deferred (some []))).alloc (.loop rec)) (o := .loop rec) rfl rfl rfl rfl (.loop .ready none s.T s.N C.D ps.toList x y) (by
    have hold : ∀ z, z < (w.alloc (.deferred (some []))).heap.size → ((w.alloc (.deferred (some []))).alloc (.loop rec)).heap[z]? = (w.alloc (.deferred (some []))).heap[z]? := fun z hz => by
      show ((w.alloc (.deferred (some []))).heap.push _)[z]? = _
      rw [Array.getElem?_push, if_neg (by omega)]
    refine ⟨.inr rfl, rec, by show ((w.alloc (.deferred (some []))).heap.push _)[(w.alloc (.deferred (some []))).heap.size]? = _; rw [Array.getElem?_push, if_pos rfl], by rw [hrec]; rfl, by rw [hrec]; rfl, by rw [hrec], by rw [hrec], by rw [hrec], by rw [hrec]; exact R.sz, fun t v ht => ?_⟩
    rw [show rec.tmps = a.tmps by rw [hrec]]
    refine VR.step (O := O) (S := S) (w := w.alloc (.deferred (some []))) (ρ := ρ) (O' := fun z => O z ∨ z = (w.alloc (.deferred (some []))).heap.size) ⟨by show _ ≤ ((w.alloc (.deferred (some []))).heap.push _).size; simp, fun z hz _ => .inl (hold z hz), fun z hz e => Or.resolve_right e (by omega), fun _ _ e => e, fun z hz => shape_of_heap (hold z hz)⟩ (fun b cb e => ?_) v _ ((R.tmp t v ht).mono E1)
    have := I1.dom b cb e
    rw [if_neg (by omega)]; exact e)
  generalize hρ1 : (fun b => if b = s.h.nx then some (w.alloc (.deferred (some []))).heap.size else ρ b) = ρ1 at I2 E2
  generalize hO1 : (fun z => O z ∨ z = (w.alloc (.deferred (some []))).heap.size) = O1 at I2 E2
  generalize hW1 : (w.alloc (.deferred (some []))).alloc (.loop rec) = W1 at I2 E2
  have hl : ρ1 s.h.nx = some (w.heap.size + 1) := by rw [← hρ1, ← hsz1]; simp
  have hD1 : W1.heap[w.heap.size]? = some (.deferred (some [])) := by
    rw [← hW1]
    show ((w.heap.push _).push _)[w.heap.size]? = _
    rw [Array.getElem?_push, if_neg (by simp), Array.getElem?_push, if_pos rfl]
  have hO1D : ¬ O1 w.heap.size := by
    rw [← hO1]
    rintro (e | e)
    · have := (R.inv.own _ e).2; omega
    · omega
  have E12 := E1.trans E2
  have hent := H.ent gf _ _ _ (ne_rnd hne) hcall
  refine ⟨w.heap.size + 1, [mark w.heap.size], W1, { target := .fn (.func gf) cv.toArray, args := #[.func (.yield (w.heap.size + 1)) #[] #[]] }, W1, gf, (.func (.yield (w.heap.size + 1)) #[] #[] :: cv).toArray, W1, ?_, ?_, fun _ _ => trivial, ?_, fun e => Bool.noConfusion e, ?_⟩
  · rw [← hW1, hrec]; exact run_enterLoop_outer _ _ _ _ _
  · simp only [resolve, hge, Deferred.ofValue]
    simp [Act.eval]
  · simp only [invoke]
    rw [run_callFunc hent]
    simp
  · have hvs : VRs O1 S W1 ρ1 (.rnd s.h.nx :: caps) (.func (.yield (w.heap.size + 1)) #[] #[] :: cv) := ⟨_, _, rfl, ⟨_, hl, rfl⟩, hcv.mono E12⟩
    refine Fr.callsIn ((H.ok gf (ne_rnd hne) _ _ _ _ hcall ρ1 O1 S W1 _ I2 hvs).mono ?_)
    rintro e3 w3 ⟨v3, ρ3, O3, rfl, I3, _, E3⟩
    have hl3 := E3.sub _ _ hl
    obtain ⟨hO3, r, hr1, hr2, hr3, _⟩ := I3.blk _ _ _ hl3 hget
    have hlt3 := lt_of_heap hr1
    have hbusy : r.state ≠ .busy := by
      rw [hr2]
      split at h
      · cases h
      · rename_i hst
        cases st with
        | busy => exact absurd rfl hst
        | _ => simp [LS.st]
    obtain ⟨I4, E4⟩ := I3.set (w' := w3.putObj (w.heap.size + 1) (.loop { r with state := .exhausted })) (x' := .dead) hl3 hget trivial (by simp) (by
      simp only [World.shape?, World.putObj_heap_same hlt3, hr1]) (fun z hz => World.putObj_heap_other hz) rfl rfl rfl trivial
    have E := (E12.trans E3).trans E4
    have hltD : w.heap.size < W1.heap.size := lt_of_heap hD1
    have hD3 : ¬ O3 w.heap.size := fun e => hO1D (E3.own _ hltD e)
    have hM : Marks w O3 (w3.putObj (w.heap.size + 1) (.loop { r with state := .exhausted })) ds ([mark w.heap.size] ++ ds) :=
      ⟨[w.heap.size], rfl, by simp, fun D hD => by
        have hD : D = w.heap.size := by simpa using hD
        subst hD
        refine ⟨Nat.le_refl _, hD3, ?_⟩
        rw [World.putObj_heap_other (by omega), E3.old _ hltD hO1D]
        exact hD1⟩
    have hs : SR C w0 ([mark w.heap.size] ++ ds) ρ3 O3 S ⟨s.T, h2.set s.h.nx .dead, s.N⟩ { a with defers := [mark w.heap.size] ++ a.defers } (w3.putObj (w.heap.size + 1) (.loop { r with state := .exhausted })) :=
      ⟨I4, fun t v ht => (R.tmp t v ht).mono E, R.sz, by show _ ++ a.defers = _; rw [R.dfr]⟩
    have hend := run_endLoop (P := C.P) hr1 hbusy
    have h : (match (generalizing := false) pe with
        | none => some (Exit.normal, (⟨s.T, h2.set s.h.nx .dead, s.N⟩ : St))
        | some e => some (e, ⟨s.T, h2.set s.h.nx .dead, s.N⟩)) = some (e, s') := by
      cases st with
      | busy => cases h
      | _ => exact h
    generalize w3.putObj (w.heap.size + 1) (.loop { r with state := .exhausted }) = W4 at hend hs hM E I4 E4
    refine ⟨r.pending, W4, hend, ?_⟩
    cases pe with
    | none =>
      have hp : r.pending = none := hr3
      rw [hp]
      simp only [Option.some.injEq, Prod.mk.injEq] at h
      obtain ⟨rfl, rfl⟩ := h
      exact k _ _ _ _ _ hs E hM
    | some e0 =>
      simp only [Option.some.injEq, Prod.mk.injEq] at h
      obtain ⟨rfl, rfl⟩ := h
      cases e0 with
      | ret =>
        have hp : r.pending = some .ret := hr3
        rw [hp]
        exact wpIn_ret (k _ _ _ _ _ hs E hM)
      | exit id =>
        have hp : r.pending = some (.exit id) := hr3
        rw [hp]
        exact wpIn_exit (k _ _ _ _ _ hs E hM)
      | _ => exact hr3.elim

theorem exec_sound (G : GOK C w0) (H : Callees C w0 call) {rd : Option Nat} (hrd : C.inr = false → rd = none) : ∀ c : Code, Sound rd C w0 S c (exec C call n c) := by
  intro c
  induction c with
  | skip =>
    intro ds ρ O s s' a w e R h Q k
    simp only [exec, execB, Option.some.injEq, Prod.mk.injEq] at h
    obtain ⟨rfl, rfl⟩ := h
    exact wpIn_skip (k _ _ _ _ _ R (Ext.refl ..) Marks.refl)
  | region id ops draw =>
    intro ds ρ O s s' a w e R h Q k
    cases draw with
    | false =>
      rw [exec_region] at h
      split at h
      · rename_i t ht
        simp only [Option.some.injEq, Prod.mk.injEq] at h
        obtain ⟨rfl, rfl⟩ := h
        exact region_run G R H ht fun ρ' O' a' w' R' E' => k _ _ _ _ _ R' E' Marks.refl
      · cases h
    | true =>
      rw [exec_region_draw] at h
      split at h
      · rename_i hd
        simp only at h
        split at h
        · rename_i t ht
          simp only [Option.some.injEq, Prod.mk.injEq] at h
          obtain ⟨rfl, rfl⟩ := h
          exact region_draw G R H hd ht fun ρ' O' a' w' R' E' => k _ _ _ _ _ R' E' Marks.refl
        · cases h
      · split at h
        · rename_i hd
          simp only at h
          split at h
          · rename_i t ht
            simp only [Option.some.injEq, Prod.mk.injEq] at h
            obtain ⟨rfl, rfl⟩ := h
            have H' : Callees C.strict w0 call := ⟨H.ok, H.rnd, H.ent, H.pure⟩
            refine region_draw (C := C.strict) G ⟨R.inv, R.tmp, R.sz, R.dfr⟩ H' hd ht fun ρ' O' a' w' R' E' => ?_
            exact k _ ρ' O' a' w' ⟨R'.inv, R'.tmp, R'.sz, R'.dfr⟩ E' Marks.refl
          · cases h
        · cases h
  | seq x y ihx ihy =>
    intro ds ρ O s s' a w e R h Q k
    rw [exec_seq] at h
    split at h
    · rename_i e1 s1 h1
      refine wpIn_seq (ihx R h1 _ fun ds' ρ' O' a' w' R' E' M' => ?_)
      split at h
      · exact ihy R' h Q fun ds2 ρ2 O2 a2 w2 R2 E2 M2 => k _ _ _ _ _ R2 (E'.trans E2) (M'.trans E'.size E2 M2)
      · rename_i hne
        simp only [Option.some.injEq, Prod.mk.injEq] at h
        obtain ⟨rfl, rfl⟩ := h
        cases e1 with
        | normal => exact absurd rfl hne
        | _ => exact k _ _ _ _ _ R' E' M'
    · cases h
  | cond c x y ihx ihy =>
    intro ds ρ O s s' a w e R h Q k
    rw [exec_cond] at h
    have hc := ev_VR G R c
    split at h
    · rename_i t ht
      rw [ht] at hc
      have hc : a.eval c = .bool t := hc
      refine wpIn_cond hc ?_
      cases t with
      | true => exact ihx R h Q k
      | false => exact ihy R h Q k
    · cases h
  | block id c ih =>
    intro ds ρ O s s' a w e R h Q k
    rw [exec_block] at h
    split at h
    · rename_i e1 s1 h1
      refine wpIn_block (ih R h1 _ fun ds' ρ' O' a' w' R' E' M' => ?_)
      split at h
      · rename_i id'
        split at h
        · rename_i hb
          simp only [Option.some.injEq, Prod.mk.injEq] at h
          obtain ⟨rfl, rfl⟩ := h
          simp only [Exit.inBlock]
          rw [if_pos (Nat.eq_of_beq_eq_true hb)]
          exact k _ _ _ _ _ R' E' M'
        · rename_i hb
          simp only [Option.some.injEq, Prod.mk.injEq] at h
          obtain ⟨rfl, rfl⟩ := h
          simp only [Exit.inBlock]
          rw [if_neg (Nat.ne_of_beq_eq_false hb)]
          exact k _ _ _ _ _ R' E' M'
      · rename_i hne
        simp only [Option.some.injEq, Prod.mk.injEq] at h
        obtain ⟨rfl, rfl⟩ := h
        cases e1 with
        | exit id' => exact absurd rfl (hne id')
        | _ => exact k _ _ _ _ _ R' E' M'
    · cases h
  | loop c ih =>
    intro ds ρ O s s' a w e R h Q k
    rw [exec_loop] at h
    exact wpIn_loop_rounds n (loop_sound ih n R h Q k)
  | rangeFunc g ps x y ihx ihy =>
    cases hi : C.inr with
    | true =>
      intro ds ρ O s s' a w e R h
      rw [exec_range, hi] at h
      cases h
    | false =>
      rw [hrd hi]
      exact range_sound G H hi
  | exit id =>
    intro ds ρ O s s' a w e R h Q k
    simp only [exec, execB, Option.some.injEq, Prod.mk.injEq] at h
    obtain ⟨rfl, rfl⟩ := h
    exact wpIn_exit (k _ _ _ _ _ R (Ext.refl ..) Marks.refl)
  | scope c ih =>
    intro ds ρ O s s' a w e R h Q k
    rw [exec_scope] at h
    split at h
    · rename_i e1 s1 h1
      refine wpIn_scope_straight (ih R h1 _ fun ds' ρ' O' a' w' R' E' M' => ?_)
      split at h
      · cases h
      · rename_i hne
        simp only [Option.some.injEq, Prod.mk.injEq] at h
        obtain ⟨rfl, rfl⟩ := h
        cases e1 with
        | goto l => exact absurd rfl (hne l)
        | _ => exact k _ _ _ _ _ R' E' M'
    · cases h
  | label l =>
    intro ds ρ O s s' a w e R h Q k
    simp only [exec, execB, Option.some.injEq, Prod.mk.injEq] at h
    obtain ⟨rfl, rfl⟩ := h
    exact wpIn_label (k _ _ _ _ _ R (Ext.refl ..) Marks.refl)
  | goto => intro ds ρ O s s' a w e R h; cases h
  | ret =>
    intro ds ρ O s s' a w e R h Q k
    simp only [exec, execB, Option.some.injEq, Prod.mk.injEq] at h
    obtain ⟨rfl, rfl⟩ := h
    exact wpIn_ret (k _ _ _ _ _ R (Ext.refl ..) Marks.refl)
  | refuse => intro ds ρ O s s' a w e R h; cases h
end

/-! ### A call's results -/
section
variable {C : Ctx} {w0 : World} {ds : List Deferred} {ρ : Nat → Option Nat} {O S : Nat → Prop} {s : St} {a : Act} {w : World}

theorem resVals_cons {x : ResultVar} {l : List ResultVar} : resVals C s (x :: l) = match resVal C s x with
    | some v => match resVals C s l with | some vs => some (v :: vs) | none => none
    | none => none := rfl

def readVar (a : Act) : ResultVar → Sem Value
  | .tmp t => pure (a.tmps.getD t undef)
  | .cell c t => do loadVar t (← asAddr (a.tmps.getD c undef))

theorem resVal_ok (R : SR C w0 ds ρ O S s a w) {x : ResultVar} {v : AV} (h : resVal C s x = some v) : ∃ u, (readVar a x).run C.P w = .ok u w ∧ VR O S w ρ v u := by
  cases x with
  | tmp t => exact ⟨_, rfl, R.tmp t v h⟩
  | cell c t =>
    simp only [resVal] at h
    split at h
    · rename_i p hp
      split at h
      · rename_i cs hcs
        obtain ⟨b, k, hu, hm⟩ := look_VRM R.inv hcs (R.tmp c p hp)
        obtain ⟨u, h1, h2⟩ := run_loadVar h hm
        refine ⟨u, ?_, h2⟩
        simp only [readVar, hu]
        simp [asAddr, h1]
      · cases h
    · cases h

theorem resVals_ok (R : SR C w0 ds ρ O S s a w) : ∀ (l : List ResultVar) {vs : List AV}, resVals C s l = some vs → ∃ us, (l.mapM (readVar a)).run C.P w = .ok us w ∧ VRs O S w ρ vs us := by
  intro l
  induction l with
  | nil =>
    intro vs h
    injection h with h
    subst h
    exact ⟨[], rfl, rfl⟩
  | cons x l ih =>
    intro vs h
    rw [resVals_cons] at h
    split at h
    · rename_i v hv
      split at h
      · rename_i r hr
        injection h with h
        subst h
        obtain ⟨u, h1, h2⟩ := resVal_ok R hv
        obtain ⟨us, h3, h4⟩ := ih hr
        exact ⟨u :: us, by simp [List.mapM_cons, h1, h3], u, us, rfl, h2, h4⟩
      · cases h
    · cases h

theorem resAV_ok (R : SR C w0 ds ρ O S s a w) {fn : Func} {r : AV} (h : resAV C s fn.results.toList = some r) : ∃ u, (results fn a.tmps).run C.P w = .ok u w ∧ VR O S w ρ r u := by
  unfold resAV at h
  split at h
  · rename_i vs hvs
    obtain ⟨us, h1, h2⟩ := resVals_ok R _ hvs
    have hl := h2.length
    have hr : (results fn a.tmps).run C.P w = .ok (if h : us.toArray.size = 1 then us.toArray[0] else .tuple us.toArray) w := by
      have e : results fn a.tmps = (do let vs ← fn.results.mapM (readVar a); pure (if h : vs.size = 1 then vs[0] else .tuple vs)) := by
        unfold results
        congr 1
      rw [e, Array.mapM_eq_mapM_toList]
      simp [h1]
    rw [hr]
    split at h
    · rename_i v
      injection h with h
      subst h
      obtain ⟨u, us', rfl, hv, hvs'⟩ := h2
      have : us' = [] := hvs'
      subst this
      exact ⟨u, rfl, hv⟩
    · rename_i hne
      injection h with h
      subst h
      have hn : ¬ us.toArray.size = 1 := fun e => by
        have : us.length = 1 := by simpa using e
        rw [this] at hl
        cases vs with
        | nil => cases hl
        | cons v vs =>
          cases vs with
          | nil => exact hne v rfl
          | cons => simp at hl
      rw [dif_neg hn]
      exact ⟨_, rfl, us, rfl, h2⟩
  · cases h

/-! ### A call's slots -/
theorem enterT_get {l : List AV} : ∀ (k : Nat) (t : Tr AV) (c : Tr AV → St), ∃ t', enterT C l k t c = c t' ∧ ∀ j v, Tr.get C.D j t' = some v → (k ≤ j ∧ l[j - k]? = some v) ∨ Tr.get C.D j t = some v := by
  induction l with
  | nil => intro k t c; exact ⟨t, rfl, fun j v h => .inr h⟩
  | cons x l ih =>
    intro k t c
    obtain ⟨t', h1, h2⟩ := ih (k + 1) (Tr.upd C.D k t x) c
    refine ⟨t', ?_, fun j v h => ?_⟩
    · show forceAV x (fun v => Tr.setK C.D k t v fun t => enterT C l (Nat.succ k) t c) = _
      rw [forceAV_eq, Tr.setK_eq]
      exact h1
    · rcases h2 j v h with ⟨hk, hj⟩ | h
      · refine .inl ⟨by omega, ?_⟩
        have : j - k = (j - (k + 1)) + 1 := by omega
        rw [this]
        simpa using hj
      · rcases Tr.get_upd h with ⟨rfl, rfl⟩ | ⟨_, h⟩
        · exact .inl ⟨Nat.le_refl _, by simp⟩
        · exact .inr h

theorem enter_SR {args : List AV} {vs : List Value} {h : Hp} {m : Nat} (I : Inv w0 ρ O S h w) (hv : VRs O S w ρ args vs) (hm : args.length ≤ m) :
    SR C w0 [] ρ O S (enter C m args h) { tmps := vs.toArray ++ Array.replicate (m - vs.toArray.size) undef, defers := [] } w := by
  unfold enter
  obtain ⟨t', h1, h2⟩ := enterT_get (C := C) (l := args) 0 .nil fun T => ⟨T, h, m⟩
  rw [h1]
  have hl := hv.length
  refine ⟨I, fun t v ht => ?_, ?_, rfl⟩
  · rcases h2 t v ht with ⟨_, hj⟩ | hn
    · obtain ⟨u, hu, hr⟩ := hv.get hj
      rw [Nat.sub_zero] at hu
      have hlt : t < vs.length := (List.getElem?_eq_some_iff.1 hu).1
      have : (vs.toArray ++ Array.replicate (m - vs.toArray.size) undef).getD t undef = u := by
        have e2 : (vs.toArray ++ Array.replicate (m - vs.toArray.size) undef)[t]? = some u := by
          rw [Array.getElem?_append_left (by simpa using hlt)]
          simpa using hu
        rw [Array.getD_eq_getD_getElem?, e2]
        rfl
      show VR O S w ρ v ((vs.toArray ++ Array.replicate (m - vs.toArray.size) undef).getD t undef)
      rw [this]
      exact hr
    · rw [Tr.get_nil] at hn
      cases hn
  · show (vs.toArray ++ Array.replicate (m - vs.toArray.size) undef).size = m
    simp
    omega
end
end Go.Ab
