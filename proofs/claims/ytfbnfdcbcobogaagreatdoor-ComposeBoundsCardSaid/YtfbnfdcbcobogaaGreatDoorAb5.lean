/-
  Each operation of the abstract machine against the model's: those that read and compute.
-/
import Derived.Test.YtfbnfdcbcobogaaGreatDoorAb4
namespace Go.Ab

/-- What the listed globals' pointers read as, in the world in which the law's call begins. -/
def GOK (C : Ctx) (w0 : World) : Prop :=
  (∀ g v, C.G g = some v → VR (fun _ => False) (fun _ => False) w0 (fun _ => none) v (.pointer (some ⟨g, 0, none⟩))) ∧
  ∀ f, C.same f = true → ∀ (v : Value) (w : World), (callFunc f #[v]).run C.P w = .ok (.value v) w

/-- A state of the abstract machine, and a frame's slots and a world that it stands for. -/
structure SR (C : Ctx) (w0 : World) (ds : List Deferred) (ρ : Nat → Option Nat) (O S : Nat → Prop) (s : St) (a : Act) (w : World) : Prop where
  inv : Inv w0 ρ O S s.h w
  tmp : ∀ t v, Tr.get C.D t s.T = some v → VR O S w ρ v (a.tmps.getD t undef)
  sz : a.tmps.size = s.N
  dfr : a.defers = ds

/-- What a run of one operation came to is what the abstract machine says. -/
def Does (w0 : World) (ρ : Nat → Option Nat) (O S : Nat → Prop) (w : World) (v : AV) (h : Hp) (r : Result Next) : Prop :=
  ∃ u w' ρ' O', (r = .ok (.value u) w' ∨ (r = .ok .skip w' ∧ u = undef)) ∧ Inv w0 ρ' O' S h w' ∧ VR O' S w' ρ' v u ∧ Ext ρ O S w ρ' O' S w'

theorem base_step {w0 : World} {ρ : Nat → Option Nat} {O S : Nat → Prop} {h : Hp} {w : World} (I : Inv w0 ρ O S h w) : Step (fun _ => False) (fun _ => False) w0 O S w where
  size := I.base.size
  old x hx _ := .inl (I.base.block x hx)
  own x hx e := by have := (I.own x e).1; omega
  lent x hx e := by have := (I.lent x e).1; omega
  shape x hx := shape_of_heap (I.base.block x hx)

section
variable {C : Ctx} {w0 : World} {ds : List Deferred} {ρ : Nat → Option Nat} {O S : Nat → Prop} {s : St} {a : Act} {w : World} {o : Oper} {v : AV} {h' : Hp}

theorem ev_VR (G : GOK C w0) (R : SR C w0 ds ρ O S s a w) (x : Operand) : VR O S w ρ (ev C x s) (a.eval x) := by
  cases x with
  | tmp t =>
    show VR O S w ρ (match Tr.get C.D t s.T with | some v => v | none => .undef) _
    split
    · rename_i v e; exact R.tmp t v e
    · simp [VR]
  | const v => exact ofV_VR v
  | global g =>
    show VR O S w ρ (match C.G g with | some v => v | none => .undef) _
    split
    · rename_i v e
      exact VR.step (base_step R.inv) (fun _ _ e => by cases e) v _ (G.1 g v e)
    · simp [VR]
  | func f => exact ⟨[], rfl, rfl⟩

theorem evs_VR (G : GOK C w0) (R : SR C w0 ds ρ O S s a w) (xs : List Operand) : VRs O S w ρ (evs C xs s) (xs.map a.eval) := by
  induction xs with
  | nil => rfl
  | cons x xs ih => exact ⟨_, _, rfl, ev_VR G R x, ih⟩

theorem Does.same {r : Result Next} {u : Value} {h : Hp} (hr : r = .ok (.value u) w) (I : Inv w0 ρ O S h w) (hv : VR O S w ρ v u) : Does w0 ρ O S w v h r :=
  ⟨u, w, ρ, O, Or.inl hr, I, hv, Ext.refl ρ O S w⟩

theorem keep_some {h h' : Hp} {x : Option AV} (e : keep h x = some (v, h')) : x = some v ∧ h' = h := by
  cases x with
  | none => cases e
  | some y => simp only [keep, Option.some.injEq, Prod.mk.injEq] at e; exact ⟨by rw [e.1], e.2.symm⟩

theorem toVs_get {xs : List Operand} {vs : List Value} (e : toVs (evs C xs s) = some vs) {x : Operand} (hx : x ∈ xs) : ∃ v, toV (ev C x s) = some v := by
  induction xs generalizing vs with
  | nil => cases hx
  | cons y xs ih =>
    have e' : toVs (ev C y s :: evs C xs s) = some vs := e
    simp only [toVs] at e'
    split at e'
    · rename_i v e1
      split at e'
      · rename_i vs' e2
        rcases List.mem_cons.1 hx with rfl | hx
        · exact ⟨v, e1⟩
        · exact ih e2 hx
      · cases e'
    · cases e'

theorem pureOp_run (G : GOK C w0) (R : SR C w0 ds ρ O S s a w) {xs : List Operand} (e : pureOp C o xs s = some v) (hsel : ∀ cs b, o.op ≠ .select cs b) (hops : ∀ x ∈ o.op.operands, x ∈ xs) :
    ∃ u, (execOp a.eval o).run C.P w = .ok (.value u) w ∧ VR O S w ρ v u := by
  unfold pureOp at e
  split at e
  · cases e
  · rename_i vs hvs
    split at e
    · rename_i r hr
      split at e
      · rename_i u
        injection e with e
        subst e
        refine ⟨u, ?_, ofV_VR u⟩
        rw [← pv_run _ w hr, execOp_congr o hsel fun x hx => ?_]
        obtain ⟨y, hy⟩ := toVs_get hvs (hops x hx)
        unfold opVal
        rw [hy]
        exact toV_VR _ _ _ hy (ev_VR G R x)
      · cases e
    · cases e

/-! ### Types -/
theorem run_sizeOf {P : Program} {t : TypeId} {n : Nat} (e : szT P t = some n) (w : World) : (Go.sizeOf t).run P w = .ok n w := by
  unfold szT at e
  split at e
  · rename_i i hi
    injection e with e
    simp [Go.sizeOf, typeInfo, hi, e]
  · cases e
theorem run_isAgg {P : Program} {t : TypeId} {b : Bool} (e : isAggT P t = some b) (w : World) : (isAgg t).run P w = .ok b w := by
  unfold isAggT at e
  split at e
  · rename_i d hd
    injection e with e
    simp only [isAgg, Sem.run_bind, run_underlying hd, Result.andThen_ok]
    cases d <;> simp at e <;> subst e <;> rfl
  · cases e
theorem add_none (b o n : Nat) : (⟨b, o, none⟩ : Addr).add n = ⟨b, o + n, none⟩ := by
  unfold Addr.add
  split <;> simp_all
theorem addr_eta {p : Addr} (h : p.spot = none) : p = ⟨p.block, p.off, none⟩ := by
  cases p; simp at h; subst h; rfl

theorem run_loadVar {t : TypeId} {cs : List AV} {b k : Nat} (e : rdCells C.P t cs = some v) (hm : VRM O S w ρ cs b k) : ∃ u, (loadVar t ⟨b, k, none⟩).run C.P w = .ok u w ∧ VR O S w ρ v u := by
  unfold rdCells at e
  split at e
  · rename_i g hg
    split at e
    · split at e
      · rename_i n hn
        split at e
        · rename_i r hr
          injection e with e
          subst e
          obtain ⟨hle, rfl⟩ := takeX_some.1 hr
          obtain ⟨vs, h1, h2⟩ := VRM_vals (hm.take n)
          have hlen : vs.length = n := by rw [h1.length]; simp; omega
          refine ⟨.agg vs.toArray, ?_, vs, rfl, h1⟩
          have hl := run_loadCells_list (P := C.P) (w := w) ⟨b, k, none⟩ vs (fun j u hj => by rw [add_none]; exact h2 j u hj)
          rw [hlen] at hl
          simp [loadVar, run_isAgg hg, run_sizeOf hn, hl]
        · cases e
      · cases e
    · split at e
      · rename_i c cs'
        injection e with e
        subst e
        obtain ⟨⟨u, h1, h2⟩, _⟩ := hm
        exact ⟨u, by simp [loadVar, run_isAgg hg, h1], h2⟩
      · cases e
  · cases e

theorem run_part {t : TypeId} {cs r : List AV} {vs : List Value} {off : Nat} (hd : dropX off cs = some r) (e : rdCells C.P t r = some v) (hv : VRs O S w ρ cs vs) : ∃ u, (part t vs.toArray off).run C.P w = .ok u w ∧ VR O S w ρ v u := by
  obtain ⟨hle, rfl⟩ := dropX_some.1 hd
  have hvd := hv.drop off
  unfold rdCells at e
  split at e
  · rename_i g hg
    split at e
    · split at e
      · rename_i n hn
        split at e
        · rename_i r hr
          injection e with e
          subst e
          obtain ⟨hle', rfl⟩ := takeX_some.1 hr
          refine ⟨.agg ((vs.drop off).take n).toArray, ?_, _, rfl, hvd.take n⟩
          simp [part, run_isAgg hg, run_sizeOf hn, List.extract_eq_take_drop]
        · cases e
      · cases e
    · split at e
      · rename_i c cs' hcs
        injection e with e
        subst e
        rw [hcs] at hvd
        obtain ⟨u, us, h1, h2, _⟩ := hvd
        have : vs[off]? = some u := by
          have := congrArg (fun l : List Value => l[0]?) h1
          simpa using this
        exact ⟨u, by simp [part, run_isAgg hg, this], h2⟩
      · cases e
  · cases e

/-! ### What lies where a pointer points -/
theorem look_VRM {h : Hp} (I : Inv w0 ρ O S h w) {x : AV} {cs : List AV} {u : Value} (e : look h x = some cs) (hx : VR O S w ρ x u) : ∃ b k, u = .pointer (some ⟨b, k, none⟩) ∧ VRM O S w ρ cs b k := by
  unfold look at e
  split at e
  · rename_i b k
    split at e
    · rename_i e' cs' hg
      obtain ⟨hle, rfl⟩ := dropX_some.1 e
      obtain ⟨cb, hb, rfl⟩ := hx
      obtain ⟨_, vs, ex, fr, hh, _, hv⟩ := I.blk b cb _ hb hg
      refine ⟨cb, k, rfl, ?_⟩
      have : VRM O S w ρ cs' cb 0 := VRM_of_vals hv fun j v hj => by
        have hlt : j < vs.length := by
          rcases Nat.lt_or_ge j vs.length with q | q
          · exact q
          · simp [List.getElem?_eq_none q] at hj
        simp [World.cell?, hh, List.getElem?_append_left hlt, hj]
      have := this.drop k
      rwa [Nat.zero_add] at this
    · cases e
  · rename_i q cs'
    injection e with e
    subst e
    obtain ⟨p, rfl, hsp, _, hm⟩ := hx
    rw [addr_eta hsp]
    exact ⟨_, _, rfl, hm.wide⟩
  · cases e

theorem ba_get (l : List UInt8) (i : Nat) (b : UInt8) (h : l[i]? = some b) : (⟨l.toArray⟩ : ByteArray)[i]? = some b := by
  have hlt : i < l.length := by
    rcases Nat.lt_or_ge i l.length with q | q
    · exact q
    · rw [List.getElem?_eq_none q] at h; cases h
  have hs : i < (⟨l.toArray⟩ : ByteArray).size := by show i < l.toArray.size; rw [List.size_toArray]; exact hlt
  rw [getElem?_pos _ i hs]
  show some (l.toArray[i]) = some b
  rw [List.getElem?_eq_getElem hlt] at h
  rw [← h]; rfl

/-! ### The operations -/
theorem move_ok (G : GOK C w0) (R : SR C w0 ds ρ O S s a w) {x : Operand} (ho : o.op = .move x ∨ o.op = .assign x) : Does w0 ρ O S w (ev C x s) s.h ((execOp a.eval o).run C.P w) := by
  refine Does.same (u := a.eval x) ?_ R.inv (ev_VR G R x)
  rcases ho with ho | ho <;> simp [execOp, ho]

theorem pick_ok (G : GOK C w0) (R : SR C w0 ds ρ O S s a w) {c x y : Operand} (ho : o.op = .pick c x y) (e : pickA C c x y s = some (v, h')) : Does w0 ρ O S w v h' ((execOp a.eval o).run C.P w) := by
  have hc := ev_VR G R c
  unfold pickA at e
  split at e
  · rename_i t ht
    rw [ht] at hc
    simp only [VR] at hc
    split at e <;> simp only [Option.some.injEq, Prod.mk.injEq] at e <;> obtain ⟨rfl, rfl⟩ := e
    · exact Does.same (by simp [execOp, ho, hc, asBool]) R.inv (ev_VR G R x)
    · exact Does.same (by simp [execOp, ho, hc, asBool]) R.inv (ev_VR G R y)
  · cases e

theorem extract_ok (G : GOK C w0) (R : SR C w0 ds ρ O S s a w) {x : Operand} {i : Nat} (ho : o.op = .extract x i) (e : extractA C x i s = some (v, h')) : Does w0 ρ O S w v h' ((execOp a.eval o).run C.P w) := by
  have hx := ev_VR G R x
  unfold extractA at e
  split at e
  · rename_i vs ht
    rw [ht] at hx
    obtain ⟨us, hu, hx⟩ := hx
    obtain ⟨e1, rfl⟩ := keep_some e
    rw [nth_eq] at e1
    obtain ⟨u, h1, h2⟩ := hx.get e1
    exact Does.same (u := u) (by simp [execOp, ho, hu, Instr.extract, h1]) R.inv h2
  · cases e

theorem load_ok (G : GOK C w0) (R : SR C w0 ds ρ O S s a w) {t : TypeId} {x : Operand} (ho : o.op = .load t x) (e : loadA C t x s = some (v, h')) : Does w0 ρ O S w v h' ((execOp a.eval o).run C.P w) := by
  have hx := ev_VR G R x
  unfold loadA at e
  split at e
  · rename_i cs hcs
    obtain ⟨e1, rfl⟩ := keep_some e
    obtain ⟨b, k, hu, hm⟩ := look_VRM R.inv hcs hx
    obtain ⟨u, h1, h2⟩ := run_loadVar e1 hm
    exact Does.same (u := u) (by simp [execOp, ho, hu, Instr.loadAt, Instr.sureAddr, h1]) R.inv h2
  · cases e

theorem ix_eval (G : GOK C w0) (R : SR C w0 ds ρ O S s a w) {x : Operand} {n : Nat} (e : ixOf (ev C x s) = some n) : ∃ k, a.eval x = .int k n := by
  obtain ⟨k, hk⟩ := ixOf_some e
  have := ev_VR G R x
  rw [hk] at this
  exact ⟨k, this⟩

theorem fieldOf_some {P : Program} {t : TypeId} {i : Nat} {f : Field} (e : fieldOf P t i = some f) : ∃ fs, P.underlying t = some (.struct fs) ∧ fs[i]? = some f := by
  unfold fieldOf at e
  split at e
  · rename_i fs h; exact ⟨fs, h, e⟩
  · cases e

theorem VR_tptr_drop {q : Bool} {cs r : List AV} {u : Value} {off : Nat} (hd : dropX off cs = some r) (hx : VR O S w ρ (.tptr q cs) u) : ∃ b k, u = .pointer (some ⟨b, k, none⟩) ∧ VR O S w ρ (.tptr q r) (.pointer (some ⟨b, k + off, none⟩)) := by
  obtain ⟨hle, rfl⟩ := dropX_some.1 hd
  obtain ⟨p, rfl, hsp, hst, hm⟩ := hx
  refine ⟨p.block, p.off, by rw [← addr_eta hsp], ⟨p.block, p.off + off, none⟩, rfl, rfl, ?_, hm.drop off⟩
  rcases hst with rfl | hst
  · exact Or.inl (by simp)
  · exact Or.inr hst

theorem fieldAddr_ok (G : GOK C w0) (R : SR C w0 ds ρ O S s a w) {t : TypeId} {x : Operand} {i : Nat} (ho : o.op = .fieldAddr t x i) (e : fieldAddrA C t x i s = some (v, h')) : Does w0 ρ O S w v h' ((execOp a.eval o).run C.P w) := by
  have hx := ev_VR G R x
  unfold fieldAddrA fieldAddrB at e
  split at e
  · rename_i f hf
    obtain ⟨fs, hfs, hi⟩ := fieldOf_some hf
    split at e
    · rename_i z hz
      split at e
      · cases e
      · rename_i hne
        have hne : ¬ z = 0 := fun k => hne k
        simp only at e
        split at e
        · rename_i b k ht
          simp only [Option.some.injEq, Prod.mk.injEq] at e
          obtain ⟨rfl, rfl⟩ := e
          rw [ht] at hx
          obtain ⟨cb, hb, hu⟩ := hx
          refine Does.same (u := .pointer (some ⟨cb, k + f.offset, none⟩)) ?_ R.inv ⟨cb, hb, rfl⟩
          simp [execOp, ho, hu, Instr.fieldAt, Instr.sureAddr, run_underlying hfs, hi, fieldPlace, run_sizeOf hz, hne, add_none]
        · rename_i q cs ht
          split at e
          · rename_i r hr
            simp only [Option.some.injEq, Prod.mk.injEq] at e
            obtain ⟨rfl, rfl⟩ := e
            rw [ht] at hx
            obtain ⟨b, k, hu, hv⟩ := VR_tptr_drop hr hx
            refine Does.same ?_ R.inv hv
            simp [execOp, ho, hu, Instr.fieldAt, Instr.sureAddr, run_underlying hfs, hi, fieldPlace, run_sizeOf hz, hne, add_none]
          · cases e
        · cases e
    · cases e
  · cases e

theorem field_ok (G : GOK C w0) (R : SR C w0 ds ρ O S s a w) {t : TypeId} {x : Operand} {i : Nat} (ho : o.op = .field t x i) (e : fieldA C t x i s = some (v, h')) : Does w0 ρ O S w v h' ((execOp a.eval o).run C.P w) := by
  have hx := ev_VR G R x
  unfold fieldA fieldB at e
  split at e
  · rename_i f hf
    obtain ⟨fs, hfs, hi⟩ := fieldOf_some hf
    simp only at e
    split at e
    · rename_i cs ht
      split at e
      · rename_i r hr
        obtain ⟨e1, rfl⟩ := keep_some e
        rw [ht] at hx
        obtain ⟨vs, hu, hx⟩ := hx
        obtain ⟨u, h1, h2⟩ := run_part hr e1 hx
        refine Does.same (u := u) ?_ R.inv h2
        simp [execOp, ho, hu, Instr.field, run_underlying hfs, hi, asAgg, h1]
      · cases e
    · cases e
  · cases e

theorem elemOf_some {P : Program} {t e : TypeId} (h : elemOf P t = some e) : P.underlying t = some (.slice e) := by
  unfold elemOf at h
  split at h
  · rename_i h'; injection h with h; subst h; exact h'
  · cases h

theorem indexAddr_ok (G : GOK C w0) (R : SR C w0 ds ρ O S s a w) {t : TypeId} {x ix : Operand} {i : Nat} (ho : o.op = .indexAddr t x ix) (hi : ixOf (ev C ix s) = some i) (e : indexAddrA C t s.h (ev C x s) i = some (v, h')) : Does w0 ρ O S w v h' ((execOp a.eval o).run C.P w) := by
  have hx := ev_VR G R x
  obtain ⟨k0, hix⟩ := ix_eval G R hi
  unfold indexAddrA indexAddrB at e
  split at e
  · rename_i el hel
    split at e
    · rename_i z' hz
      simp only at e
      split at e
      · rename_i b k n z ht
        split at e
        · rename_i hlt hzz
          simp only [Option.some.injEq, Prod.mk.injEq] at e
          obtain ⟨rfl, rfl⟩ := e
          have hlt := blt_iff.1 hlt
          have hzz := Nat.eq_of_beq_eq_true hzz
          subst hzz
          rw [ht] at hx
          obtain ⟨cb, hb, hx⟩ := hx
          rcases hx with ⟨cap, et, sz, hu, hcap, hsh, hfit⟩ | ⟨h0, _⟩
          · refine Does.same (u := .pointer (some ⟨cb, k + i * z, none⟩)) ?_ R.inv ⟨cb, hb, rfl⟩
            simp [execOp, ho, hu, hix, Instr.indexAt, asIntOf, run_underlying hel, run_sizeOf hz, hlt, add_none]
          · omega
        · cases e
      · rename_i q z n cs ht
        split at e
        · rename_i hlt hzz
          split at e
          · rename_i r hr
            simp only [Option.some.injEq, Prod.mk.injEq] at e
            obtain ⟨rfl, rfl⟩ := e
            have hlt := blt_iff.1 hlt
            have hzz := Nat.eq_of_beq_eq_true hzz
            subst hzz
            obtain ⟨hle, rfl⟩ := dropX_some.1 hr
            rw [ht] at hx
            obtain ⟨p, cap, hu, hcap, hsp, hst, hm⟩ := hx
            rw [addr_eta hsp] at hu
            refine Does.same (u := .pointer (some ⟨p.block, p.off + i * z, none⟩)) ?_ R.inv ⟨⟨p.block, p.off + i * z, none⟩, rfl, rfl, ?_, hm.drop (i * z)⟩
            · simp [execOp, ho, hu, hix, Instr.indexAt, asIntOf, run_underlying hel, run_sizeOf hz, hlt, add_none]
            · rcases hst with rfl | hst
              · exact Or.inl (by simp)
              · exact Or.inr hst
          · cases e
        · cases e
      · cases e
    · cases e
  · rename_i n el hel
    split at e
    · rename_i z hz
      simp only at e
      split at e
      · rename_i b k ht
        split at e
        · rename_i hlt
          simp only [Option.some.injEq, Prod.mk.injEq] at e
          obtain ⟨rfl, rfl⟩ := e
          have hlt := blt_iff.1 hlt
          rw [ht] at hx
          obtain ⟨cb, hb, hu⟩ := hx
          refine Does.same (u := .pointer (some ⟨cb, k + i * z, none⟩)) ?_ R.inv ⟨cb, hb, rfl⟩
          simp [execOp, ho, hu, hix, Instr.indexAt, asIntOf, Instr.sureAddr, run_underlying hel, run_sizeOf hz, hlt, add_none]
        · cases e
      · rename_i q cs ht
        split at e
        · rename_i hlt
          split at e
          · rename_i r hr
            simp only [Option.some.injEq, Prod.mk.injEq] at e
            obtain ⟨rfl, rfl⟩ := e
            have hlt := blt_iff.1 hlt
            rw [ht] at hx
            obtain ⟨b, k, hu, hv⟩ := VR_tptr_drop hr hx
            refine Does.same ?_ R.inv hv
            simp [execOp, ho, hu, hix, Instr.indexAt, asIntOf, Instr.sureAddr, run_underlying hel, run_sizeOf hz, hlt, add_none]
          · cases e
        · cases e
      · cases e
    · cases e
  · cases e

theorem idx_ok (G : GOK C w0) (R : SR C w0 ds ρ O S s a w) {t : TypeId} {x ix : Operand} (ho : o.op = .index t x ix) (e : idxA C t x ix s = some (v, h')) : Does w0 ρ O S w v h' ((execOp a.eval o).run C.P w) := by
  have hx := ev_VR G R x
  unfold idxA idxB at e
  split at e
  · rename_i hel
    simp only at e
    split at e
    · rename_i l ht
      split at e
      · rename_i i hi
        obtain ⟨k0, hix⟩ := ix_eval G R hi
        split at e
        · rename_i b hb
          simp only [Option.some.injEq, Prod.mk.injEq] at e
          obtain ⟨rfl, rfl⟩ := e
          rw [nth_eq] at hb
          rw [ht] at hx
          simp only [VR] at hx
          refine Does.same (u := .int .u8 b.toNat) ?_ R.inv (by simp [byteAV, VR])
          have hg := ba_get l i b hb
          simp [execOp, ho, hx, hix, Instr.index, asIntOf, run_underlying hel, hg]
        · cases e
      · cases e
    · cases e
  · rename_i n el hel
    split at e
    · rename_i z hz
      simp only at e
      split at e
      · rename_i cs ht
        split at e
        · rename_i i hi
          obtain ⟨k0, hix⟩ := ix_eval G R hi
          split at e
          · rename_i hlt
            have hlt := blt_iff.1 hlt
            split at e
            · rename_i r hr
              obtain ⟨e1, rfl⟩ := keep_some e
              rw [ht] at hx
              obtain ⟨vs, hu, hx⟩ := hx
              obtain ⟨u, h1, h2⟩ := run_part hr e1 hx
              refine Does.same (u := u) ?_ R.inv h2
              simp only [Nat.mul_eq] at h1
              simp [execOp, ho, hu, hix, Instr.index, asIntOf, run_underlying hel, run_sizeOf hz, hlt, h1]
            · cases e
          · cases e
        · cases e
      · cases e
    · cases e
  · cases e
end
end Go.Ab
