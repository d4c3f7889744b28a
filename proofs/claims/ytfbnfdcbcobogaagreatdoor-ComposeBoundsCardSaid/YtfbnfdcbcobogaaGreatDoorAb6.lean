/-
  Each operation of the abstract machine against the model's: arithmetic, comparisons, slicing, conversions that read.
-/
import Derived.Test.YtfbnfdcbcobogaaGreatDoorAb5
import Derived.Laws.Strings
import Derived.Laws.BytesString
import Derived.Laws.IdiomStrings
namespace Go.Ab

section
variable {C : Ctx} {w0 : World} {ds : List Deferred} {ρ : Nat → Option Nat} {O S : Nat → Prop} {s : St} {a : Act} {w : World} {o : Oper} {v : AV} {h' : Hp}

theorem Does.of_run {h : Hp} {r : Result Next} (e : ∃ u, r = .ok (.value u) w ∧ VR O S w ρ v u) (I : Inv w0 ρ O S h w) : Does w0 ρ O S w v h r := by
  obtain ⟨u, h1, h2⟩ := e
  exact Does.same h1 I h2

theorem eqGuard_other {P : Program} (op : BinOp) (t : TypeId) (x y : Operand) {u v : Value} (h : ∀ cs ds, ¬ (u = .agg cs ∧ v = .agg ds)) (h' : ¬ (u = .nilIface ∧ v = .nilIface)) (w : World) : (eqGuard op t x y u v).run P w = .ok () w := by
  unfold eqGuard
  by_cases hop : (!(match op with | .eql | .neq => true | _ => false)) = true
  · cases op <;> simp at hop <;> rfl
  · cases op <;> simp at hop
    all_goals
      cases u <;> cases v <;> first
        | rfl
        | exact absurd ⟨rfl, rfl⟩ h'
        | exact absurd ⟨rfl, rfl⟩ (h _ _)

theorem binop_run {op : BinOp} {t t' : TypeId} {x y : Operand} (ho : o.op = .binOp op t x y t') {u v : Value} (hu : a.eval x = u) (hv : a.eval y = v) (h : ∀ cs ds, ¬ (u = .agg cs ∧ v = .agg ds)) (h' : ¬ (u = .nilIface ∧ v = .nilIface)) {r : Value}
    (hr : (binOp op t u v).run C.P w = .ok r w) : (execOp a.eval o).run C.P w = .ok (.value r) w := by
  subst hu hv
  simp [execOp, ho, eqGuard_other op t x y h h' w, hr]

theorem intOp_run {P : Program} {op : BinOp} {f : IntKind → Int → Int → AV} (hf : intOp op = some f) {t : TypeId} {k : IntKind} {m n : Int} :
    ∃ r, (binOp op t (.int k m) (.int k n)).run P w = .ok r w ∧ VR O S w ρ (f k m n) r := by
  cases op <;> simp only [intOp] at hf
  case add => injection hf with hf; subst hf; exact ⟨.int k (k.wrap (m + n)), by simp [binOp, Op.intArith], by simp [VR, wrapF_eq, addI_eq]⟩
  case sub => injection hf with hf; subst hf; exact ⟨.int k (k.wrap (m - n)), by simp [binOp, Op.intArith], by simp [VR, wrapF_eq, subI_eq]⟩
  case mul => injection hf with hf; subst hf; exact ⟨.int k (k.wrap (m * n)), by simp [binOp, Op.intArith], by simp [VR, wrapF_eq, mulI_eq]⟩
  case eql => injection hf with hf; subst hf; exact ⟨.bool (m == n), by simp [binOp, Op.intCmp], by simp [VR, eqI_eq]⟩
  case neq => injection hf with hf; subst hf; exact ⟨.bool (m != n), by simp [binOp, Op.intCmp], by simp [VR, eqI_eq, notB_eq, bne]⟩
  case lss => injection hf with hf; subst hf; exact ⟨.bool (m < n), by simp [binOp, Op.intCmp], by simp [VR, ltI_eq]⟩
  case leq => injection hf with hf; subst hf; exact ⟨.bool (m ≤ n), by simp [binOp, Op.intCmp], by simp [VR, leI_eq]⟩
  case gtr => injection hf with hf; subst hf; exact ⟨.bool (m > n), by simp [binOp, Op.intCmp], by simp [VR, ltI_eq]⟩
  case geq => injection hf with hf; subst hf; exact ⟨.bool (m ≥ n), by simp [binOp, Op.intCmp], by simp [VR, leI_eq]⟩
  all_goals cases hf

theorem int_ok (G : GOK C w0) (R : SR C w0 ds ρ O S s a w) {op : BinOp} {t t' : TypeId} {x y : Operand} {k k' : IntKind} {m n : Int} (ho : o.op = .binOp op t x y t') (hx : ev C x s = .int k m) (hy : ev C y s = .int k' n)
    (e : intA C o op x y k m k' n s = some v) : ∃ u, (execOp a.eval o).run C.P w = .ok (.value u) w ∧ VR O S w ρ v u := by
  have ex := ev_VR G R x
  have ey := ev_VR G R y
  rw [hx] at ex
  rw [hy] at ey
  simp only [VR] at ex ey
  have pure_case : pureOp C o [x, y] s = some v → ∃ u, (execOp a.eval o).run C.P w = .ok (.value u) w ∧ VR O S w ρ v u := fun e =>
    pureOp_run G R e (by rw [ho]; intro _ _ h; cases h) (by rw [ho]; simp [Op.operands])
  unfold intA intB at e
  split at e
  · rename_i f hf
    simp only at e
    split at e
    · rename_i hk
      have hk := keq_eq hk
      subst hk
      injection e with e
      subst e
      obtain ⟨r, h1, h2⟩ := intOp_run (O := O) (S := S) (ρ := ρ) (P := C.P) (w := w) (t := t) (k := k) (m := m) (n := n) hf
      exact ⟨r, binop_run ho ex ey (by simp) (by simp) h1, h2⟩
    · exact pure_case e
  · exact pure_case e

theorem str_ok (G : GOK C w0) (R : SR C w0 ds ρ O S s a w) {op : BinOp} {t t' : TypeId} {x y : Operand} {l r : List UInt8} (ho : o.op = .binOp op t x y t') (hx : ev C x s = .str l) (hy : ev C y s = .str r)
    (e : strA C o op x y l r s = some v) : ∃ u, (execOp a.eval o).run C.P w = .ok (.value u) w ∧ VR O S w ρ v u := by
  have ex := ev_VR G R x
  have ey := ev_VR G R y
  rw [hx] at ex
  rw [hy] at ey
  simp only [VR] at ex ey
  have pure_case : pureOp C o [x, y] s = some v → ∃ u, (execOp a.eval o).run C.P w = .ok (.value u) w ∧ VR O S w ρ v u := fun e =>
    pureOp_run G R e (by rw [ho]; intro _ _ h; cases h) (by rw [ho]; simp [Op.operands])
  unfold strA strB at e
  split at e
  · simp only at e
    split at e
    · rename_i hle
      injection e with e
      subst e
      refine ⟨.string ⟨(l ++ r).toArray⟩, binop_run ho ex ey (by simp) (by simp) ?_, by simp [VR]⟩
      have hle := Nat.le_of_ble_eq_true hle
      have hle : l.length + r.length ≤ 9223372036854775807 := hle
      have h1 : ¬ (((⟨l.toArray⟩ : ByteArray).size + (⟨r.toArray⟩ : ByteArray).size : Nat) : Int) > IntKind.i64.max := by
        show ¬ ((l.toArray.size + r.toArray.size : Nat) : Int) > 9223372036854775807
        simp only [List.size_toArray]
        omega
      have h2 : (⟨l.toArray⟩ : ByteArray) ++ ⟨r.toArray⟩ = ⟨(l ++ r).toArray⟩ := by
        apply ByteArray.ext
        simp [ByteArray.data_append]
      simp only [binOp, Op.stringOp]
      rw [if_neg h1, h2]
      rfl
    · cases e
  · simp only at e
    injection e with e
    subst e
    refine ⟨.bool (l == r), binop_run ho ex ey (by simp) (by simp) ?_, by simp [VR, eqL_eq]⟩
    simp [binOp, Op.stringOp]
  · simp only at e
    injection e with e
    subst e
    refine ⟨.bool (l != r), binop_run ho ex ey (by simp) (by simp) ?_, by simp [VR, eqL_eq, notB_eq, bne]⟩
    simp [binOp, Op.stringOp, bne]
  · exact pure_case e

theorem nilOf_cases {d : TypeDesc} {y : AV} {v : Value} (h : nilOf d y = true) (hy : VR O S w ρ y v) :
    (∃ e m c, d = .slice e ∧ v = .slice none m c) ∨ (∃ e, d = .pointer e ∧ v = .pointer none) ∨ (∃ p r b, d = .func p r b ∧ v = .nilFunc) ∨ (∃ k e, d = .map k e ∧ v = .map none) ∨ (∃ m, d = .interface m ∧ v = .nilIface) := by
  unfold nilOf at h
  split at h
  · simp only [VR] at hy; exact Or.inl ⟨_, _, _, rfl, hy⟩
  · simp only [VR] at hy; exact Or.inr (Or.inl ⟨_, rfl, hy⟩)
  · simp only [VR] at hy; exact Or.inr (Or.inr (Or.inl ⟨_, _, _, rfl, hy⟩))
  · simp only [VR] at hy; exact Or.inr (Or.inr (Or.inr (Or.inl ⟨_, _, rfl, hy⟩)))
  · simp only [VR] at hy; exact Or.inr (Or.inr (Or.inr (Or.inr ⟨_, rfl, hy⟩)))
  · cases h
theorem someOf_cases {d : TypeDesc} {x : AV} {u : Value} (h : someOf d x = true) (hx : VR O S w ρ x u) :
    (∃ e p m c, d = .slice e ∧ u = .slice (some p) m c) ∨ (∃ e p, d = .pointer e ∧ u = .pointer (some p)) ∨ (∃ p r b f y z, d = .func p r b ∧ u = .func f y z) ∨ (∃ k e r, d = .map k e ∧ u = .map (some r)) ∨ (∃ m t z, d = .interface m ∧ u = .iface t z) := by
  unfold someOf at h
  split at h
  · obtain ⟨p, cap, hu, _⟩ := hx; exact Or.inl ⟨_, _, _, _, rfl, hu⟩
  · obtain ⟨cb, _, hu⟩ := hx
    rcases hu with ⟨_, _, _, hu, _⟩ | ⟨_, _, _, hu⟩ <;> exact Or.inl ⟨_, _, _, _, rfl, hu⟩
  · obtain ⟨cb, _, hu⟩ := hx; exact Or.inr (Or.inl ⟨_, _, rfl, hu⟩)
  · obtain ⟨p, hu, _⟩ := hx; exact Or.inr (Or.inl ⟨_, _, rfl, hu⟩)
  · obtain ⟨vs, hu, _⟩ := hx; exact Or.inr (Or.inr (Or.inl ⟨_, _, _, _, _, _, rfl, hu⟩))
  · obtain ⟨vs, hu, _⟩ := hx; exact Or.inr (Or.inr (Or.inl ⟨_, _, _, _, _, _, rfl, hu⟩))
  · obtain ⟨cb, _, hu⟩ := hx; exact Or.inr (Or.inr (Or.inr (Or.inl ⟨_, _, _, rfl, hu⟩)))
  · obtain ⟨cb, _, _, hu, _⟩ := hx; exact Or.inr (Or.inr (Or.inr (Or.inl ⟨_, _, _, rfl, hu⟩)))
  · obtain ⟨z, hu, _⟩ := hx; exact Or.inr (Or.inr (Or.inr (Or.inr ⟨_, _, _, rfl, hu⟩)))
  · cases h

theorem equal_nil {P : Program} {t : TypeId} {d : TypeDesc} (ht : P.underlying t = some d) {x y : AV} {u v : Value} (h1 : someOf d x = true) (h2 : nilOf d y = true) (hx : VR O S w ρ x u) (hy : VR O S w ρ y v) :
    (Op.equal t u v).run P w = .ok false w ∧ (Op.equal t v u).run P w = .ok false w := by
  have key : (∀ n, (Op.equalIn (n + 1) t u v).run P w = .ok false w) ∧ (∀ n, (Op.equalIn (n + 1) t v u).run P w = .ok false w) := by
    rcases someOf_cases h1 hx with ⟨e, p, m, c, rfl, rfl⟩ | ⟨e, p, rfl, rfl⟩ | ⟨p, r, b, f, y, z, rfl, rfl⟩ | ⟨k, e, r, rfl, rfl⟩ | ⟨m, t', z, rfl, rfl⟩ <;>
      rcases nilOf_cases h2 hy with ⟨e', m', c', hd, rfl⟩ | ⟨e', hd, rfl⟩ | ⟨p', r', b', hd, rfl⟩ | ⟨k', e', hd, rfl⟩ | ⟨m', hd, rfl⟩ <;>
      first
        | (cases hd; done)
        | (constructor <;> intro n <;> simp only [Op.equalIn, Sem.run_bind, run_underlying ht, Result.andThen_ok] <;> rfl)
  exact ⟨key.1 9999, key.2 9999⟩

/-- A value of a kind that has a nil against its kind's nil: unlike, whichever stands first. -/
theorem eq_nil {P : Program} {t : TypeId} {d : TypeDesc} (ht : P.underlying t = some d) {x y : AV} {u v : Value} (h1 : someOf d x = true) (h2 : nilOf d y = true) (hx : VR O S w ρ x u) (hy : VR O S w ρ y v) :
    (binOp .eql t u v).run P w = .ok (.bool false) w ∧ (binOp .eql t v u).run P w = .ok (.bool false) w ∧ (binOp .neq t u v).run P w = .ok (.bool true) w ∧ (binOp .neq t v u).run P w = .ok (.bool true) w ∧
      (∀ cs ds, ¬ (u = .agg cs ∧ v = .agg ds)) ∧ (∀ cs ds, ¬ (v = .agg cs ∧ u = .agg ds)) ∧ ¬ (u = .nilIface ∧ v = .nilIface) ∧ ¬ (v = .nilIface ∧ u = .nilIface) := by
  obtain ⟨k1, k2⟩ := equal_nil ht h1 h2 hx hy
  rcases someOf_cases h1 hx with ⟨e, p, m, c, rfl, rfl⟩ | ⟨e, p, rfl, rfl⟩ | ⟨p, r, b, f, y, z, rfl, rfl⟩ | ⟨k, e, r, rfl, rfl⟩ | ⟨m, t', z, rfl, rfl⟩ <;>
    rcases nilOf_cases h2 hy with ⟨e', m', c', hd, rfl⟩ | ⟨e', hd, rfl⟩ | ⟨p', r', b', hd, rfl⟩ | ⟨k', e', hd, rfl⟩ | ⟨m', hd, rfl⟩ <;>
    first
      | (cases hd; done)
      | (refine ⟨?_, ?_, ?_, ?_, by simp, by simp, by simp, by simp⟩ <;> simp only [binOp, Sem.run_bind, k1, k2, Result.andThen_ok] <;> rfl)

theorem any_ok (G : GOK C w0) (R : SR C w0 ds ρ O S s a w) {op : BinOp} {t t' : TypeId} {x y : Operand} (ho : o.op = .binOp op t x y t') {u z : AV} (hu : ev C x s = u) (hz : ev C y s = z)
    (e : anyA C o op t x y u z s = some v) : ∃ u, (execOp a.eval o).run C.P w = .ok (.value u) w ∧ VR O S w ρ v u := by
  have ex := ev_VR G R x
  have ey := ev_VR G R y
  rw [hu] at ex
  rw [hz] at ey
  have pure_case : ∀ {v}, pureOp C o [x, y] s = some v → ∃ u, (execOp a.eval o).run C.P w = .ok (.value u) w ∧ VR O S w ρ v u := fun e =>
    pureOp_run G R e (by rw [ho]; intro _ _ h; cases h) (by rw [ho]; simp [Op.operands])
  have nil_case : ∀ {d : TypeDesc} {neg : Bool}, C.P.underlying t = some d → (op = if neg then .neq else .eql) → eqNil d neg u z = some v → ∃ u, (execOp a.eval o).run C.P w = .ok (.value u) w ∧ VR O S w ρ v u := by
    intro d neg hd hop e
    unfold eqNil at e
    split at e
    · rename_i h1 h2
      injection e with e
      subst e
      obtain ⟨q1, q2, q3, q4, q5, q6, q7, q8⟩ := eq_nil hd h1 h2 ex ey
      refine ⟨.bool neg, binop_run ho rfl rfl q5 q7 ?_, by simp [VR]⟩
      cases neg <;> simp at hop <;> subst hop <;> assumption
    · split at e
      · rename_i h1 h2
        injection e with e
        subst e
        obtain ⟨q1, q2, q3, q4, q5, q6, q7, q8⟩ := eq_nil hd h2 h1 ey ex
        refine ⟨.bool neg, binop_run ho rfl rfl q6 q8 ?_, by simp [VR]⟩
        cases neg <;> simp at hop <;> subst hop <;> assumption
      · cases e
  have ptr_case : ∀ {d : TypeDesc} {yes : Bool}, C.P.underlying t = some d → (op = if yes then .eql else .neq) → eqPtr C.P d yes u z = some v → ∃ u, (execOp a.eval o).run C.P w = .ok (.value u) w ∧ VR O S w ρ v u := by
    intro d yes hd hop q
    unfold eqPtr at q
    split at q
    case h_2 => cases q
    rename_i t0
    split at q
    case h_2 => cases q
    rename_i zz hzz
    split at q
    case h_1 => cases q
    rename_i hz0
    split at q
    case h_2 => cases q
    rename_i b k b' k'
    split at q
    case h_2 => cases q
    rename_i hbb
    have hbb := Nat.eq_of_beq_eq_true hbb
    subst hbb
    obtain ⟨cb, hcb, e1⟩ := ex
    obtain ⟨cb', hcb', e2⟩ := ey
    rw [hcb] at hcb'
    injection hcb' with hcb'
    subst hcb'
    have hso : (sizeOf t0).run C.P w = .ok zz w := run_sizeOf hzz w
    have hzz0 : zz ≠ 0 := hz0
    have heq : ∀ n, (Op.equalIn (n + 1) t (.pointer (some ⟨cb, k, none⟩)) (.pointer (some ⟨cb, k', none⟩))).run C.P w = .ok (Nat.beq k k') w := fun n => by
      have hb : ((⟨cb, k, none⟩ : Addr) == ⟨cb, k', none⟩) = Nat.beq k k' := by
        by_cases hk : k = k'
        · subst hk; simp
        · have h1 : Nat.beq k k' = false := by
            cases h : Nat.beq k k' with
            | true => exact absurd (Nat.eq_of_beq_eq_true h) hk
            | false => rfl
          rw [h1, beq_eq_false_iff_ne]
          intro e
          injection e with _ e _
          exact hk e
      simp [Op.equalIn, run_underlying hd, hso, hzz0, sameAddr, hb]
    have heq' := heq 9999
    split at q
    · injection q with q
      subst q
      simp at hop
      subst hop
      exact ⟨.bool (Nat.beq k k'), binop_run ho e1 e2 (by simp) (by simp) (by simp [binOp, Op.equal, Op.maxDepth, heq']), rfl⟩
    · injection q with q
      subst q
      simp at hop
      subst hop
      exact ⟨.bool (!Nat.beq k k'), binop_run ho e1 e2 (by simp) (by simp) (by simp [binOp, Op.equal, Op.maxDepth, heq']), by simp [VR, notB_eq]⟩
  unfold anyA anyB at e
  split at e
  · rename_i d hd
    simp only at e
    split at e
    · rename_i r hr
      injection e with e
      subst e
      exact pure_case hr
    · split at e
      · rename_i r hr
        injection e with e
        subst e
        exact nil_case hd (neg := false) rfl hr
      · exact ptr_case hd (yes := true) rfl e
  · rename_i d hd
    simp only at e
    split at e
    · rename_i r hr
      injection e with e
      subst e
      exact pure_case hr
    · split at e
      · rename_i r hr
        injection e with e
        subst e
        exact nil_case hd (neg := true) rfl hr
      · exact ptr_case hd (yes := false) rfl e
  · exact pure_case e

theorem bin_ok (G : GOK C w0) (R : SR C w0 ds ρ O S s a w) {op : BinOp} {t t' : TypeId} {x y : Operand} (ho : o.op = .binOp op t x y t') (e : keep s.h (binA C o op t x y s) = some (v, h')) : Does w0 ρ O S w v h' ((execOp a.eval o).run C.P w) := by
  obtain ⟨e1, rfl⟩ := keep_some e
  refine Does.of_run ?_ R.inv
  clear e
  have e := e1
  unfold binA at e
  split at e
  · rename_i k m hx
    split at e
    · rename_i k' n hy
      exact int_ok G R ho hx hy e
    · rename_i z hz hne
      exact any_ok G R ho hx rfl e
  · rename_i l hx
    split at e
    · rename_i r hy
      exact str_ok G R ho hx hy e
    · exact any_ok G R ho hx rfl e
  · exact any_ok G R ho rfl rfl e

theorem un_ok (G : GOK C w0) (R : SR C w0 ds ρ O S s a w) {op : UnOp} {t : TypeId} {x : Operand} (ho : o.op = .unOp op t x) (e : keep s.h (pureOp C o [x] s) = some (v, h')) : Does w0 ρ O S w v h' ((execOp a.eval o).run C.P w) := by
  obtain ⟨e1, rfl⟩ := keep_some e
  exact Does.of_run (pureOp_run G R e1 (by rw [ho]; intro _ _ h; cases h) (by rw [ho]; simp [Op.operands])) R.inv

theorem iface_ok (G : GOK C w0) (R : SR C w0 ds ρ O S s a w) {t : TypeId} {x : Operand} (ho : o.op = .makeInterface t x) (e : ifaceA C t x s = some (v, h')) : Does w0 ρ O S w v h' ((execOp a.eval o).run C.P w) := by
  unfold ifaceA ifaceB at e
  split at e
  · cases e
  · rename_i d hne hd
    simp only [Option.some.injEq, Prod.mk.injEq] at e
    obtain ⟨rfl, rfl⟩ := e
    refine Does.same (u := .iface t (a.eval x)) ?_ R.inv ⟨_, rfl, ev_VR G R x⟩
    have : (Instr.makeInterface t (a.eval x)).run C.P w = .ok (.iface t (a.eval x)) w := by
      simp only [Instr.makeInterface, Sem.run_bind, run_underlying hd, Result.andThen_ok]
      cases d <;> first | rfl | exact absurd rfl (hne _)
    simp [execOp, ho, this]
  · cases e

theorem func_ok (G : GOK C w0) (R : SR C w0 ds ρ O S s a w) {f : FuncId} {first caps : Array Operand} (ho : o.op = .makeFunc (.func f) first caps) (hf : first.toList = []) : Does w0 ρ O S w (.fn f (evs C caps.toList s)) s.h ((execOp a.eval o).run C.P w) := by
  have hf : first = #[] := by simpa using hf
  subst hf
  refine Does.same (u := .func (.func f) #[] (caps.map a.eval)) ?_ R.inv ⟨caps.toList.map a.eval, by rw [← Array.toList_map, Array.toArray_toList], evs_VR G R _⟩
  simp [execOp, ho, Instr.makeFunc]

theorem func_ok' (G : GOK C w0) (R : SR C w0 ds ρ O S s a w) {f : FuncId} {first caps : Array Operand} (ho : o.op = .makeFunc (.func f) first caps) (hf : caps.toList = []) : Does w0 ρ O S w (.mv f (evs C first.toList s)) s.h ((execOp a.eval o).run C.P w) := by
  have hf : caps = #[] := by simpa using hf
  subst hf
  refine Does.same (u := .func (.func f) (first.map a.eval) #[]) ?_ R.inv ⟨first.toList.map a.eval, by rw [← Array.toList_map, Array.toArray_toList], evs_VR G R _⟩
  simp [execOp, ho, Instr.makeFunc]

theorem nilCheck_ok (G : GOK C w0) (R : SR C w0 ds ρ O S s a w) {x : Operand} (ho : o.op = .nilCheck x) (e : nilCheckA C x s = some (v, h')) : Does w0 ρ O S w v h' ((execOp a.eval o).run C.P w) := by
  have hx := ev_VR G R x
  unfold nilCheckA at e
  split at e
  · rename_i b k ht
    simp only [Option.some.injEq, Prod.mk.injEq] at e
    obtain ⟨rfl, rfl⟩ := e
    rw [ht] at hx
    refine Does.same (u := a.eval x) ?_ R.inv hx
    obtain ⟨cb, _, hu⟩ := hx
    simp [execOp, ho, hu]
  · rename_i q cs ht
    simp only [Option.some.injEq, Prod.mk.injEq] at e
    obtain ⟨rfl, rfl⟩ := e
    rw [ht] at hx
    refine Does.same (u := a.eval x) ?_ R.inv hx
    obtain ⟨p, hu, _⟩ := hx
    simp [execOp, ho, hu]
  · rename_i f caps ht
    simp only [Option.some.injEq, Prod.mk.injEq] at e
    obtain ⟨rfl, rfl⟩ := e
    rw [ht] at hx
    refine Does.same (u := a.eval x) ?_ R.inv hx
    obtain ⟨p, hu, _⟩ := hx
    simp [execOp, ho, hu]
  · rename_i f caps ht
    simp only [Option.some.injEq, Prod.mk.injEq] at e
    obtain ⟨rfl, rfl⟩ := e
    rw [ht] at hx
    refine Does.same (u := a.eval x) ?_ R.inv hx
    obtain ⟨p, hu, _⟩ := hx
    simp [execOp, ho, hu]
  · cases e

/-! ### Slicing -/
theorem run_bounds {P : Program} (G : GOK C w0) (R : SR C w0 ds ρ O S s a w) {lo hi : Option Operand} {isS : Bool} {l h len cap : Nat} (hlo : loA C lo s = some l) (hn : hi = none → h = len) (hy : ∀ y, hi = some y → ixOf (ev C y s) = some h) (hlh : l ≤ h) (hhc : h ≤ cap) :
    (Instr.sliceBounds isS len cap (lo.map a.eval) (hi.map a.eval) none).run P w = .ok (l, h, cap) w := by
  have h1 : ∀ (x : Operand) (n : Nat) (c : BoundsCode) (y : Nat), ixOf (ev C x s) = some n → n ≤ y → (Instr.sliceBound (a.eval x) y c).run P w = .ok n w := by
    intro x n c y hx hle
    obtain ⟨k, hk⟩ := ix_eval G R hx
    rw [hk]
    simp [Instr.sliceBound, asIntOf, hle]
  cases lo with
  | none =>
    have : l = 0 := by simp [loA, loB] at hlo; exact hlo.symm
    subst this
    cases hi with
    | none => simp [Instr.sliceBounds, hn rfl]
    | some y => simp [Instr.sliceBounds, h1 y h _ cap (hy y rfl) hhc]
  | some x =>
    have hx : ixOf (ev C x s) = some l := hlo
    cases hi with
    | none =>
      have := hn rfl
      subst this
      simp [Instr.sliceBounds, h1 x l _ h hx hlh]
    | some y => simp [Instr.sliceBounds, h1 y h _ cap (hy y rfl) hhc, h1 x l _ h hx hlh]

theorem bnds_some {lo hi : Option Operand} {n l h : Nat} (e : bndsA C lo hi n s = some (l, h)) : loA C lo s = some l ∧ (hi = none → h = n) ∧ (∀ y, hi = some y → ixOf (ev C y s) = some h) ∧ l ≤ h ∧ h ≤ n := by
  unfold bndsA bndsB at e
  split at e
  · simp only at e
    split at e
    · rename_i l' hl
      split at e
      · rename_i hle
        simp only [Option.some.injEq, Prod.mk.injEq] at e
        obtain ⟨rfl, rfl⟩ := e
        exact ⟨hl, fun _ => rfl, fun _ h => (by cases h), Nat.le_of_ble_eq_true hle, Nat.le_refl _⟩
      · cases e
    · cases e
  · rename_i y
    simp only at e
    split at e
    · rename_i h' hh
      split at e
      · rename_i hle
        split at e
        · rename_i l' hl
          split at e
          · rename_i hle'
            simp only [Option.some.injEq, Prod.mk.injEq] at e
            obtain ⟨rfl, rfl⟩ := e
            exact ⟨hl, fun h => (by cases h), fun z hz => (by cases hz; exact hh), Nat.le_of_ble_eq_true hle', Nat.le_of_ble_eq_true hle⟩
          · cases e
        · cases e
      · cases e
    · cases e

theorem ba_extract (l : List UInt8) (i j : Nat) : (⟨l.toArray⟩ : ByteArray).extract i j = ⟨((l.drop i).take (j - i)).toArray⟩ := by
  apply ByteArray.ext
  simp [ByteArray.data_extract, List.extract_eq_take_drop]

theorem sliceStr_some {lo hi : Option Operand} {l r : List UInt8} (e : sliceStr C lo hi l s = some r) : ∃ i j, loA C lo s = some i ∧ (hi = none → j = l.length) ∧ (∀ y, hi = some y → ixOf (ev C y s) = some j) ∧ i ≤ j ∧ j ≤ l.length ∧ r = (l.drop i).take (j - i) := by
  unfold sliceStr sliceStrB at e
  split at e
  · simp only at e
    split at e
    · rename_i i hi'
      obtain ⟨h1, rfl⟩ := dropX_some.1 e
      exact ⟨i, l.length, hi', fun _ => rfl, fun _ h => (by cases h), h1, Nat.le_refl _, by rw [List.take_of_length_le (by simp)]⟩
    · cases e
  · rename_i y
    simp only at e
    split at e
    · rename_i j hj
      split at e
      · rename_i i hi'
        split at e
        · rename_i hle
          split at e
          · rename_i r' hr
            obtain ⟨h1, rfl⟩ := dropX_some.1 hr
            obtain ⟨h2, rfl⟩ := takeX_some.1 e
            have hle := Nat.le_of_ble_eq_true hle
            have h2 : j - i ≤ (l.drop i).length := h2
            exact ⟨i, j, hi', fun h => (by cases h), fun z hz => (by cases hz; exact hj), hle, by simp at h2; omega, rfl⟩
          · cases e
        · cases e
      · cases e
    · cases e

theorem slice_ok (G : GOK C w0) (R : SR C w0 ds ρ O S s a w) {t : TypeId} {x : Operand} {lo hi : Option Operand} (ho : o.op = .slice t x lo hi none) (e : sliceA C o t x lo hi s = some (v, h')) : Does w0 ρ O S w v h' ((execOp a.eval o).run C.P w) := by
  have hx := ev_VR G R x
  unfold sliceA sliceB at e
  split at e
  · rename_i ht
    simp only at e
    split at e
    · rename_i l hl
      split at e
      · rename_i r hr
        simp only [Option.some.injEq, Prod.mk.injEq] at e
        obtain ⟨rfl, rfl⟩ := e
        obtain ⟨i, j, h1, h2, h3, h4, h5, rfl⟩ := sliceStr_some hr
        rw [hl] at hx
        simp only [VR] at hx
        have hsz : (⟨l.toArray⟩ : ByteArray).size = l.length := by show l.toArray.size = _; simp
        have hb := run_bounds (P := C.P) G R (isS := false) (len := l.length) (cap := l.length) h1 h2 h3 h4 h5
        refine Does.same (u := .string ⟨((l.drop i).take (j - i)).toArray⟩) ?_ R.inv (by simp [VR])
        simp [execOp, ho, hx, Instr.sliceAt, Instr.slice, run_underlying ht, hsz, hb, ba_extract]
      · cases e
    · cases e
  · rename_i el ht
    split at e
    · rename_i z' hz
      simp only at e
      split at e
      · rename_i b k n z hl
        split at e
        · rename_i l h hb hzz
          simp only [Option.some.injEq, Prod.mk.injEq] at e
          obtain ⟨rfl, rfl⟩ := e
          have hzz := Nat.eq_of_beq_eq_true hzz
          subst hzz
          obtain ⟨h1, h2, h3, h4, h5⟩ := bnds_some hb
          rw [hl] at hx
          obtain ⟨cb, hcb, hx⟩ := hx
          rcases hx with ⟨cap, et, sz, hu, hcap, hsh, hfit⟩ | ⟨rfl, p, hsp, hu⟩
          · have hbb := run_bounds (P := C.P) G R (isS := true) (len := n) (cap := cap) h1 h2 h3 h4 (by omega)
            refine Does.same (u := .slice (some (if cap = l then ⟨cb, k, none⟩ else ⟨cb, k + l * z, none⟩)) (h - l) (cap - l)) ?_ R.inv ⟨cb, hcb, ?_⟩
            · simp only [execOp, ho, Instr.sliceAt, Instr.slice, run_underlying ht, hu, Sem.run_bind, Result.andThen_ok, hbb, run_sizeOf hz, Sem.run_pure, Option.map_none]
              split <;> simp_all [add_none]
            · by_cases hcl : cap = l
              · refine Or.inr ⟨by show h - l = 0; omega, ⟨cb, k, none⟩, rfl, ?_⟩
                rw [if_pos hcl]
                have e1 : h - l = 0 := by omega
                have e2 : cap - l = 0 := by omega
                rw [e1, e2]
              · refine Or.inl ⟨cap - l, et, sz, by rw [if_neg hcl]; rfl, by show h - l ≤ cap - l; omega, hsh, ?_⟩
                show k + l * z + (cap - l) * z ≤ sz
                have : l * z + (cap - l) * z = cap * z := by rw [← Nat.add_mul]; congr 1; omega
                omega
          · have hl0 : l = 0 := by omega
            have hh0 : h = 0 := by omega
            subst hl0 hh0
            have hbb := run_bounds (P := C.P) G R (isS := true) (len := 0) (cap := 0) h1 h2 h3 h4 (Nat.le_refl _)
            refine Does.same (u := .slice (some p) 0 0) ?_ R.inv ⟨cb, hcb, Or.inr ⟨rfl, p, hsp, rfl⟩⟩
            simp [execOp, ho, Instr.sliceAt, Instr.slice, run_underlying ht, hu, hbb, run_sizeOf hz]
        · cases e
      · rename_i q z n cs hl
        split at e
        · rename_i l h hb hzz
          split at e
          · rename_i r hr
            split at e
            · rename_i r' hr'
              simp only [Option.some.injEq, Prod.mk.injEq] at e
              obtain ⟨rfl, rfl⟩ := e
              have hzz := Nat.eq_of_beq_eq_true hzz
              subst hzz
              obtain ⟨h1, h2, h3, h4, h5⟩ := bnds_some hb
              obtain ⟨d1, rfl⟩ := dropX_some.1 hr
              obtain ⟨d2, rfl⟩ := takeX_some.1 hr'
              rw [hl] at hx
              obtain ⟨p, cap, hu, hcap, hsp, hst, hm⟩ := hx
              rw [addr_eta hsp] at hu
              have hbb := run_bounds (P := C.P) G R (isS := true) (len := n) (cap := cap) h1 h2 h3 h4 (by omega)
              have hst' : ∀ ds : List AV, ds ≠ [] → ds = ((cs.drop (l * z)).take ((h - l) * z)) → Stab O S w q p.block := by
                intro ds hne hd
                rcases hst with rfl | hst
                · exact absurd (by simpa using hd) hne
                · exact hst
              refine Does.same (u := .slice (some (if cap = l then ⟨p.block, p.off, none⟩ else ⟨p.block, p.off + l * z, none⟩)) (h - l) (cap - l)) ?_ R.inv ?_
              · simp only [execOp, ho, Instr.sliceAt, Instr.slice, run_underlying ht, hu, Sem.run_bind, Result.andThen_ok, hbb, run_sizeOf hz, Sem.run_pure, Option.map_none]
                split <;> simp_all [add_none]
              · by_cases hcl : cap = l
                · have e1 : h - l = 0 := by omega
                  refine ⟨⟨p.block, p.off, none⟩, cap - l, by rw [if_pos hcl]; rfl, by show h - l ≤ _; omega, rfl, Or.inl ?_, ?_⟩
                  · show List.take ((h - l) * z) _ = []
                    rw [e1, Nat.zero_mul]; rfl
                  · show VRM O S w _ (List.take ((h - l) * z) _) _ _
                    rw [e1, Nat.zero_mul]; trivial
                · refine ⟨⟨p.block, p.off + l * z, none⟩, cap - l, by rw [if_neg hcl]; rfl, by show h - l ≤ cap - l; omega, rfl, ?_, (hm.drop (l * z)).take ((h - l) * z)⟩
                  by_cases hne : ((cs.drop (l * z)).take ((h - l) * z)) = []
                  · exact Or.inl hne
                  · exact Or.inr (hst' _ hne rfl)
            · cases e
          · cases e
        · cases e
      · obtain ⟨e1, rfl⟩ := keep_some e
        refine Does.of_run (pureOp_run G R e1 (by rw [ho]; intro _ _ h; cases h) ?_) R.inv
        rw [ho]
        intro y hy
        simp [Op.operands] at hy
        simp
        cases lo <;> cases hi <;> simp_all
    · cases e
  · rename_i n el ht
    split at e
    · rename_i z hz
      simp only at e
      split at e
      · rename_i b k hl
        split at e
        · rename_i l h hb
          split at e
          · rename_i et cs hg
            split at e
            · rename_i hfit
              have hfit := Nat.le_of_ble_eq_true hfit
              simp only [Option.some.injEq, Prod.mk.injEq] at e
              obtain ⟨rfl, rfl⟩ := e
              obtain ⟨h1, h2, h3, h4, h5⟩ := bnds_some hb
              rw [hl] at hx
              obtain ⟨cb, hcb, hu⟩ := hx
              obtain ⟨_, vs, ex, fr, hh, _, hv⟩ := R.inv.blk b cb _ hcb hg
              have hlen := hv.length
              have hfit : k + n * z ≤ cs.length := hfit
              have hbb := run_bounds (P := C.P) G R (isS := false) (len := n) (cap := n) h1 h2 h3 h4 h5
              refine Does.same (u := .slice (some (if n = l then ⟨cb, k, none⟩ else ⟨cb, k + l * z, none⟩)) (h - l) (n - l)) ?_ R.inv ⟨cb, hcb, ?_⟩
              · simp only [execOp, ho, Instr.sliceAt, Instr.sureAddr, run_underlying ht, hu, Sem.run_bind, Result.andThen_ok, hbb, run_sizeOf hz, Sem.run_pure, Option.map_none]
                split <;> simp_all [add_none]
              · by_cases hcl : n = l
                · refine Or.inr ⟨by show h - l = 0; omega, ⟨cb, k, none⟩, rfl, ?_⟩
                  rw [if_pos hcl]
                  have e1 : h - l = 0 := by omega
                  have e2 : n - l = 0 := by omega
                  rw [e1, e2]
                · refine Or.inl ⟨n - l, et, vs.length + ex.length, by rw [if_neg hcl]; rfl, by show h - l ≤ n - l; omega, by simp [World.shape?, hh], ?_⟩
                  show k + l * z + (n - l) * z ≤ vs.length + ex.length
                  have : l * z + (n - l) * z = n * z := by rw [← Nat.add_mul]; congr 1; omega
                  omega
            · cases e
          · cases e
        · cases e
      · rename_i q cs hl
        split at e
        · rename_i l h hb
          split at e
          · rename_i r1 hr1
            split at e
            · rename_i r2 hr2
              simp only [Option.some.injEq, Prod.mk.injEq] at e
              obtain ⟨rfl, rfl⟩ := e
              obtain ⟨hle1, rfl⟩ := dropX_some.1 hr1
              obtain ⟨hle2, rfl⟩ := takeX_some.1 hr2
              obtain ⟨h1, h2, h3, h4, h5⟩ := bnds_some hb
              rw [hl] at hx
              obtain ⟨p, hu, hsp, hst, hm⟩ := hx
              obtain ⟨pb, po, sp⟩ := p
              simp only at hsp
              subst hsp
              have hbb := run_bounds (P := C.P) G R (isS := false) (len := n) (cap := n) h1 h2 h3 h4 h5
              refine Does.same (u := .slice (some (if n = l then ⟨pb, po, none⟩ else ⟨pb, po + l * z, none⟩)) (h - l) (n - l)) ?_ R.inv ?_
              · simp only [execOp, ho, Instr.sliceAt, Instr.sureAddr, run_underlying ht, hu, Sem.run_bind, Result.andThen_ok, hbb, run_sizeOf hz, Sem.run_pure, Option.map_none]
                split <;> simp_all [add_none]
              · by_cases hcl : n = l
                · have e1 : h - l = 0 := by omega
                  refine ⟨⟨pb, po, none⟩, n - l, by rw [if_pos hcl]; rfl, by show h - l ≤ _; omega, rfl, Or.inl ?_, ?_⟩
                  · show List.take ((h - l) * z) _ = []
                    rw [e1, Nat.zero_mul]; rfl
                  · show VRM O S w _ (List.take ((h - l) * z) _) _ _
                    rw [e1, Nat.zero_mul]; trivial
                · refine ⟨⟨pb, po + l * z, none⟩, n - l, by rw [if_neg hcl]; rfl, by show h - l ≤ n - l; omega, rfl, ?_, (hm.drop (l * z)).take ((h - l) * z)⟩
                  rcases hst with rfl | hst
                  · left; simp
                  · exact Or.inr hst
            · cases e
          · cases e
        · cases e
      · cases e
    · cases e
  · cases e
end
end Go.Ab
