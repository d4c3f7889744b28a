/-
  The abstract machine's step against the model's; regions in whatever order; calls: THE SOUNDNESS OF THE ABSTRACT MACHINE.
-/
import Derived.Test.YtfbnfdcbcobogaaGreatDoorAb8
namespace Go.Ab

theorem get!_eq (l : List UInt8) (k : Nat) : ((⟨l.toArray⟩ : ByteArray).get! k).toNat = match l[k]? with | some b => b.toNat | none => 0 := by
  show (l.toArray[k]!).toNat = _
  by_cases h : k < l.length
  · rw [List.getElem?_eq_getElem h]
    simp [h]
  · rw [List.getElem?_eq_none (Nat.le_of_not_lt h)]
    simp [h]
    rfl

theorem decode_eq (l : List UInt8) (pos : Nat) : Utf8.decode ⟨l.toArray⟩ pos = decodeL (l.drop pos) := by
  have hb : ∀ k, ((⟨l.toArray⟩ : ByteArray).get! (pos + k)).toNat = byteN (l.drop pos) k := by
    intro k
    rw [get!_eq, byteN, nth_eq, List.getElem?_drop]
    cases l[pos + k]? <;> rfl
  have hc : ∀ k, (decide (pos + k < (⟨l.toArray⟩ : ByteArray).size) && byteN (l.drop pos) k / 64 == 2) = contN (l.drop pos) k := by
    intro k
    have hsz : (⟨l.toArray⟩ : ByteArray).size = l.length := by show l.toArray.size = _; simp
    rw [hsz, byteN, contN, nth_eq, List.getElem?_drop]
    by_cases h : pos + k < l.length
    · rw [List.getElem?_eq_getElem h]
      simp only [h, decide_true, Bool.true_and]
      cases hq : Nat.beq (l[pos + k].toNat.div 64) 2 with
      | true => have h2 : l[pos + k].toNat / 64 = 2 := Nat.eq_of_beq_eq_true hq; simp [h2]
      | false => have h2 : ¬ l[pos + k].toNat / 64 = 2 := Nat.ne_of_beq_eq_false hq; simp [h2]
    · rw [List.getElem?_eq_none (Nat.le_of_not_lt h)]
      simp [h]
  unfold Utf8.decode decodeL
  simp only [hb, hc]

section
variable {rd : Option Nat} {C : Ctx} {w0 : World} {ds : List Deferred} {ρ : Nat → Option Nat} {O S : Nat → Prop} {s : St} {a : Act} {w : World} {o : Oper} {v : AV} {h' : Hp}

theorem range_ok (G : GOK C w0) (R : SR C w0 ds ρ O S s a w) {t : TypeId} {x : Operand} (ho : o.op = .range t x) (h : rangeA C t x s = some (v, h')) : Does w0 ρ O S w v h' ((execOp a.eval o).run C.P w) := by
  have hx := ev_VR G R x
  unfold rangeA rangeB at h
  split at h
  · rename_i ht
    simp only at h
    split at h
    · rename_i l hl
      simp only [Option.some.injEq, Prod.mk.injEq] at h
      obtain ⟨rfl, rfl⟩ := h
      rw [hl] at hx
      simp only [VR] at hx
      obtain ⟨I', E⟩ := R.inv.new (w' := w.alloc (.stringIter ⟨l.toArray⟩ 0)) (o := .stringIter ⟨l.toArray⟩ 0) rfl rfl rfl rfl (.iter 0 l l) ⟨Or.inr rfl, by show (w.heap.push _)[w.heap.size]? = _; simp, by simp⟩
      refine ⟨.pointer (some ⟨w.heap.size, 0, none⟩), _, _, _, Or.inl ?_, I', ⟨w.heap.size, if_pos rfl, rfl⟩, E⟩
      simp [execOp, ho, hx, Instr.range, run_underlying ht]
    · cases h
  · cases h

theorem next_ok (G : GOK C w0) (R : SR C w0 ds ρ O S s a w) {x : Operand} {isS : Bool} (ho : o.op = .next x isS) (h : nextA C x isS s = some (v, h')) : Does w0 ρ O S w v h' ((execOp a.eval o).run C.P w) := by
  have hx := ev_VR G R x
  unfold nextA nextB at h
  split at h
  case h_2 => cases h
  simp only at h
  split at h
  case h_2 => cases h
  rename_i b k hl
  split at h
  case h_2 => cases h
  split at h
  case h_2 => cases h
  rename_i pos all rest hg
  rw [hl] at hx
  obtain ⟨cb, hcb, hu⟩ := hx
  obtain ⟨hO, hh, hrest⟩ := R.inv.blk b cb _ hcb hg
  have hsz : (⟨all.toArray⟩ : ByteArray).size = all.length := by show all.toArray.size = _; simp
  have hgo := run_getObj (P := C.P) hh (by simp)
  split at h
  · rename_i b0 r0
    split at h
    · rename_i r hr
      simp only [Option.some.injEq, Prod.mk.injEq] at h
      obtain ⟨rfl, rfl⟩ := h
      obtain ⟨hle, rfl⟩ := dropX_some.1 hr
      have hlt : pos < all.length := by
        rcases Nat.lt_or_ge pos all.length with q | q
        · exact q
        · rw [List.drop_eq_nil_of_le q] at hrest; cases hrest
      have hso := run_setObj (P := C.P) (o' := .stringIter ⟨all.toArray⟩ (pos + (decodeL (b0 :: r0)).2)) hh (by simp)
      have hlt' := lt_of_heap hh
      obtain ⟨I', E⟩ := R.inv.set (w' := w.withObj cb (.stringIter ⟨all.toArray⟩ (pos + (decodeL (b0 :: r0)).2))) (x' := .iter (Nat.add pos (decodeL (b0 :: r0)).2) all ((b0 :: r0).drop (decodeL (b0 :: r0)).2)) hcb hg trivial withObj_size
        (by simp [World.shape?, withObj_at hlt', hh]) (fun y hy => withObj_ne hy) rfl rfl rfl ⟨hO, withObj_at hlt', by rw [hrest, List.drop_drop]; rfl⟩
      refine ⟨.tuple #[.bool true, .int .i64 pos, .int .i32 (decodeL (b0 :: r0)).1], _, _, _, Or.inl ?_, I', ⟨[.bool true, .int .i64 pos, .int .i32 (decodeL (b0 :: r0)).1], rfl, by simp [VRs, VR]⟩, E⟩
      simp [execOp, ho, hu, Instr.next, hgo, hsz, hlt, decode_eq, ← hrest, hso, goInt]
    · cases h
  · simp only [Option.some.injEq, Prod.mk.injEq] at h
    obtain ⟨rfl, rfl⟩ := h
    have hge : ¬ pos < all.length := by
      intro q
      have := congrArg List.length hrest
      simp at this
      omega
    refine Does.same (u := .tuple #[.bool false]) ?_ R.inv ⟨[.bool false], rfl, by simp [VRs, VR]⟩
    simp [execOp, ho, hu, Instr.next, hgo, hsz, hge]

/-! ### Calls -/
/-- The frames at work: functions', or rounds' of the loop whose record is l. -/
def Fr (rd : Option Nat) : Fence := { Fence.wide with round := rd }
theorem Fr.callsIn {rd : Option Nat} {n : Nat} {P : Program} {f : FuncId} {args : Array Value} {w : World} {R : Ending → World → Prop} (h : Calls P f args w R) : CallsIn (Fr rd) n P f args w R :=
  (callsIn_wide (n := n)).2 h
theorem Fr.round {rd : Option Nat} {n : Nat} {P : Program} {l : Nat} {f : FuncId} {tmps : Array Value} {assign body : Code} {w : World} {R : Ending → World → Prop} (h : RoundIn Fence.wide n P l f tmps assign body w R) : RoundIn (Fr rd) n P l f tmps assign body w R := h


/-- What a call must do to be trusted: from whatever world that the arguments stand for. -/
def CallOK (C : Ctx) (w0 : World) (f : FuncId) (g : List AV → Hp → Option (AV × Hp)) : Prop :=
  ∀ args h r h', g args h = some (r, h') → ∀ ρ O S w vs, Inv w0 ρ O S h w → VRs O S w ρ args vs →
    Calls C.P f vs.toArray w fun e w' => ∃ v ρ' O', e = .returned v ∧ Inv w0 ρ' O' S h' w' ∧ VR O' S w' ρ' r v ∧ Ext ρ O S w ρ' O' S w'

/-- What a round must do to be trusted. -/
def RndOK (C : Ctx) (w0 : World) (g : List AV → Hp → Option (AV × Hp)) : Prop :=
  ∀ b args h r h', g (.rnd b :: args) h = some (r, h') → ∀ ρ O S w cb vs, Inv w0 ρ O S h w → ρ b = some cb → VRs O S w ρ args vs →
    ∃ f tmps assign body, (Instr.yield cb vs.toArray).run C.P w = .ok (.round cb f tmps assign body) w ∧
      RoundIn Fence.wide 0 C.P cb f tmps assign body w fun e w' => ∃ v ρ' O', e = .returned v ∧ Inv w0 ρ' O' S h' w' ∧ VR O' S w' ρ' r v ∧ Ext ρ O S w ρ' O' S w'

/-- A function that has a text, and is none of those that the model makes itself: its call enters it. -/
def Enters (P : Program) (f : FuncId) : Bool :=
  match P.funcs[f]? with
  | some fn => fn.body.isSome && fn.name != "runtime.NumGoroutine"
  | none => false

theorem run_callFunc {P : Program} {f : FuncId} (h : Enters P f = true) (args : Array Value) (w : World) : (callFunc f args).run P w = .ok (.enter f args) w := by
  unfold Enters at h
  split at h
  · rename_i fn hf
    simp only [Bool.and_eq_true, bne_iff_ne, ne_eq] at h
    obtain ⟨h1, h2⟩ := h
    simp only [callFunc, Sem.run_bind, run_program, Result.andThen_ok, hf]
    rw [if_neg (by simpa using h2)]
    rw [if_neg (by cases hb : fn.body <;> simp_all)]
    rfl
  · cases h

/-- A step: what holds behind it holds behind the model's operation. -/
def After (w0 : World) (ρ : Nat → Option Nat) (O S : Nat → Prop) (w : World) (v : AV) (h : Hp) (K : Value → World → Prop) : Prop :=
  ∀ u w' ρ' O', Inv w0 ρ' O' S h w' → VR O' S w' ρ' v u → Ext ρ O S w ρ' O' S w' → K u w'

theorem upon_of_does {next : Act → World → Prop} {Q : Exit → Act → World → Prop} {r : Result Next} (d : Does w0 ρ O S w v h' r) (k : After w0 ρ O S w v h' fun u w' => next (a.put o.dst u) w') : o.uponIn (Fr rd) 0 C.P a next Q r := by
  obtain ⟨u, w', ρ', O', hr, I, hv, E⟩ := d
  rcases hr with rfl | ⟨rfl, rfl⟩
  · exact k u w' ρ' O' I hv E
  · exact k undef w' ρ' O' I hv E

theorem call_ok (G : GOK C w0) (R : SR C w0 ds ρ O S s a w) {call : FuncId → List AV → Hp → Option (AV × Hp)} (hcall : ∀ f, f ≠ rndF → CallOK C w0 f (call f)) (hent : ∀ f args h r, f ≠ rndF → call f args h = some r → Enters C.P f = true) {f : Operand} {args : Array Operand} {ts : Array TypeId} (ho : o.op = .call { callee := .value f, args := args, argTypes := ts })
    {g : FuncId} {caps : List AV} (hf : ev C f s = .fn g caps) (hg : g ≠ rndF) (h : call g (evs C args.toList s ++ caps) s.h = some (v, h')) {next : Act → World → Prop} {Q : Exit → Act → World → Prop} (k : After w0 ρ O S w v h' fun u w' => next (a.put o.dst u) w') :
    o.uponIn (Fr rd) 0 C.P a next Q ((execOp a.eval o).run C.P w) := by
  have hfv := ev_VR G R f
  rw [hf] at hfv
  obtain ⟨cv, hfe, hcv⟩ := hfv
  have hargs := (evs_VR G R args.toList).append hcv
  have he := hent _ _ _ _ hg h
  have hrun : (execOp a.eval o).run C.P w = .ok (.enter g ((args.toList.map a.eval ++ cv).toArray)) w := by
    have e1 : args.map a.eval ++ cv.toArray = (args.toList.map a.eval ++ cv).toArray := by
      apply Array.ext'
      simp
    simp only [execOp, ho, resolve, hfe, Deferred.ofValue, Sem.run_bind, Sem.run_pure, Result.andThen_ok, invoke]
    rw [run_callFunc he]
    rw [← e1]
    simp
  rw [hrun, Oper.uponIn_enter]
  refine ⟨fun e => (Bool.noConfusion e), Fr.callsIn ((hcall g hg _ _ _ _ h ρ O S w _ R.inv hargs).mono ?_)⟩
  rintro e w' ⟨u, ρ', O', rfl, I, hv, E⟩
  exact k u w' ρ' O' I hv E

theorem call_ok' (G : GOK C w0) (R : SR C w0 ds ρ O S s a w) {call : FuncId → List AV → Hp → Option (AV × Hp)} (hcall : ∀ f, f ≠ rndF → CallOK C w0 f (call f)) (hent : ∀ f args h r, f ≠ rndF → call f args h = some r → Enters C.P f = true) {f : Operand} {args : Array Operand} {ts : Array TypeId} (ho : o.op = .call { callee := .value f, args := args, argTypes := ts })
    {g : FuncId} {fs : List AV} (hf : ev C f s = .mv g fs) (hg : g ≠ rndF) (h : call g (fs ++ evs C args.toList s) s.h = some (v, h')) {next : Act → World → Prop} {Q : Exit → Act → World → Prop} (k : After w0 ρ O S w v h' fun u w' => next (a.put o.dst u) w') :
    o.uponIn (Fr rd) 0 C.P a next Q ((execOp a.eval o).run C.P w) := by
  have hfv := ev_VR G R f
  rw [hf] at hfv
  obtain ⟨cv, hfe, hcv⟩ := hfv
  have hargs := hcv.append (evs_VR G R args.toList)
  have he := hent _ _ _ _ hg h
  have hrun : (execOp a.eval o).run C.P w = .ok (.enter g ((cv ++ args.toList.map a.eval).toArray)) w := by
    have e1 : cv.toArray ++ args.map a.eval = (cv ++ args.toList.map a.eval).toArray := by
      apply Array.ext'
      simp
    simp only [execOp, ho, resolve, hfe, Deferred.ofValue, Sem.run_bind, Sem.run_pure, Result.andThen_ok, invoke]
    rw [run_callFunc he]
    rw [← e1]
    simp
  rw [hrun, Oper.uponIn_enter]
  refine ⟨fun e => (Bool.noConfusion e), Fr.callsIn ((hcall g hg _ _ _ _ h ρ O S w _ R.inv hargs).mono ?_)⟩
  rintro e w' ⟨u, ρ', O', rfl, I, hv, E⟩
  exact k u w' ρ' O' I hv E

theorem rnd_ok (G : GOK C w0) (R : SR C w0 ds ρ O S s a w) {call : FuncId → List AV → Hp → Option (AV × Hp)} (hr : RndOK C w0 (call rndF)) {f : Operand} {args : Array Operand} {ts : Array TypeId} (ho : o.op = .call { callee := .value f, args := args, argTypes := ts })
    {b : Nat} (hf : ev C f s = .rnd b) (h : call rndF (.rnd b :: evs C args.toList s) s.h = some (v, h')) {next : Act → World → Prop} {Q : Exit → Act → World → Prop} (k : After w0 ρ O S w v h' fun u w' => next (a.put o.dst u) w') :
    o.uponIn (Fr rd) 0 C.P a next Q ((execOp a.eval o).run C.P w) := by
  have hfv := ev_VR G R f
  rw [hf] at hfv
  obtain ⟨cb, hcb, hfe⟩ := hfv
  obtain ⟨g, tmps, as, bd, hy, hround⟩ := hr _ _ _ _ _ h ρ O S w cb _ R.inv hcb (evs_VR G R args.toList)
  have hrun : (execOp a.eval o).run C.P w = .ok (.round cb g tmps as bd) w := by
    have e1 : args.map a.eval = (args.toList.map a.eval).toArray := by
      apply Array.ext'
      simp
    simp only [execOp, ho, resolve, hfe, Deferred.ofValue, Sem.run_bind, Sem.run_pure, Result.andThen_ok, invoke]
    rw [← hy, ← e1]
    simp
  rw [hrun, Oper.uponIn_round]
  refine ⟨fun e => (Bool.noConfusion e), Fr.round (hround.mono ?_)⟩
  rintro e w' ⟨u, ρ', O', rfl, I, hv, E⟩
  exact k u w' ρ' O' I hv E

theorem follow_nil {P : Program} (t : TypeId) (x : Place) (w : World) : (Go.follow [] t x).run P w = .ok (t, x) w := by
  simp [Go.follow]
theorem meth_run {P : Program} {t : TypeId} {name : String} {f : FuncId} (h : methOf P t name = some f) (n : Nat) (v : Value) (w : World) : (Go.method (n + 1) t v name).run P w = .ok (f, v) w := by
  unfold methOf at h
  split at h
  case h_2 => cases h
  rename_i i hi
  split at h
  case h_2 => cases h
  rename_i m hm
  split at h
  case h_2 => cases h
  rename_i f' e hp hf hu
  injection h with h
  subst h
  have hp : m.path = #[] := Array.eq_empty_of_size_eq_zero hp
  simp only [Go.method, typeInfo, Sem.run_bind, run_program, Result.andThen_ok, hi, Sem.run_pure, hm, hp, Array.toList_empty, follow_nil, hf]
  simp [Go.receiverAt, run_underlying hu, Place.get]
theorem inv_ok (G : GOK C w0) (R : SR C w0 ds ρ O S s a w) {call : FuncId → List AV → Hp → Option (AV × Hp)} (hcall : ∀ f, f ≠ rndF → CallOK C w0 f (call f)) (hent : ∀ f args h r, f ≠ rndF → call f args h = some r → Enters C.P f = true) {r : Operand} {name : String} {args : Array Operand} {ts : Array TypeId} (ho : o.op = .call { callee := .invoke r name, args := args, argTypes := ts })
    {t : TypeId} {x : AV} {g : FuncId} (hf : ev C r s = .iface t x) (hm : methOf C.P t name = some g) (hg : g ≠ rndF) (h : call g (x :: evs C args.toList s) s.h = some (v, h')) {next : Act → World → Prop} {Q : Exit → Act → World → Prop} (k : After w0 ρ O S w v h' fun u w' => next (a.put o.dst u) w') :
    o.uponIn (Fr rd) 0 C.P a next Q ((execOp a.eval o).run C.P w) := by
  have hfv := ev_VR G R r
  rw [hf] at hfv
  obtain ⟨cv, hfe, hcv⟩ := hfv
  have hargs : VRs O S w ρ (x :: evs C args.toList s) (cv :: args.toList.map a.eval) := ⟨_, _, rfl, hcv, evs_VR G R args.toList⟩
  have he := hent _ _ _ _ hg h
  have hrun : (execOp a.eval o).run C.P w = .ok (.enter g ((cv :: args.toList.map a.eval).toArray)) w := by
    have e1 : #[cv] ++ args.map a.eval = (cv :: args.toList.map a.eval).toArray := by
      apply Array.ext'
      simp
    have e2 : (#[a.eval r] ++ args.map a.eval).extract 1 (#[a.eval r] ++ args.map a.eval).size = args.map a.eval := by
      apply Array.ext'
      simp
      exact List.take_of_length_le (by simp)
    have e3 : (#[a.eval r] ++ args.map a.eval)[0]? = some (.iface t cv) := by
      rw [hfe, Array.getElem?_append_left (by simp)]
      rfl
    simp only [execOp, ho, resolve, Sem.run_bind, Sem.run_pure, Result.andThen_ok, invoke]
    rw [e3]
    show (callMethod (.iface t cv) name ((#[a.eval r] ++ args.map a.eval).extract 1 (#[a.eval r] ++ args.map a.eval).size)).run C.P w = _
    simp only [callMethod, e2, Sem.run_bind, run_program, Result.andThen_ok]
    have e4 : C.P.types.size + Made.depth = (C.P.types.size + (Made.depth - 1)) + 1 := by
      have : 1 ≤ Made.depth := by decide
      omega
    rw [e4, meth_run hm, Result.andThen_ok, e1, run_callFunc he]
  rw [hrun, Oper.uponIn_enter]
  refine ⟨fun e => (Bool.noConfusion e), Fr.callsIn ((hcall g hg _ _ _ _ h ρ O S w _ R.inv hargs).mono ?_)⟩
  rintro e w' ⟨u, ρ', O', rfl, I, hv, E⟩
  exact k u w' ρ' O' I hv E

theorem ext_run {P : Program} {f : FuncId} {e : Array Value → Sem Value} (h : extOf P f = some e) (args : Array Value) : (callFunc f args).run P w = ((e args).run P w).andThen fun r w' => .ok (.value r) w' := by
  unfold extOf at h
  split at h
  · rename_i fn hf
    split at h
    · cases h
    · rename_i hb
      split at h
      · rename_i hn hx
        simp only [callFunc, Sem.run_bind, run_program, Result.andThen_ok, hf]
        rw [if_neg (by simp [hn]), if_pos (by simp [hb])]
        simp [hx, h]
      · cases h
  · cases h

theorem ne_rnd {f : Nat} (h : Nat.beq f rndF = false) : f ≠ rndF := Nat.ne_of_beq_eq_false h
theorem step_ok (G : GOK C w0) (R : SR C w0 ds ρ O S s a w) {call : FuncId → List AV → Hp → Option (AV × Hp)} (hr : RndOK C w0 (call rndF)) (hcall : ∀ f, f ≠ rndF → CallOK C w0 f (call f)) (hent : ∀ f args h r, f ≠ rndF → call f args h = some r → Enters C.P f = true) (h : stepOp C call o s = some (v, h'))
    {next : Act → World → Prop} {Q : Exit → Act → World → Prop} (k : After w0 ρ O S w v h' fun u w' => next (a.put o.dst u) w') : o.uponIn (Fr rd) 0 C.P a next Q ((execOp a.eval o).run C.P w) := by
  unfold stepOp stepOpB at h
  split at h
  · rename_i x ho
    simp only [Option.some.injEq, Prod.mk.injEq] at h
    obtain ⟨rfl, rfl⟩ := h
    exact upon_of_does (move_ok G R (Or.inl ho)) k
  · rename_i x ho
    simp only [Option.some.injEq, Prod.mk.injEq] at h
    obtain ⟨rfl, rfl⟩ := h
    exact upon_of_does (move_ok G R (Or.inr ho)) k
  · rename_i ho; exact upon_of_does (pick_ok G R ho h) k
  · rename_i ho; exact upon_of_does (extract_ok G R ho h) k
  · rename_i ho; exact upon_of_does (alloc_ok R ho h) k
  · rename_i ho; exact upon_of_does (box_ok G R ho h) k
  · rename_i ho; exact upon_of_does (load_ok G R ho h) k
  · rename_i ho; exact upon_of_does (store_ok G R ho h) k
  · rename_i ho; exact upon_of_does (fieldAddr_ok G R ho h) k
  · rename_i ho; exact upon_of_does (field_ok G R ho h) k
  · rename_i ho
    simp only at h
    split at h
    · cases h
    · rename_i i hi
      exact upon_of_does (indexAddr_ok G R ho hi h) k
  · rename_i ho; exact upon_of_does (idx_ok G R ho h) k
  · rename_i ho
    split at h
    · cases h
    · exact upon_of_does (slice_ok G R ho h) k
  · rename_i ho; exact upon_of_does (bin_ok G R ho h) k
  · rename_i ho; exact upon_of_does (un_ok G R ho h) k
  · rename_i ho; exact upon_of_does (convert_ok G R ho h) k
  · rename_i ho; exact upon_of_does (iface_ok G R ho h) k
  · rename_i ho
    split at h
    · split at h
      · rename_i hf
        simp only [Option.some.injEq, Prod.mk.injEq] at h
        obtain ⟨rfl, rfl⟩ := h
        exact upon_of_does (func_ok G R ho hf) k
      · split at h
        · rename_i hc
          simp only [Option.some.injEq, Prod.mk.injEq] at h
          obtain ⟨rfl, rfl⟩ := h
          exact upon_of_does (func_ok' G R ho hc) k
        · cases h
    · cases h
  · rename_i ho; exact upon_of_does (makeSlice_ok G R ho h) k
  · rename_i ho; exact upon_of_does (buildSlice_ok G R ho h) k
  · rename_i ho; exact upon_of_does (build_ok G R ho h) k
  · rename_i ho; exact upon_of_does (nilCheck_ok G R ho h) k
  · rename_i ho; exact upon_of_does (range_ok G R ho h) k
  · rename_i ho; exact upon_of_does (next_ok G R ho h) k
  · rename_i c ho
    obtain ⟨callee, args, ts⟩ := c
    unfold callB at h
    simp only at h
    split at h
    · exact upon_of_does (builtin_ok G R ho h) k
    · split at h
      · rename_i f
        unfold callFB at h
        have hrun : (execOp a.eval o).run C.P w = (callFunc f (args.map a.eval)).run C.P w := by
          simp [execOp, ho, resolve, Act.eval, Deferred.ofValue, invoke]
        split at h
        · rename_i hsame
          split at h
          · rename_i x hargs
            have hargs : args = #[x] := Array.ext' hargs
            simp only [Option.some.injEq, Prod.mk.injEq] at h
            obtain ⟨rfl, rfl⟩ := h
            refine upon_of_does (Does.same (u := a.eval x) ?_ R.inv (ev_VR G R x)) k
            rw [hrun, hargs, show (#[x] : Array Operand).map a.eval = #[a.eval x] by simp]
            exact G.2 f hsame _ w
          · cases h
        · split at h
          · rename_i e he
            obtain ⟨h1, rfl⟩ := keep_some h
            refine upon_of_does ?_ k
            unfold extA at h1
            split at h1
            · rename_i vs hvs
              split at h1
              · rename_i u hu
                injection h1 with h1
                subst h1
                have hev : args.toList.map a.eval = vs := toVs_VRs _ _ _ hvs (evs_VR G R args.toList)
                refine Does.same (u := u) ?_ R.inv (ofV_VR u)
                rw [hrun, ext_run he]
                have : args.map a.eval = vs.toArray := by rw [← hev]; apply Array.ext'; simp
                rw [this, pv_run _ w hu]
                rfl
              · cases h1
            · cases h1
          · split at h
            · cases h
            · rename_i hne
              have h' : call f (evs C args.toList s ++ []) s.h = some (v, h') := by rw [List.append_nil]; exact h
              exact call_ok G R hcall hent ho rfl (ne_rnd hne) h' k
      · rename_i f hne
        split at h
        · simp only at h
          split at h
          · rename_i g caps hf
            split at h
            · cases h
            · rename_i hne
              exact call_ok G R hcall hent ho hf (ne_rnd hne) h k
          · rename_i g fs hf
            split at h
            · cases h
            · rename_i hne
              exact call_ok' G R hcall hent ho hf (ne_rnd hne) h k
          · rename_i b hf
            exact rnd_ok G R hr ho hf h k
          · cases h
        · simp only at h
          split at h
          · rename_i g caps hf
            split at h
            · split at h
              · cases h
              · rename_i hne
                exact call_ok G R hcall hent ho hf (ne_rnd hne) h k
            · cases h
          · rename_i g fs hf
            split at h
            · split at h
              · cases h
              · rename_i hne
                exact call_ok' G R hcall hent ho hf (ne_rnd hne) h k
            · cases h
          · cases h
    · rename_i r name
      split at h
      · cases h
      · simp only at h
        split at h
        · rename_i t x hf
          split at h
          · rename_i g hm
            split at h
            · cases h
            · rename_i hne
              exact inv_ok G R hcall hent ho hf hm (ne_rnd hne) h k
          · cases h
        · cases h
  · rename_i ho; exact upon_of_does (makeMap_ok G R ho h) k
  · rename_i ho; exact upon_of_does (lookup_ok G R ho h) k
  · rename_i ho; exact upon_of_does (update_ok G R (Or.inl ho) h) k
  · rename_i ho; exact upon_of_does (update_ok G R (Or.inr ho) h) k
  · rename_i ho; exact upon_of_does (entry_ok G R ho h) k
  · rename_i ho; exact upon_of_does (entryStore_ok G R ho h) k
  · cases h
end
end Go.Ab
