/-
  Each operation of the abstract machine against the model's: make, literals, conversions, append, len, ranges over strings.
-/
import Derived.Test.YtfbnfdcbcobogaaGreatDoorAbB
import Derived.Laws.MakeOwn
import Derived.Lib.AppendZeros
import Derived.Laws.Tables
namespace Go.Ab

section
variable {C : Ctx} {w0 : World} {ds : List Deferred} {ρ : Nat → Option Nat} {O S : Nat → Prop} {s : St} {a : Act} {w : World} {o : Oper} {v : AV} {h' : Hp}

mutual
theorem tree_VR : ∀ (x : AV) (v : Value), isTree x = true → VR O S w ρ x v → VR O S w (fun _ => none) x v
  | .undef, _, _, _ => by simp [VR]
  | .int k n, _, _, h => by simpa [VR] using h
  | .bool b, _, _, h => by simpa [VR] using h
  | .str l, _, _, h => by simpa [VR] using h
  | .val v, _, _, h => by simpa [VR] using h
  | .agg cs, v, e, h => by
    simp only [VR] at h ⊢
    obtain ⟨vs, e', h⟩ := h
    exact ⟨vs, e', trees_VR cs vs (by simpa [isTree] using e) h⟩
  | .tup cs, v, e, h => by
    simp only [VR] at h ⊢
    obtain ⟨vs, e', h⟩ := h
    exact ⟨vs, e', trees_VR cs vs (by simpa [isTree] using e) h⟩
  | .lst q z n cs, v, _, h => by simpa [VR] using h
  | .tptr q cs, v, _, h => by simpa [VR] using h
  | .ptr b o, v, e, _ => by simp [isTree] at e
  | .sl b o n z, v, e, _ => by simp [isTree] at e
  | .fn f cs, v, e, h => by
    simp only [VR] at h ⊢
    obtain ⟨vs, e', h⟩ := h
    exact ⟨vs, e', trees_VR cs vs (by simpa [isTree] using e) h⟩
  | .mv f cs, v, e, h => by
    simp only [VR] at h ⊢
    obtain ⟨vs, e', h⟩ := h
    exact ⟨vs, e', trees_VR cs vs (by simpa [isTree] using e) h⟩
  | .mapr b, v, e, _ => by simp [isTree] at e
  | .mtree q ks vs, v, _, h => by simpa [VR] using h
  | .iface t x, v, e, h => by
    simp only [VR] at h ⊢
    obtain ⟨u, e', h⟩ := h
    exact ⟨u, e', tree_VR x u (by simpa [isTree] using e) h⟩
theorem trees_VR : ∀ (cs : List AV) (vs : List Value), allTree cs = true → VRs O S w ρ cs vs → VRs O S w (fun _ => none) cs vs
  | [], _, _, h => by simpa [VRs] using h
  | c :: cs, _, e, h => by
    simp only [VRs] at h ⊢
    obtain ⟨v, r, e', h1, h2⟩ := h
    unfold allTree at e
    split at e
    · rename_i hc
      exact ⟨v, r, e', tree_VR c v hc h1, trees_VR cs r e h2⟩
    · cases e
end

/-- a new block that is nobody's own -/
theorem Inv.grow {h : Hp} (I : Inv w0 ρ O S h w) {w' : World} {o : Obj} (hh : w'.heap = w.heap.push o) (hos : w'.os = w.os) (htp : w'.tape = w.tape) (hout : w'.output = w.output) : Inv w0 ρ O S h w' ∧ Ext ρ O S w ρ O S w' := by
  have hold : ∀ y, y < w.heap.size → w'.heap[y]? = w.heap[y]? := fun y hy => by
    rw [hh, Array.getElem?_push, if_neg (by omega)]
  have E : Ext ρ O S w ρ O S w' := ⟨fun _ _ e => e, by rw [hh]; simp, fun y hy _ => hold y hy, fun _ _ e => e, fun _ _ e => e, fun y hy => shape_of_heap (hold y hy)⟩
  refine ⟨⟨I.base.trans ⟨hos, htp, hout, E.size, fun k hk => hold k (Nat.lt_of_lt_of_le hk I.base.size)⟩, I.dom, fun b cb x hb hg => ?_, I.inj, fun x hx => ⟨(I.own x hx).1, Nat.lt_of_lt_of_le (I.own x hx).2 E.size⟩, fun x hx => ⟨(I.lent x hx).1, Nat.lt_of_lt_of_le (I.lent x hx).2 E.size⟩⟩, E⟩
  have h1 := I.blk b cb x hb hg
  cases x with
  | dead => trivial
  | _ =>
    have hO := h1.own trivial
    exact h1.step E.step (fun _ _ e => e) hO (hold cb (I.own cb hO).2)

/-- a new slice over a new row -/
theorem newSlice (R : SR C w0 ds ρ O S s a w) {w' : World} {vs ex : List Value} {e : TypeId} {fr : Nat × Nat} {cs : List AV} {n z cap : Nat} (hh : w'.heap = w.heap.push (.cells (vs ++ ex).toArray e fr)) (hos : w'.os = w.os) (htp : w'.tape = w.tape) (hout : w'.output = w.output)
    (hf : ∀ i, i < vs.length + ex.length → ¬ (fr.1 ≤ i ∧ i < fr.2)) (hv : VRs O S w ρ cs vs) (hn : n ≤ cap) (hc : cap * z ≤ vs.length + ex.length) {r : Result Next} (hr : r = .ok (.value (.slice (some ⟨w.heap.size, 0, none⟩) n cap)) w') :
    Does w0 ρ O S w (.sl s.h.nx 0 n z) (s.h.new (.cells e cs)) r := by
  obtain ⟨I', E⟩ := newCells R.inv hh hos htp hout hf hv
  refine ⟨_, _, _, _, Or.inl hr, I', ⟨w.heap.size, ρnew_self _ _ _, Or.inl ⟨cap, e, vs.length + ex.length, rfl, hn, ?_, by rw [Nat.zero_add]; exact hc⟩⟩, E⟩
  simp [World.shape?, hh]

theorem makeSlice_ok (G : GOK C w0) (R : SR C w0 ds ρ O S s a w) {t : TypeId} {l c : Operand} (ho : o.op = .makeSlice t l c) (h : makeSliceA C t l c s = some (v, h')) : Does w0 ρ O S w v h' ((execOp a.eval o).run C.P w) := by
  unfold makeSliceA makeSliceB at h
  split at h
  · rename_i e he
    have he := elemOf_some he
    split at h
    · rename_i i zc hi hzc
      obtain ⟨i', z, hi', hz, rfl⟩ := zeroCells_some hzc
      rw [hi] at hi'
      injection hi' with hi'
      subst hi'
      split at h
      · rename_i hlen
        have hlen := Nat.eq_of_beq_eq_true hlen
        rw [List.length_map, Array.length_toList] at hlen
        simp only at h
        split at h
        · rename_i n m hn hm
          split at h
          · rename_i h1 h2 h3
            simp only [Option.some.injEq, Prod.mk.injEq] at h
            obtain ⟨rfl, rfl⟩ := h
            have h1 := Nat.le_of_ble_eq_true h1
            have h2 := Nat.le_of_ble_eq_true h2
            have h3 := Nat.le_of_ble_eq_true h3
            have h2 : m * i.bytes ≤ 140737488355328 := h2
            obtain ⟨k1, hl⟩ := ix_eval G R hn
            obtain ⟨k2, hc⟩ := ix_eval G R hm
            have hb : (i.bytes : Int) * (m : Int) ≤ 281474976710656 := by
              have e1 : (i.bytes : Int) * (m : Int) = ((m * i.bytes : Nat) : Int) := by rw [Int.natCast_mul, Int.mul_comm]
              rw [e1]
              omega
            have hrun := run_make (P := C.P) w t e i z he hi hz k1 k2 (n : Int) (m : Int) (by omega) (by omega) hb (by omega)
            have hcells : (madeCells z.cells ((m : Int).toNat * i.size)).toList = (List.replicate m z.cells.toList).flatten := by
              rw [Int.toNat_natCast, ← hlen]
              exact range_zero z.cells m
            refine newSlice R (w' := w.alloc (.cells (madeCells z.cells ((m : Int).toNat * i.size)) e)) (vs := (List.replicate m z.cells.toList).flatten) (ex := []) (fr := (0, 0)) (cap := m) ?_ rfl rfl rfl noFrozen ?_ h1 ?_ ?_
            · show w.heap.push _ = _
              rw [List.append_nil, ← hcells, Array.toArray_toList]
            · rw [repX_eq, flat_map]
              exact VRs_ofV1 _
            · rw [flat_length, Array.length_toList, hlen]
              exact Nat.le_add_right _ _
            · simp only [execOp, ho, hl, hc, Sem.run_bind, hrun, Result.andThen_ok, Int.toNat_natCast]
              rfl
          · cases h
        · cases h
      · cases h
    · cases h
  · cases h

theorem buildSlice_ok (G : GOK C w0) (R : SR C w0 ds ρ O S s a w) {t : TypeId} {len : Nat} {parts : Array (Nat × Operand)} (ho : o.op = .buildSlice t len parts) (h : buildSliceA C t len parts.toList s = some (v, h')) : Does w0 ρ O S w v h' ((execOp a.eval o).run C.P w) := by
  unfold buildSliceA buildSliceB at h
  split at h
  · rename_i e he
    have he := elemOf_some he
    split at h
    · rename_i z zc hz hzc
      obtain ⟨i, zv, hi, hzv, rfl⟩ := zeroCells_some hzc
      split at h
      · rename_i h1 h2 h3
        have h1 := Nat.le_of_ble_eq_true h1
        have h1 : len * z ≤ 16777216 := h1
        have h3 := Nat.eq_of_beq_eq_true h3
        rw [List.length_map, Array.length_toList] at h3
        have main : ∀ cs, fillA z (partsA C parts.toList s) (repX len (zv.cells.toList.map ofV1)) = some cs → ∃ ws, VRs O S w ρ cs ws ∧ ws.length = len * z ∧
            (execOp a.eval o).run C.P w = .ok (.value (.slice (some ⟨w.heap.size, 0, none⟩) len len)) (w.alloc (.cells ws.toArray e)) := by
          intro cs hcs
          rw [repX_eq, flat_map] at hcs
          obtain ⟨ws, hw1, hw2⟩ := fillA_run (O := O) (S := S) (w := w) (ρ := ρ) _ (parts.toList.map fun p => (p.1, a.eval p.2)) (by rw [parts_fst]; simp) (parts_VR G R _) hcs (VRs_ofV1 _)
          have hlen : ws.length = len * z := by
            have e1 := hw2.length
            have e2 : ∀ (ps : List (Nat × AV)) (cs r : List AV), fillA z ps cs = some r → r.length = cs.length := by
              intro ps
              induction ps with
              | nil => intro cs r e; injection e with e; rw [e]
              | cons p ps ih =>
                intro cs r e
                have e' : (match p.2.cells with
                  | some new => match Nat.beq new.length z with
                    | true => match putX (Nat.mul p.1 z) new cs with
                      | some cs => fillA z ps cs
                      | none => none
                    | false => none
                  | none => none) = some r := e
                split at e'
                · split at e'
                  · split at e'
                    · rename_i cs' hcs'
                      obtain ⟨q1, rfl⟩ := putX_some.1 hcs'
                      have q1 : p.1 * z + _ ≤ _ := q1
                      rw [ih _ _ e']
                      show (List.take (p.1 * z) _ ++ _ ++ List.drop (p.1 * z + _) _).length = _
                      simp
                      omega
                    · cases e'
                  · cases e'
                · cases e'
            rw [e1, e2 _ _ _ hcs, List.length_map, flat_length, Array.length_toList, h3]
          have harr : ((Array.range (len * z)).map ((if len * z = 0 then #[] else zv.cells)[· % (if len * z = 0 then (#[] : Array Value) else zv.cells).size]!)) = ((List.replicate len zv.cells.toList).flatten).toArray := by
            by_cases h0 : len * z = 0
            · rw [h0]
              have : (List.replicate len zv.cells.toList).flatten = [] := by
                apply List.eq_nil_of_length_eq_zero
                rw [flat_length, Array.length_toList, h3, h0]
              rw [this]
              simp
            · rw [if_neg h0]
              apply Array.ext'
              rw [← h3]
              exact range_zero zv.cells len
          refine ⟨ws, hw2, hlen, ?_⟩
          have hparts : (parts.map fun x => match x with | (i, x) => (i, a.eval x)).toList = parts.toList.map fun p => (p.1, a.eval p.2) := by simp
          have hle : ¬ len * z > 2 ^ 24 := by omega
          by_cases h0 : len * z = 0
          · have hr0 : ∀ f : Nat → Value, (Array.range 0).map f = #[] := fun f => by apply Array.ext'; simp
            have hfl : (List.replicate len zv.cells.toList).flatten = [] := by
              apply List.eq_nil_of_length_eq_zero
              rw [flat_length, Array.length_toList, h3, h0]
            rw [hfl] at hw1
            simp only [execOp, ho, Instr.buildSlice, Sem.run_bind, run_underlying he, Result.andThen_ok, run_sizeOf hz, h0, if_true, Sem.run_pure, hparts, hr0]
            rw [if_neg (by decide)]
            simp only [Sem.run_bind, Sem.run_pure, Result.andThen_ok]
            rw [hw1]
            simp [newRow]
          · simp only [h0, if_false] at harr
            simp only [execOp, ho, Instr.buildSlice, Sem.run_bind, run_underlying he, Result.andThen_ok, run_sizeOf hz, hle, h0, if_false, Sem.run_pure, zeroValue, typeInfo, run_program, hi, hzv, harr, hparts, hw1]
            simp [newRow]
        split at h
        · simp only at h
          split at h
          · rename_i cs hcs
            simp only [Option.some.injEq, Prod.mk.injEq] at h
            obtain ⟨rfl, rfl⟩ := h
            obtain ⟨ws, hw2, hlen, hrun⟩ := main cs hcs
            refine newSlice R (w' := w.alloc (.cells ws.toArray e)) (vs := ws) (ex := []) (fr := (0, 0)) (cap := len) ?_ rfl rfl rfl noFrozen hw2 (Nat.le_refl _) (by rw [hlen]; exact Nat.le_add_right _ _) hrun
            show w.heap.push _ = _
            rw [List.append_nil]
          · cases h
        · simp only at h
          split at h
          · rename_i cs hcs
            split at h
            · rename_i htr
              simp only [Option.some.injEq, Prod.mk.injEq] at h
              obtain ⟨rfl, rfl⟩ := h
              obtain ⟨ws, hw2, hlen, hrun⟩ := main cs hcs
              obtain ⟨I', E⟩ := R.inv.grow (w' := w.alloc (.cells ws.toArray e)) (o := .cells ws.toArray e (0, 0)) rfl rfl rfl rfl
              have hnew : (w.alloc (.cells ws.toArray e)).heap[w.heap.size]? = some (.cells ws.toArray e (0, 0)) := by show (w.heap.push _)[w.heap.size]? = _; simp
              refine ⟨_, _, _, _, Or.inl hrun, I', ⟨⟨w.heap.size, 0, none⟩, len, rfl, Nat.le_refl _, rfl, .inr ⟨by show w.heap.size < (w.heap.push _).size; simp, fun e => Nat.lt_irrefl _ (R.inv.own _ e).2, fun _ e => Nat.lt_irrefl _ (R.inv.lent _ e).2⟩, ?_⟩, E⟩
              refine VRM_of_vals (VRs.step E.step (fun _ _ e => e) _ _ (trees_VR _ _ htr hw2)) fun p v hp => ?_
              have hlt : p < ws.length := (List.getElem?_eq_some_iff.1 hp).1
              rw [Nat.zero_add]
              simp only [World.cell?, hnew]
              simp [hp]
            · cases h
          · cases h
      · cases h
    · cases h
  · cases h

theorem places_get {P : Program} : ∀ (fs : List Field) (ps : List (Nat × Nat)), fs.mapM (fun f => (P.info? f.type).map fun i => (f.offset, i.size)) = some ps → ∀ (i : Nat) (f : Field) (z : Nat), fs[i]? = some f → szT P f.type = some z → ps[i]? = some (f.offset, z) := by
  intro fs
  induction fs with
  | nil => intro ps _ i f z hf; simp at hf
  | cons g fs ih =>
    intro ps h i f z hf hz
    simp only [List.mapM_cons, Option.bind_eq_bind, Option.pure_def] at h
    cases hg : P.info? g.type with
    | none => simp [hg] at h
    | some gi =>
      cases hr : fs.mapM (fun f => (P.info? f.type).map fun i => (f.offset, i.size)) with
      | none => simp [hg, hr] at h
      | some rest =>
        simp [hg, hr] at h
        subst h
        cases i with
        | zero =>
          simp at hf
          subst hf
          unfold szT at hz
          rw [hg] at hz
          injection hz with hz
          simp [hz]
        | succ i => simpa using ih rest hr i f z (by simpa using hf) hz

theorem build_ok (G : GOK C w0) (R : SR C w0 ds ρ O S s a w) {t : TypeId} {parts : Array (Nat × Operand)} (ho : o.op = .build t parts) (h : buildA C t parts.toList s = some (v, h')) : Does w0 ρ O S w v h' ((execOp a.eval o).run C.P w) := by
  have hparts : (parts.map fun x => match x with | (i, x) => (i, a.eval x)).toList = parts.toList.map fun p => (p.1, a.eval p.2) := by simp
  unfold buildA buildB at h
  split at h
  · rename_i zc hzc
    obtain ⟨i, zv, hi, hzv, rfl⟩ := zeroCells_some hzc
    have hzero : (zeroValue t).run C.P w = .ok zv w := by simp [zeroValue, typeInfo, hi, hzv]
    split at h
    · rename_i fs hfs
      split at h
      · rename_i ps hps
        simp only at h
        split at h
        · rename_i cs hcs
          simp only [Option.some.injEq, Prod.mk.injEq] at h
          obtain ⟨rfl, rfl⟩ := h
          have hpl := places_get fs.toList ps hps
          obtain ⟨ws, hw1, hw2⟩ := fillF_run (O := O) (S := S) (w := w) (ρ := ρ) (places := ps.toArray) (fun i f z hf hz => by
            have := hpl i f z (by simpa using hf) hz
            simpa using this) _ (parts.toList.map fun p => (p.1, a.eval p.2)) (by rw [parts_fst]; simp) (parts_VR G R _) hcs (VRs_ofV1 _)
          refine Does.same (u := .agg ws.toArray) ?_ R.inv ⟨ws, rfl, hw2⟩
          have hpr := run_places (P := C.P) w fs.toList ps hps
          have hw1' : Instr.fill (fun x => ps[x]?) zv.cells (List.map (fun x => (x.fst, a.eval x.snd)) parts.toList) = some ws.toArray := by simpa using hw1
          simp [execOp, ho, Instr.build, hzero, run_underlying hfs, Array.mapM_eq_mapM_toList, hpr, hw1']
        · cases h
      · cases h
    · rename_i n e hfs
      split at h
      · rename_i z hz
        simp only at h
        split at h
        · rename_i cs hcs
          simp only [Option.some.injEq, Prod.mk.injEq] at h
          obtain ⟨rfl, rfl⟩ := h
          obtain ⟨ws, hw1, hw2⟩ := fillA_run (O := O) (S := S) (w := w) (ρ := ρ) _ (parts.toList.map fun p => (p.1, a.eval p.2)) (by rw [parts_fst]; simp) (parts_VR G R _) hcs (VRs_ofV1 _)
          refine Does.same (u := .agg ws.toArray) ?_ R.inv ⟨ws, rfl, hw2⟩
          rw [Array.toArray_toList] at hw1
          simp [execOp, ho, Instr.build, hzero, run_underlying hfs, run_sizeOf hz, hw1]
        · cases h
      · cases h
    · cases h
  · cases h

/-! ### Conversions -/
theorem bytesOf_cons (c : AV) (cs : List AV) : bytesOf (c :: cs) = match c with
    | .int .u8 n => match bytesOf cs with | some r => some (UInt8.ofNat n.toNat :: r) | none => none
    | _ => none := by
  cases c with
  | int k n =>
    cases k <;> first
      | rfl
      | (show Option.rec (motive := fun _ => Option (List UInt8)) none (fun r => some (UInt8.ofNat n.toNat :: r)) (bytesOf cs) = _
         cases bytesOf cs <;> rfl)
  | _ => rfl
theorem bytesOf_some : ∀ {cs : List AV} {l : List UInt8}, bytesOf cs = some l → ∃ ns : List Int, cs = ns.map (AV.int .u8) ∧ l = ns.map (fun n => UInt8.ofNat n.toNat) := by
  intro cs
  induction cs with
  | nil => intro l e; injection e with e; subst e; exact ⟨[], rfl, rfl⟩
  | cons c cs ih =>
    intro l e
    rw [bytesOf_cons] at e
    split at e
    · rename_i n
      split at e
      · rename_i r hb
        injection e with e
        obtain ⟨ns, rfl, rfl⟩ := ih hb
        exact ⟨n :: ns, rfl, e.symm⟩
      · cases e
    · cases e

theorem VRs_ints {k : IntKind} : ∀ {ns : List Int} {vs : List Value}, VRs O S w ρ (ns.map (AV.int k)) vs → vs = ns.map (Value.int k) := by
  intro ns
  induction ns with
  | nil => intro vs h; simpa [VRs] using h
  | cons n ns ih =>
    intro vs h
    obtain ⟨v, r, rfl, h1, h2⟩ := h
    simp only [VR] at h1
    rw [h1, ih h2]
    rfl

theorem slCells_VRM {h : Hp} (I : Inv w0 ρ O S h w) {u : Value} {b k n z : Nat} (hx : VR O S w ρ (.sl b k n z) u) {cs r : List AV} {e : TypeId} (hg : h.get b = some (.cells e cs)) (hd : dropX k cs = some r) : ∃ cb, ρ b = some cb ∧ VRM O S w ρ r cb k := by
  obtain ⟨hle, rfl⟩ := dropX_some.1 hd
  obtain ⟨cb, hcb, _⟩ := hx
  obtain ⟨b', k', h1, h2⟩ := look_VRM I (x := .ptr b k) (cs := cs.drop k) (u := .pointer (some ⟨cb, k, none⟩)) (by simp [look, hg, dropX_some]; exact hle) ⟨cb, hcb, rfl⟩
  simp at h1
  obtain ⟨rfl, rfl⟩ := h1
  exact ⟨cb, hcb, h2⟩

/-- What a slice's cells come to in the model. -/
theorem slCells_run {P : Program} {h : Hp} (I : Inv w0 ρ O S h w) {x : AV} {u : Value} (hx : VR O S w ρ x u) {new : List AV} {m size : Nat} (hc : slCells h x = some new) (hm : slLen x = some m) (hl : new.length = m * size) :
    ∃ vs, (Builtin.firstCells size m u).run P w = .ok vs.toArray w ∧ VRs O S w ρ new vs ∧ (Builtin.lenOf u).run P w = .ok m w ∧ (∀ p c, u = .slice (some p) m c → (loadCells p (m * size)).run P w = .ok vs.toArray w) := by
  have mem : ∀ {b k : Nat} {cs : List AV}, VRM O S w ρ cs b k → cs.length = m * size → ∃ vs, (loadCells ⟨b, k, none⟩ (m * size)).run P w = .ok vs.toArray w ∧ VRs O S w ρ cs vs := by
    intro b k cs hv hlen
    obtain ⟨vs, h1, h2⟩ := VRM_vals hv
    have := run_loadCells_list (P := P) (w := w) ⟨b, k, none⟩ vs (fun j u hj => by rw [add_none]; exact h2 j u hj)
    rw [h1.length, hlen] at this
    exact ⟨vs, this, h1⟩
  unfold slCells at hc
  split at hc
  · rename_i b k n z
    injection hm with hm
    subst hm
    split at hc
    · rename_i e cs hg
      split at hc
      · rename_i r hr
        obtain ⟨hle, rfl⟩ := takeX_some.1 hc
        obtain ⟨cb, hcb, hmem⟩ := slCells_VRM I hx hg hr
        obtain ⟨vs, h1, h2⟩ := mem (hmem.take (n * z)) hl
        obtain ⟨cb', hcb', hu⟩ := hx
        rw [hcb] at hcb'
        injection hcb' with hcb'
        subst hcb'
        rcases hu with ⟨cap, et, sz, rfl, hcap, hsh, hfit⟩ | ⟨rfl, p, hsp, rfl⟩
        · exact ⟨vs, h1, h2, rfl, fun p c e => by injection e with e; injection e with e; subst e; exact h1⟩
        · have hnil : vs = [] := List.eq_nil_of_length_eq_zero (by rw [h2.length]; simp)
          subst hnil
          refine ⟨[], ?_, h2, rfl, fun p c e => ?_⟩
          · show (loadCells p (0 * size)).run P w = _
            rw [Nat.zero_mul]; rfl
          · rw [Nat.zero_mul]; rfl
      · cases hc
    · cases hc
  · rename_i q z n cs
    injection hm with hm
    subst hm
    obtain ⟨hle, rfl⟩ := takeX_some.1 hc
    obtain ⟨p, cap, rfl, hcap, hsp, hst, hmem⟩ := hx
    rw [addr_eta hsp]
    obtain ⟨vs, h1, h2⟩ := mem ((hmem.wide (ρ := ρ)).take (n * z)) hl
    exact ⟨vs, h1, h2, rfl, fun p c e => by injection e with e; injection e with e; subst e; exact h1⟩
  · injection hc with hc
    subst hc
    injection hm with hm
    subst hm
    simp only [VR] at hx
    subst hx
    exact ⟨[], rfl, rfl, rfl, fun p c e => by cases e⟩
  · rename_i l
    injection hc with hc
    subst hc
    injection hm with hm
    subst hm
    simp only [VR] at hx
    subst hx
    refine ⟨l.map fun b => .int .u8 b.toNat, ?_, ?_, ?_, fun p c e => by cases e⟩
    · have : (⟨l.toArray⟩ : ByteArray).extract 0 l.length = ⟨l.toArray⟩ := by rw [ba_extract]; simp
      simp [Builtin.firstCells, this]
    · rw [mapL_eq]
      exact VRs_map _ _ _ fun b _ => by simp [byteAV, VR]
    · have hsz : (⟨l.toArray⟩ : ByteArray).size = l.length := by show l.toArray.size = _; simp
      simp [Builtin.lenOf, hsz]
  · cases hc

theorem convert_ok (G : GOK C w0) (R : SR C w0 ds ρ O S s a w) {src dst : TypeId} {x : Operand} (ho : o.op = .convert src dst x) (h : convertA C o src dst x s = some (v, h')) : Does w0 ρ O S w v h' ((execOp a.eval o).run C.P w) := by
  have hx := ev_VR G R x
  have hrun : (execOp a.eval o).run C.P w = ((convert src dst (a.eval x)).run C.P w).andThen fun r w' => .ok (.value r) w' := by
    simp [execOp, ho]
  have pure_case : ∀ {v h'}, keep s.h (pureOp C o [x] s) = some (v, h') → Does w0 ρ O S w v h' ((execOp a.eval o).run C.P w) := by
    intro v h' e
    obtain ⟨e1, rfl⟩ := keep_some e
    exact Does.of_run (pureOp_run G R e1 (by rw [ho]; intro _ _ h; cases h) (by rw [ho]; simp [Op.operands])) R.inv
  unfold convertA convertB at h
  split at h
  · rename_i e hd hs
    split at h
    · rename_i he
      simp only at h
      split at h
      · rename_i l hl
        simp only [Option.some.injEq, Prod.mk.injEq] at h
        obtain ⟨rfl, rfl⟩ := h
        rw [hl] at hx
        simp only [VR] at hx
        have hsz : (⟨l.toArray⟩ : ByteArray).size = l.length := by show l.toArray.size = _; simp
        have hc := run_bytes_of_string (P := C.P) w src dst e ⟨l.toArray⟩ hs hd he
        have hge := grownCap_ge w l.length 0 e
        rw [hsz] at hc
        obtain ⟨bs, hbs⟩ : ∃ bs : List Value, bs = l.map (fun (b : UInt8) => Value.int .u8 (b.toNat : Int)) := ⟨_, rfl⟩
        obtain ⟨zs, hzs⟩ : ∃ zs : List Value, zs = List.replicate (grownCap w l.length 0 e - l.length) (Value.int .u8 0) := ⟨_, rfl⟩
        have lb : bs.length = l.length := by rw [hbs]; simp
        have lz : zs.length = grownCap w l.length 0 e - l.length := by rw [hzs]; simp
        have hrow : bytesRow ⟨l.toArray⟩ (grownCap w l.length 0 e) = (bs ++ zs).toArray := by
          unfold bytesRow
          rw [hsz, hbs, hzs]
          simp
        have hn : (bytesRow ⟨l.toArray⟩ (grownCap w l.length 0 e)).size = grownCap w l.length 0 e := by
          rw [hrow]; simp; omega
        rw [hn, hrow] at hc
        refine newSlice R (vs := bs) (ex := zs) (fr := (grownCap w l.length 0 e, grownCap w l.length 0 e + 1)) (w' := w.drew.alloc (.cells (bs ++ zs).toArray e (grownCap w l.length 0 e, grownCap w l.length 0 e + 1))) (cap := grownCap w l.length 0 e) rfl rfl rfl rfl ?_ ?_ hge ?_ ?_
        · intro i hi
          rw [lb, lz] at hi
          simp
          omega
        · rw [mapL_eq, hbs]
          exact VRs_map _ _ _ fun b _ => by simp [byteAV, VR]
        · rw [lb, lz]; omega
        · rw [hrun, hx, hc]
          rfl
      · cases h
    · cases h
  · rename_i e hd hs
    split at h
    · rename_i he
      simp only at h
      split at h
      · rename_i cs hcs
        split at h
        · rename_i m hm
          split at h
          · rename_i hlen hsl
            have hlen := Nat.eq_of_beq_eq_true hlen
            split at h
            · rename_i l hl
              simp only [Option.some.injEq, Prod.mk.injEq] at h
              obtain ⟨rfl, rfl⟩ := h
              obtain ⟨ns, rfl, rfl⟩ := bytesOf_some hl
              have fold : ∀ (ns : List Int) (r : ByteArray), ns.foldl (fun r n => r.push (UInt8.ofNat n.toNat)) r = ⟨r.data ++ (ns.map fun n => UInt8.ofNat n.toNat).toArray⟩ := by
                intro ns
                induction ns with
                | nil => intro r; simp
                | cons n ns ih => intro r; rw [List.foldl_cons, ih]; simp [ByteArray.push]
              obtain ⟨vs, h1, h2, h3, h4⟩ := slCells_run (P := C.P) R.inv hx hcs hm (by rw [hlen, Nat.mul_one] : _ = m * 1)
              have key : (Conv.bytesToString (a.eval x)).run C.P w = .ok (.string ⟨(ns.map fun n => UInt8.ofNat n.toNat).toArray⟩) w := by
                have case_some : ∀ p c, a.eval x = .slice (some p) m c → (Conv.bytesToString (a.eval x)).run C.P w = .ok (.string ⟨(ns.map fun n => UInt8.ofNat n.toNat).toArray⟩) w := by
                  intro p c e1
                  have h5 := h4 p c e1
                  rw [Nat.mul_one, VRs_ints h2] at h5
                  rw [e1, run_bytesToString w p m c ns h5, fold]
                  simp
                unfold isSl at hsl
                split at hsl
                · rename_i ht
                  rw [ht] at hx hm
                  injection hm with hm
                  subst hm
                  obtain ⟨cb, _, hu⟩ := hx
                  rcases hu with ⟨cap, et, sz, hu, _⟩ | ⟨rfl, p, _, hu⟩
                  · exact case_some _ _ hu
                  · exact case_some _ _ hu
                · rename_i ht
                  rw [ht] at hx hm
                  injection hm with hm
                  subst hm
                  obtain ⟨p, cap, hu, _⟩ := hx
                  exact case_some _ _ hu
                · rename_i ht
                  rw [ht] at hx hm
                  injection hm with hm
                  subst hm
                  have : ns = [] := by simpa using hlen
                  subst this
                  simp only [VR] at hx
                  rw [hx]
                  rfl
                · cases hsl
              refine Does.same ?_ R.inv (u := .string ⟨(ns.map fun n => UInt8.ofNat n.toNat).toArray⟩) (by simp [VR])
              rw [hrun]
              have : (convert src dst (a.eval x)).run C.P w = (Conv.bytesToString (a.eval x)).run C.P w := by
                unfold isSl at hsl
                split at hsl
                · rename_i ht
                  rw [ht] at hx
                  obtain ⟨cb, _, hu⟩ := hx
                  rcases hu with ⟨cap, et, sz, hu, _⟩ | ⟨_, p, _, hu⟩ <;> simp [convert, run_underlying hd, run_underlying hs, run_underlying he, hu]
                · rename_i ht
                  rw [ht] at hx
                  obtain ⟨p, cap, hu, _⟩ := hx
                  simp [convert, run_underlying hd, run_underlying hs, run_underlying he, hu]
                · rename_i ht
                  rw [ht] at hx
                  simp only [VR] at hx
                  simp [convert, run_underlying hd, run_underlying hs, run_underlying he, hx]
                · cases hsl
              rw [this, key]
              rfl
            · cases h
          · cases h
        · cases h
      · cases h
    · cases h
  · rename_i hd hs
    simp only at h
    split at h
    · rename_i l hl
      simp only [Option.some.injEq, Prod.mk.injEq] at h
      obtain ⟨rfl, rfl⟩ := h
      rw [hl] at hx
      refine Does.same (u := a.eval x) ?_ R.inv hx
      simp only [VR] at hx
      rw [hrun, hx]
      simp [convert, run_underlying hd, run_underlying hs]
    · cases h
  · rename_i k k' hd hs
    simp only at h
    split at h
    · rename_i k'' n hn
      simp only [Option.some.injEq, Prod.mk.injEq] at h
      obtain ⟨rfl, rfl⟩ := h
      rw [hn] at hx
      simp only [VR] at hx
      refine Does.same (u := .int k (k.wrap n)) ?_ R.inv (by simp [VR, wrapF_eq])
      rw [hrun, hx]
      simp [convert, run_underlying hd, run_underlying hs, Conv.intToInt]
    · cases h
  · exact pure_case h
  · rename_i t hd hs
    split at h
    · rename_i z hz
      split at h
      · cases h
      · rename_i hz0
        have hz0 : z ≠ 0 := hz0
        obtain ⟨z', rfl⟩ := Nat.exists_eq_succ_of_ne_zero hz0
        simp only at h
        split at h
        · rename_i b k hl
          rw [hl] at hx
          split at h
          · rename_i e cs hg
            split at h
            · rename_i hk
              simp only [Option.some.injEq, Prod.mk.injEq] at h
              obtain ⟨rfl, rfl⟩ := h
              exact Does.same (u := a.eval x) (by rw [hrun, toUnsafe_run R.inv hs hd hz hx hg (blt_iff.1 hk)]; rfl) R.inv hx
            · cases h
          · cases h
        · cases h
    · cases h
  · rename_i u hd hs
    split at h
    · rename_i z hz
      simp only at h
      split at h
      · rename_i b k hl
        rw [hl] at hx
        split at h
        · split at h
          · rename_i e cs hg
            split at h
            · rename_i hse hle
              simp only [Option.some.injEq, Prod.mk.injEq] at h
              obtain ⟨rfl, rfl⟩ := h
              exact Does.same (u := a.eval x) (by rw [hrun, fromUnsafe_run R.inv hs hd hz hx hg hse (Nat.le_of_ble_eq_true hle)]; rfl) R.inv hx
            · cases h
          · cases h
        · cases h
      · cases h
    · cases h
  · cases h

/-! ### Builtins -/
theorem builtin_run {b : Builtin} {args : Array Operand} {ts : Array TypeId} (ho : o.op = .call { callee := .builtin b, args := args, argTypes := ts }) :
    ∃ cs, (execOp a.eval o).run C.P w = (builtin b ts o.type cs (args.map a.eval)).run C.P w := by
  simp only [execOp, ho, resolve, invoke, Sem.run_bind, Sem.run_pure, Result.andThen_ok]
  exact ⟨_, rfl⟩

theorem pure_call (G : GOK C w0) (R : SR C w0 ds ρ O S s a w) {b : Builtin} {args : Array Operand} {ts : Array TypeId} (ho : o.op = .call { callee := .builtin b, args := args, argTypes := ts }) {v : AV} {h' : Hp} (e : keep s.h (pureOp C o args.toList s) = some (v, h')) :
    Does w0 ρ O S w v h' ((execOp a.eval o).run C.P w) := by
  obtain ⟨e1, rfl⟩ := keep_some e
  exact Does.of_run (pureOp_run G R e1 (by rw [ho]; intro _ _ h; cases h) (by rw [ho]; simp [Op.operands, Call.operands])) R.inv

theorem len_ok (G : GOK C w0) (R : SR C w0 ds ρ O S s a w) {args : Array Operand} {ts : Array TypeId} (ho : o.op = .call { callee := .builtin .len, args := args, argTypes := ts }) (h : lenA C o args.toList ts.toList s = some (v, h')) :
    Does w0 ρ O S w v h' ((execOp a.eval o).run C.P w) := by
  unfold lenA lenB at h
  split at h
  · rename_i x t ha ht
    have ha : args = #[x] := Array.ext' ha
    have ht : ts = #[t] := Array.ext' ht
    have hrun : (execOp a.eval o).run C.P w = ((Builtin.len_ #[t] o.type #[a.eval x]).run C.P w).andThen fun r w' => .ok (.value r) w' := by
      obtain ⟨cs, hcs⟩ := builtin_run (C := C) (a := a) (w := w) ho
      rw [hcs]
      subst ha ht
      simp [builtin]
    have hx := ev_VR G R x
    split at h
    · rename_i hu
      simp only at h
      split at h
      · rename_i l hl
        simp only [Option.some.injEq, Prod.mk.injEq] at h
        obtain ⟨rfl, rfl⟩ := h
        rw [hl] at hx
        simp only [VR] at hx
        have hsz : (⟨l.toArray⟩ : ByteArray).size = l.length := by show l.toArray.size = _; simp
        refine Does.same (u := .int .i64 l.length) ?_ R.inv (by simp [VR])
        rw [hrun, hx]
        simp [Builtin.len_, run_underlying hu, hsz, goInt]
      · cases h
    · rename_i e hu
      simp only at h
      split at h
      · rename_i b k n z hl
        simp only [Option.some.injEq, Prod.mk.injEq] at h
        obtain ⟨rfl, rfl⟩ := h
        rw [hl] at hx
        obtain ⟨cb, _, hq⟩ := hx
        refine Does.same (u := .int .i64 n) ?_ R.inv (by simp [VR])
        rw [hrun]
        rcases hq with ⟨cap, et, sz, hq, _⟩ | ⟨rfl, p, _, hq⟩ <;> rw [hq] <;> simp [Builtin.len_, run_underlying hu, goInt]
      · rename_i q z n cs hl
        simp only [Option.some.injEq, Prod.mk.injEq] at h
        obtain ⟨rfl, rfl⟩ := h
        rw [hl] at hx
        obtain ⟨p, cap, hq, _⟩ := hx
        refine Does.same (u := .int .i64 n) ?_ R.inv (by simp [VR])
        rw [hrun, hq]
        simp [Builtin.len_, run_underlying hu, goInt]
      · exact pure_call G R ho h
    · rename_i kt et hu
      simp only at h
      split at h
      · rename_i es hes
        simp only [Option.some.injEq, Prod.mk.injEq] at h
        obtain ⟨rfl, rfl⟩ := h
        refine Does.same (u := .int .i64 es.length) ?_ R.inv (by simp [VR])
        rw [hrun]
        rcases mapOf_ok R.inv hes hx with ⟨hq, rfl⟩ | ⟨r, ms, clock, hq, hh, h1, _⟩
        · rw [hq]
          simp [Builtin.len_, run_underlying hu, goInt]
        · have hl : ms.size = es.length := by
            have := congrArg List.length h1
            simpa using this
          rw [hq]
          simp [Builtin.len_, run_underlying hu, goInt, run_getObj hh (by simp), hl]
      · cases h
    · exact pure_call G R ho h
  · cases h

theorem newSliceI {h : Hp} (I : Inv w0 ρ O S h w) {w' : World} {vs ex : List Value} {e : TypeId} {fr : Nat × Nat} {cs : List AV} {n z cap : Nat} (hh : w'.heap = w.heap.push (.cells (vs ++ ex).toArray e fr)) (hos : w'.os = w.os) (htp : w'.tape = w.tape) (hout : w'.output = w.output)
    (hf : ∀ i, i < vs.length + ex.length → ¬ (fr.1 ≤ i ∧ i < fr.2)) (hv : VRs O S w ρ cs vs) (hn : n ≤ cap) (hc : cap * z ≤ vs.length + ex.length) {r : Result Next} (hr : r = .ok (.value (.slice (some ⟨w.heap.size, 0, none⟩) n cap)) w') :
    Does w0 ρ O S w (.sl h.nx 0 n z) (h.new (.cells e cs)) r := by
  obtain ⟨I', E⟩ := newCells I hh hos htp hout hf hv
  refine ⟨_, _, _, _, Or.inl hr, I', ⟨w.heap.size, ρnew_self _ _ _, Or.inl ⟨cap, e, vs.length + ex.length, rfl, hn, ?_, by rw [Nat.zero_add]; exact hc⟩⟩, E⟩
  simp [World.shape?, hh]

theorem Does.after {w₁ : World} {ρ₁ : Nat → Option Nat} {O₁ : Nat → Prop} {h : Hp} {r : Result Next} (E : Ext ρ O S w ρ₁ O₁ S w₁) (d : Does w0 ρ₁ O₁ S w₁ v h r) : Does w0 ρ O S w v h r := by
  obtain ⟨u, w', ρ', O', hr, I, hv, E'⟩ := d
  exact ⟨u, w', ρ', O', hr, I, hv, E.trans E'⟩

/-- An append that grows, or writes on in a row of the call's own. -/
theorem append_ok (G : GOK C w0) (R : SR C w0 ds ρ O S s a w) {args : Array Operand} {ts : Array TypeId} {x y : Operand} {t u : TypeId} {du : TypeDesc} (ho : o.op = .call { callee := .builtin .append, args := args, argTypes := ts })
    (ha : args.toList = [x, y]) (ht : ts.toList = [t, u]) (hu : C.P.underlying u = some du) (hni : ∀ k, du ≠ .int k) (h : appendA C t s.h (ev C x s) (ev C y s) = some (v, h')) : Does w0 ρ O S w v h' ((execOp a.eval o).run C.P w) := by
  have ha : args = #[x, y] := Array.ext' ha
  have ht : ts = #[t, u] := Array.ext' ht
  have hrun : (execOp a.eval o).run C.P w = ((Builtin.append_ #[t, u] o.type #[a.eval x, a.eval y]).run C.P w).andThen fun r w' => .ok (.value r) w' := by
    obtain ⟨cs, hcs⟩ := builtin_run (C := C) (a := a) (w := w) ho
    rw [hcs]
    subst ha ht
    simp [builtin]
  have hx := ev_VR G R x
  have hy := ev_VR G R y
  unfold appendA appendB at h
  split at h
  · cases h
  rename_i e he
  have he := elemOf_some he
  split at h
  · cases h
  rename_i i hi
  split at h
  · cases h
  rename_i zv hzv
  split at h
  case h_2 => cases h
  rename_i hzs hb1
  have hzs := Nat.eq_of_beq_eq_true hzs
  have hb1 := Nat.le_of_ble_eq_true hb1
  have hsize : ∀ w, (Go.sizeOf e).run C.P w = .ok i.size w := fun w => by simp [Go.sizeOf, typeInfo, hi]
  simp only at h
  split at h
  case h_2 => cases h
  rename_i new hnew
  split at h
  case h_2 => cases h
  rename_i m hm
  split at h
  case h_2 => cases h
  rename_i hlen hone hisl
  have hlen := Nat.eq_of_beq_eq_true hlen
  have hlen : new.length = m * i.size := hlen
  obtain ⟨vs, g1, g2, g3, g4⟩ := slCells_run (P := C.P) R.inv hy hnew hm hlen
  have hvone : ∀ v ∈ vs, v.oneCell' = true := by
    intro v hv
    obtain ⟨j, hj⟩ := List.getElem?_of_mem hv
    have hjl : j < new.length := by
      rw [← g2.length]
      rcases Nat.lt_or_ge j vs.length with q | q
      · exact q
      · simp [List.getElem?_eq_none q] at hj
    obtain ⟨v', e1, e2⟩ := g2.get (List.getElem?_eq_getElem hjl)
    rw [hj] at e1
    injection e1 with e1
    subst e1
    exact e2.one (allOne_iff.1 hone _ (List.getElem_mem hjl))
  have hvl : vs.length = m * i.size := by rw [g2.length, hlen]
  obtain ⟨Id, Ed⟩ := R.inv.drew
  rcases m with _ | m
  · -- nothing is appended
    simp only [Option.some.injEq, Prod.mk.injEq] at h
    obtain ⟨rfl, rfl⟩ := h
    have hvs : vs = [] := List.eq_nil_of_length_eq_zero (by rw [hvl]; simp)
    subst hvs
    refine Does.same (u := a.eval x) ?_ R.inv hx
    have key : ∀ p n c, a.eval x = .slice p n c → n ≤ c → (execOp a.eval o).run C.P w = .ok (.value (a.eval x)) w := by
      intro p n c e1 e2
      rw [hrun, e1]
      cases p <;> simp [Builtin.append_, run_underlying he, run_underlying hu, hsize, g1, g3, e2, storeCells]
    unfold isSl at hisl
    split at hisl
    · rename_i hl
      rw [hl] at hx
      obtain ⟨cb, _, hq⟩ := hx
      rcases hq with ⟨cap, et, sz, hq, hc, _⟩ | ⟨rfl, p, _, hq⟩
      · exact key _ _ _ hq hc
      · exact key _ _ _ hq (Nat.le_refl _)
    · rename_i hl
      rw [hl] at hx
      obtain ⟨p, cap, hq, hc, _⟩ := hx
      exact key _ _ _ hq hc
    · rename_i hl
      rw [hl] at hx
      simp only [VR] at hx
      exact key _ _ _ hx (Nat.le_refl _)
    · cases hisl
  simp only at h
  -- a new row
  have grow : ∀ (p : Option Addr) (n c : Nat) (os : List Value) (h : Hp) (old : List AV), Inv w0 ρ O S h w.drew → a.eval x = .slice p n c → c < n + (m + 1) → (n + (m + 1)) * i.bytes ≤ 140737488355328 → (Builtin.firstCells i.size n (a.eval x)).run C.P w.drew = .ok os.toArray w.drew → os.length = n * i.size → VRs O S w.drew ρ old os →
      Does w0 ρ O S w.drew (.sl h.nx 0 (n + (m + 1)) i.size) (h.new (.cells e (old ++ new))) ((execOp a.eval o).run C.P w) := by
    intro p n c os h old Ih e1 e2 e3 e4 e5 e6
    obtain ⟨vd, q1, q2, q3, q4⟩ := slCells_run (P := C.P) Id (hy.mono Ed) hnew hm hlen
    have hvd : vd.length = (m + 1) * i.size := by rw [q2.length, hlen]
    have hneed : n + (m + 1) ≤ 140737488355328 := Nat.le_trans (Nat.le_mul_of_pos_right _ hb1) e3
    have hfit := growslice_fits (need := n + (m + 1)) (old := c) (bytes := i.bytes) e2 e3
    have hge := grownCap_ge w (n + (m + 1)) c e
    have hzl : (Builtin.zeroCells zv.cells (grownCap w (n + (m + 1)) c e - (n + (m + 1)))).toList.length = (grownCap w (n + (m + 1)) c e - (n + (m + 1))) * i.size := by
      simp [Builtin.zeroCells, hzs]
    refine newSliceI (w' := w.drew.alloc (.cells ((os ++ vd) ++ (Builtin.zeroCells zv.cells (grownCap w (n + (m + 1)) c e - (n + (m + 1)))).toList).toArray e)) (cap := grownCap w (n + (m + 1)) c e) Ih rfl rfl rfl rfl noFrozen (e6.append q2) hge ?_ ?_
    · rw [hzl, List.length_append, e5, hvd, ← Nat.add_mul, ← Nat.add_mul]
      exact Nat.mul_le_mul_right _ (by omega)
    · have c1 : ¬ (n + (m + 1) ≤ c) := by omega
      have c2 : ¬ (((n + (m + 1) : Nat) : Int) > IntKind.i64.max ∧ (false = true ∨ i.bytes = 0)) := by
        rintro ⟨_, h2⟩
        rcases h2 with h2 | h2
        · cases h2
        · omega
      have c3 : ¬ (Builtin.nextslicecap (n + (m + 1)) c * i.bytes > 2 ^ 48) := by omega
      have hch : (choose (.appendCap (n + (m + 1)) c e)).run C.P w = .ok (grownCap w (n + (m + 1)) c e) w.drew := by simp [Question.forced, grownCap]
      have hcells : (os ++ vd ++ (Builtin.zeroCells zv.cells (grownCap w (n + (m + 1)) c e - (n + (m + 1)))).toList).toArray = os.toArray ++ (vd.toArray ++ Builtin.zeroCells zv.cells (grownCap w (n + (m + 1)) c e - (n + (m + 1)))) := by
        apply Array.ext'
        simp
      rw [hrun, hcells]
      rw [e1] at e4 ⊢
      have hb0 : ¬ i.bytes = 0 := by omega
      have c4 : ¬ (281474976710656 < Builtin.nextslicecap (n + (m + 1)) c * i.bytes) := by omega
      have q1' : (Builtin.firstCells i.size (m + 1) (a.eval y)).run C.P w.drew = .ok vd.toArray w.drew := q1
      simp [-run_choose, Builtin.append_, run_underlying he, run_underlying hu, hsize, g3, c1, typeInfo, hi, hb0, c4, hch, e4, q1', zeroValue, hzv, newRow]
  split at h
  · rename_i hv0
    split at h
    · rename_i hle
      have hle := Nat.le_of_ble_eq_true hle
      simp only [Option.some.injEq, Prod.mk.injEq] at h
      obtain ⟨rfl, rfl⟩ := h
      have hnil : a.eval x = .slice none 0 0 := by
        have e1 : ∀ v, ev C x s = .val v → isSl (.val v) = true → VR O S w ρ (.val v) (a.eval x) → a.eval x = .slice none 0 0 := by
          intro v e1 e2 e3
          simp only [VR] at e3
          unfold isSl at e2
          split at e2
          · rename_i e4; cases e4
          · rename_i e4; cases e4
          · rename_i e4; injection e4 with e4; rw [e3, e4]
          · cases e2
        exact e1 _ hv0 (by rw [← hv0]; exact hisl) (by rw [← hv0]; exact hx)
      have := grow none 0 0 [] s.h [] Id hnil (by omega) (by rw [Nat.zero_add]; exact hle) (by rw [hnil]; rfl) (by simp) (by simp [VRs])
      rw [Nat.zero_add] at this
      exact this.after Ed
    · cases h
  · rename_i b k n z hsl
    split at h
    · rename_i e' cs hg
      split at h
      · rename_i old hold
        split at h
        · rename_i d1 d2 d3 d4
          have d1 := Nat.eq_of_beq_eq_true d1
          have d2 := Nat.eq_of_beq_eq_true d2
          have d3 := Nat.le_of_ble_eq_true d3
          have d4 := Nat.eq_of_beq_eq_true d4
          subst d1 d2 d4
          simp only [Option.some.injEq, Prod.mk.injEq] at h
          obtain ⟨rfl, rfl⟩ := h
          have hx0 := hx
          rw [hsl] at hx0
          obtain ⟨cb, hcb, hq⟩ := hx0
          obtain ⟨hle, hold'⟩ := takeX_some.1 hold
          have hle : n * i.size ≤ cs.length := hle
          have hslc : slCells s.h (ev C x s) = some old := by rw [hsl]; simp [slCells, hg, dropX]; exact hold
          have holdl : old.length = n * i.size := by rw [hold']; show (List.take (n * i.size) cs).length = _; rw [List.length_take]; omega
          -- the way on which a new row is made
          have big : ∀ c p, a.eval x = .slice p n c → c < n + (m + 1) → Does w0 ρ O S w (.sl s.h.nx 0 (n + (m + 1)) i.size) ((s.h.set b .dead).new (.cells e (old ++ new))) ((execOp a.eval o).run C.P w) := by
            intro c p e1 e2
            obtain ⟨os, r1, r2, r3, r4⟩ := slCells_run (P := C.P) (m := n) (size := i.size) Id (hx.mono Ed) hslc (by rw [hsl]; rfl) holdl
            have := grow p n c os (s.h.set b .dead) old (Id.kill b) e1 e2 d3 r1 (by rw [r2.length, holdl]) r2
            rw [Hp.nx_set] at this
            exact this.after Ed
          rcases hq with ⟨cap, et, sz, hq, hcap, hsh, hfit⟩ | ⟨rfl, p, _, hq⟩
          · by_cases hroom : n + (m + 1) ≤ cap
            · -- written on in its row
              obtain ⟨hO, v0, ex, fr, hh, hf, hv⟩ := R.inv.blk b cb _ hcb hg
              have hv0 := hv.length
              have hw : w.shape? cb = some (e, v0.length + ex.length) := by simp [World.shape?, hh]
              have hsz : sz = v0.length + ex.length := by
                rw [hsh] at hw
                injection hw with hw
                injection hw
              have hcz : (n + (m + 1)) * i.size ≤ cap * i.size := Nat.mul_le_mul_right _ hroom
              rw [Nat.add_mul] at hcz
              have hst := run_storeCells (P := C.P) cb (n * i.size) e fr vs 0 (v0 ++ ex) w (by simpa using hh) (by simpa using hf) (by rw [hvl, List.length_append]; omega) hvone
              have hcur : (v0 ++ ex).take (n * i.size + 0) ++ vs ++ (v0 ++ ex).drop (n * i.size + 0 + vs.length) = (v0.take (n * i.size) ++ vs) ++ (v0 ++ ex).drop (n * i.size + vs.length) := by
                rw [Nat.add_zero, List.take_append_of_le_length (by omega)]
              rw [hcur] at hst
              have hlt := lt_of_heap hh
              have hlen' : (v0.take (n * i.size) ++ vs).length + ((v0 ++ ex).drop (n * i.size + vs.length)).length = v0.length + ex.length := by
                simp [hvl]; omega
              have hsh' : (w.withObj cb (.cells ((v0.take (n * i.size) ++ vs) ++ (v0 ++ ex).drop (n * i.size + vs.length)).toArray e fr)).shape? cb = w.shape? cb := by
                rw [hw, ← hlen']
                simp only [World.shape?, withObj_at hlt, List.size_toArray, List.length_append]
              have E' : Step O S w O S (w.withObj cb (.cells ((v0.take (n * i.size) ++ vs) ++ (v0 ++ ex).drop (n * i.size + vs.length)).toArray e fr)) := {
                size := by rw [withObj_size]; exact Nat.le_refl _
                old := fun y _ hy => .inl (withObj_ne (fun e => hy (e ▸ hO)))
                own := fun _ _ e => e
                lent := fun _ _ e => e
                shape := fun y _ => by
                  by_cases e : y = cb
                  · subst e; exact hsh'
                  · exact shape_of_heap (withObj_ne e) }
              have hnx : (s.h.set b .dead).nx = s.h.nx := Hp.nx_set _ _ _
              have hsub : ∀ c d, ρ c = some d → (fun c => if c = (s.h.set b .dead).nx then some cb else ρ c) c = some d := by
                intro c d e
                have := R.inv.dom c d e
                show (if c = (s.h.set b .dead).nx then some cb else ρ c) = some d
                rw [hnx, if_neg (by omega)]
                exact e
              have hx' : BR O S (w.withObj cb (.cells ((v0.take (n * i.size) ++ vs) ++ (v0 ++ ex).drop (n * i.size + vs.length)).toArray e fr)) (fun c => if c = (s.h.set b .dead).nx then some cb else ρ c) (.cells e (old ++ new)) cb := by
                refine ⟨hO, _, _, fr, withObj_at hlt, ?_, VRs.step E' hsub _ _ (VRs.append ?_ g2)⟩
                · intro j hj
                  rw [hlen'] at hj
                  exact hf j hj
                · rw [hold']
                  exact hv.take _
              obtain ⟨I', E⟩ := (R.inv.kill b).again hcb hO (fun b' x' e1 e2 e3 => by
                  rcases Hp.get_set e2 with ⟨_, rfl⟩ | ⟨hne, e2⟩
                  · exact e3
                  · exact hne (R.inv.inj b' b cb x' _ e1 hcb e2 hg e3 trivial)) withObj_size hsh' (fun y hy => withObj_ne hy) rfl rfl rfl (.cells e (old ++ new)) hx'
              refine ⟨.slice (some ⟨cb, 0, none⟩) (n + (m + 1)) cap, _, _, _, Or.inl ?_, I', ⟨cb, if_pos hnx.symm, Or.inl ⟨cap, e, sz, rfl, hroom, by rw [hsh', hw, hsz], hfit⟩⟩, E⟩
              rw [hrun, hq]
              simp [Builtin.append_, run_underlying he, run_underlying hu, hsize, g1, g3, hroom, add_none, hst]
            · exact big cap _ hq (by omega)
          · exact big 0 _ hq (by omega)
        · cases h
      · cases h
    · cases h
  · cases h

theorem minN_eq (a b : Nat) : minN a b = Nat.min a b := by
  unfold minN
  split
  · rename_i h; have := Nat.le_of_ble_eq_true h; show a = min a b; omega
  · rename_i h
    have : ¬ a ≤ b := fun e => by rw [Nat.ble_eq_true_of_le e] at h; cases h
    show b = min a b; omega

theorem trunc_ok {x y : AV} {u : Value} {k m : Nat} (hx : VR O S w ρ x u) (hm : slLen x = some m) (ht : truncA x k = some y) :
    ∃ u', VR O S w ρ y u' ∧ slLen y = some k ∧ (Builtin.lenOf u).run C.P w = .ok m w ∧ ∀ size, Builtin.firstCells size k u = Builtin.firstCells size k u' := by
  unfold truncA at ht
  split at ht
  · rename_i l
    split at ht
    · rename_i r hr
      injection ht with ht
      subst ht
      obtain ⟨hle, rfl⟩ := takeX_some.1 hr
      injection hm with hm
      subst hm
      have hx : u = .string ⟨l.toArray⟩ := hx
      subst hx
      refine ⟨.string ⟨(l.take k).toArray⟩, rfl, by simp [slLen]; omega, ?_, fun size => ?_⟩
      · have hsz : (⟨l.toArray⟩ : ByteArray).size = l.length := by show l.toArray.size = _; simp
        simp [Builtin.lenOf, hsz]
      · have e1 : (⟨l.toArray⟩ : ByteArray).extract 0 k = ⟨(l.take k).toArray⟩ := by rw [ba_extract]; simp
        have e2 : (⟨(l.take k).toArray⟩ : ByteArray).extract 0 k = ⟨(l.take k).toArray⟩ := by rw [ba_extract]; simp [List.take_take]
        simp only [Builtin.firstCells, e1, e2]
    · cases ht
  · rename_i b o n z
    split at ht
    · rename_i hle
      have hle := Nat.le_of_ble_eq_true hle
      injection ht with ht
      subst ht
      injection hm with hm
      subst hm
      obtain ⟨cb, hcb, hq⟩ := hx
      rcases hq with ⟨cap, e, sz, rfl, h1, h2, h3⟩ | ⟨rfl, a, hsp, rfl⟩
      · exact ⟨.slice (some ⟨cb, o, none⟩) k cap, ⟨cb, hcb, .inl ⟨cap, e, sz, rfl, by omega, h2, h3⟩⟩, rfl, rfl, fun size => rfl⟩
      · have : k = 0 := by omega
        subst this
        exact ⟨.slice (some a) 0 0, ⟨cb, hcb, .inr ⟨rfl, a, hsp, rfl⟩⟩, rfl, rfl, fun size => rfl⟩
    · cases ht
  · rename_i q z n cs
    split at ht
    · rename_i hle
      have hle := Nat.le_of_ble_eq_true hle
      split at ht
      · rename_i r hr
        injection ht with ht
        subst ht
        injection hm with hm
        subst hm
        obtain ⟨_, rfl⟩ := takeX_some.1 hr
        obtain ⟨a, cap, rfl, hc, hsp, hst, hmem⟩ := hx
        refine ⟨.slice (some a) k cap, ⟨a, cap, rfl, by omega, hsp, ?_, hmem.take _⟩, rfl, rfl, fun size => rfl⟩
        rcases hst with rfl | hst
        · left; simp
        · exact .inr hst
      · cases ht
    · cases ht
  · split at ht
    · injection ht with ht
      subst ht
      injection hm with hm
      subst hm
      exact ⟨u, hx, rfl, by (have hx : u = .slice none 0 0 := hx); subst hx; rfl, fun size => rfl⟩
    · cases ht
  · cases ht

theorem copy_ok (G : GOK C w0) (R : SR C w0 ds ρ O S s a w) {args : Array Operand} {ts : Array TypeId} {x y : Operand} {t t' : TypeId} (ho : o.op = .call { callee := .builtin .copy, args := args, argTypes := ts })
    (ha : args = #[x, y]) (ht : ts = #[t, t']) (h : (copyB C t x y).f s = some (v, h')) : Does w0 ρ O S w v h' ((execOp a.eval o).run C.P w) := by
  have hrun : (execOp a.eval o).run C.P w = ((Builtin.copy_ #[t, t'] o.type #[a.eval x, a.eval y]).run C.P w).andThen fun r w' => .ok (.value r) w' := by
    obtain ⟨cs, hcs⟩ := builtin_run (C := C) (a := a) (w := w) ho
    rw [hcs]
    subst ha ht
    simp [builtin]
  have hx := ev_VR G R x
  have hy := ev_VR G R y
  unfold copyB at h
  split at h
  case h_2 => cases h
  rename_i e he
  have he := elemOf_some he
  split at h
  case h_2 => cases h
  rename_i z' hz
  simp only at h
  split at h
  case h_2 => cases h
  rename_i b k n z hl
  split at h
  case h_2 => cases h
  rename_i m hm
  split at h
  case h_2 => cases h
  rename_i src hsrc
  split at h
  case h_2 => cases h
  rename_i new hnew
  split at h
  case h_2 => cases h
  rename_i h1 h2 h3
  split at h
  case h_2 => cases h
  rename_i e' cs hg
  split at h
  case h_2 => cases h
  rename_i cs' hcs
  simp only [Option.some.injEq, Prod.mk.injEq] at h
  obtain ⟨rfl, rfl⟩ := h
  have h1 := Nat.eq_of_beq_eq_true h1
  obtain ⟨u', hu', hlen', hlenOf, hfc⟩ := trunc_ok (C := C) hy hm hsrc
  obtain ⟨us, hf1, hf2, _, _⟩ := slCells_run (P := C.P) R.inv hu' (size := z') hnew hlen' h1
  rw [hl] at hx
  obtain ⟨cb, hcb, hq⟩ := hx
  obtain ⟨hO, vs, ex, fr, hh, hfz, hv⟩ := R.inv.blk b cb _ hcb hg
  have hl1 := hv.length
  have hl2 := hf2.length
  obtain ⟨hfit, rfl⟩ := putX_some.1 hcs
  have hone : ∀ v ∈ us, v.oneCell' = true := by
    intro v hvm
    obtain ⟨i, hi, rfl⟩ := List.getElem_of_mem hvm
    obtain ⟨c, hc⟩ : ∃ c, new[i]? = some c := ⟨new[i]'(by omega), by simp⟩
    obtain ⟨v', hv', hr⟩ := hf2.get hc
    have : v' = us[i] := by rw [List.getElem?_eq_getElem hi] at hv'; injection hv' with hv'; exact hv'.symm
    rw [← this]
    exact hr.one (allOne_iff.1 h3 c (List.mem_of_getElem? hc))
  have hst := run_storeCells (P := C.P) cb k e' fr us 0 (vs ++ ex) w (by simpa using hh) (by simpa using hfz) (by simp; omega) hone
  have hcur : (vs ++ ex).take (k + 0) ++ us ++ (vs ++ ex).drop (k + 0 + us.length) = (vs.take k ++ us ++ vs.drop (k + us.length)) ++ ex := by
    rw [Nat.add_zero, List.take_append_of_le_length (by omega), List.drop_append_of_le_length (by omega)]
    simp
  rw [hcur] at hst
  have hlt := lt_of_heap hh
  have hsh : (w.withObj cb (.cells (vs.take k ++ us ++ vs.drop (k + us.length) ++ ex).toArray e' fr)).shape? cb = w.shape? cb := by
    simp [World.shape?, withObj_at hlt, hh]; omega
  have E' : Step O S w O S (w.withObj cb (.cells (vs.take k ++ us ++ vs.drop (k + us.length) ++ ex).toArray e' fr)) := {
    size := by rw [withObj_size]; exact Nat.le_refl _
    old := fun y _ hy => .inl (withObj_ne (fun e => hy (e ▸ hO)))
    own := fun _ _ e => e
    lent := fun _ _ e => e
    shape := fun y _ => by
      by_cases e : y = cb
      · subst e; exact hsh
      · exact shape_of_heap (withObj_ne e) }
  have hx' : BR O S (w.withObj cb (.cells (vs.take k ++ us ++ vs.drop (k + us.length) ++ ex).toArray e' fr)) ρ (.cells e' (cs.take k ++ new ++ cs.drop (k + new.length))) cb := by
    refine ⟨hO, _, ex, fr, withObj_at hlt, ?_, VRs.step E' (fun _ _ e => e) _ _ (((hv.take k).append hf2).append ?_)⟩
    · intro i hi
      refine hfz i ?_
      simp at hi
      omega
    · rw [← hl2]
      exact hv.drop _
  obtain ⟨I', E⟩ := R.inv.set hcb hg trivial withObj_size hsh (fun y hy => withObj_ne hy) rfl rfl rfl hx'
  rcases hq with ⟨cap, et, sz, hq, _⟩ | ⟨rfl, p, hsp, hq⟩
  · refine ⟨.int .i64 (minN m n), _, _, _, Or.inl ?_, I', rfl, E⟩
    rw [hrun, hq]
    rw [← hfc] at hf1
    rw [minN_eq] at hf1 ⊢
    simp [Builtin.copy_, run_underlying he, hlenOf, run_sizeOf hz, hf1, hst, goInt]
  · refine ⟨.int .i64 (minN m 0), _, _, _, Or.inl ?_, I', rfl, E⟩
    have hu0 : us = [] := List.eq_nil_of_length_eq_zero (by rw [hl2, h1, minN_eq]; show min m 0 * z' = 0; simp)
    subst hu0
    have hself : w.withObj cb (.cells (vs.take k ++ [] ++ vs.drop (k + ([] : List Value).length) ++ ex).toArray e' fr) = w := by
      simp only [List.append_nil, List.length_nil, Nat.add_zero, List.take_append_drop]
      exact withObj_self hh
    rw [hself, hrun, hq]
    rw [← hfc] at hf1
    have h0 : minN m 0 = 0 := by rw [minN_eq]; exact Nat.min_zero m
    rw [h0] at hf1 ⊢
    simp [Builtin.copy_, run_underlying he, hlenOf, run_sizeOf hz, hf1, goInt, storeCells]

theorem appZero_ok (G : GOK C w0) (R : SR C w0 ds ρ O S s a w) {args : Array Operand} {ts : Array TypeId} {x y : Operand} {t u : TypeId} {kn : IntKind} (ho : o.op = .call { callee := .builtin .append, args := args, argTypes := ts })
    (ha : args = #[x, y]) (ht : ts = #[t, u]) (hu : C.P.underlying u = some (.int kn)) (h : (appZeroB C t x y).f s = some (v, h')) : Does w0 ρ O S w v h' ((execOp a.eval o).run C.P w) := by
  have hrun : (execOp a.eval o).run C.P w = ((Builtin.append_ #[t, u] o.type #[a.eval x, a.eval y]).run C.P w).andThen fun r w' => .ok (.value r) w' := by
    obtain ⟨cs, hcs⟩ := builtin_run (C := C) (a := a) (w := w) ho
    rw [hcs]
    subst ha ht
    simp [builtin]
  have hx := ev_VR G R x
  have hy := ev_VR G R y
  unfold appZeroB at h
  split at h
  case h_2 => cases h
  rename_i e he
  have he := elemOf_some he
  split at h
  case h_2 => cases h
  rename_i i hi
  split at h
  case h_2 => cases h
  rename_i zv hzv
  split at h
  case h_2 => cases h
  rename_i h1 h2 h3
  have h1 := Nat.le_of_ble_eq_true h1
  have h2 := Nat.le_of_ble_eq_true h2
  have h3 := Nat.eq_of_beq_eq_true h3
  dsimp only at h
  split at h
  case h_2 => cases h
  simp only at h
  split at h
  case h_2 => cases h
  rename_i vx hvx
  split at h
  case h_2 => cases h
  rw [hvx] at hx
  have hx : a.eval x = .slice none 0 0 := hx
  split at h
  case h_2 => cases h
  rename_i k n0 hy0
  rw [hy0] at hy
  split at h
  case h_2 => cases h
  rename_i n
  split at h
  · cases h
  rename_i m
  split at h
  case h_2 => cases h
  rename_i hle
  have hle : (m + 1) * i.bytes ≤ 140737488355328 := Nat.le_of_ble_eq_true hle
  have hy : a.eval y = .int k ((m + 1 : Nat) : Int) := hy
  simp only [Option.some.injEq, Prod.mk.injEq] at h
  obtain ⟨rfl, rfl⟩ := h
  have hm : m + 1 ≤ 140737488355328 := Nat.le_trans (Nat.le_mul_of_pos_right _ h2) hle
  obtain ⟨Id, Ed⟩ := R.inv.drew
  have hge := grownCap_ge w (m + 1) 0 e
  have hr := Lib.run_append_nil_zeros (P := C.P) w t u o.type e i zv k kn he hu hi hzv (m + 1) (by omega) h1 (by omega) (by omega)
  have hzl : (Builtin.zeroCells zv.cells (grownCap w (m + 1) 0 e - (m + 1))).toList.length = (grownCap w (m + 1) 0 e - (m + 1)) * i.size := by
    simp [Builtin.zeroCells, h3]
  have hz0 : (Builtin.zeroCells zv.cells (m + 1)).toList = (List.replicate (m + 1) zv.cells.toList).flatten := by
    have := range_zero zv.cells (m + 1)
    simpa [Builtin.zeroCells] using this
  refine Does.after Ed (newSliceI (w' := w.drew.alloc (.cells (Builtin.zeroCells zv.cells (m + 1) ++ Builtin.zeroCells zv.cells (grownCap w (m + 1) 0 e - (m + 1))) e)) (vs := (List.replicate (m + 1) zv.cells.toList).flatten) (ex := (Builtin.zeroCells zv.cells (grownCap w (m + 1) 0 e - (m + 1))).toList) (fr := (0, 0)) (cap := grownCap w (m + 1) 0 e) Id ?_ rfl rfl rfl noFrozen ?_ hge ?_ ?_)
  · show w.heap.push _ = _
    congr 2
    apply Array.ext'
    rw [Array.toList_append, hz0]
  · rw [repX_eq, flat_map]
    exact VRs_ofV1 _
  · rw [flat_length, Array.length_toList, h3, hzl, ← Nat.add_mul]
    exact Nat.mul_le_mul_right _ (by omega)
  · rw [hrun, hx, hy, hr]
    rfl

theorem builtin_ok (G : GOK C w0) (R : SR C w0 ds ρ O S s a w) {b : Builtin} {args : Array Operand} {ts : Array TypeId} (ho : o.op = .call { callee := .builtin b, args := args, argTypes := ts }) (h : builtinA C o b args ts s = some (v, h')) :
    Does w0 ρ O S w v h' ((execOp a.eval o).run C.P w) := by
  unfold builtinA builtinB at h
  split at h
  · split at h
    · rename_i ha ht
      split at h
      · rename_i kn hu
        exact appZero_ok G R ho (Array.ext' ha) (Array.ext' ht) hu h
      · rename_i d hne hd
        exact append_ok G R ho ha ht hd (fun k e => hne k (by rw [e])) h
      · cases h
    · cases h
  · exact len_ok G R ho h
  · split at h
    · rename_i x y t t' ha ht
      exact copy_ok G R ho (Array.ext' ha) (Array.ext' ht) h
    · cases h
  · split at h
    · rename_i x ha
      have ha : args = #[x] := Array.ext' ha
      have hx := ev_VR G R x
      have hrun : (execOp a.eval o).run C.P w = ((Builtin.unsafeSliceData_ ts o.type #[a.eval x]).run C.P w).andThen fun r w' => .ok (.value r) w' := by
        obtain ⟨cs, hcs⟩ := builtin_run (C := C) (a := a) (w := w) ho
        rw [hcs]
        subst ha
        simp [builtin]
      simp only at h
      split at h
      · rename_i b k n z hl
        split at h
        · cases h
        · rename_i hn
          have hn : n ≠ 0 := hn
          simp only [Option.some.injEq, Prod.mk.injEq] at h
          obtain ⟨rfl, rfl⟩ := h
          rw [hl] at hx
          obtain ⟨cb, hcb, hq⟩ := hx
          rcases hq with ⟨cap, et, sz, hq, hcap, _⟩ | ⟨rfl, _⟩
          · refine Does.same (u := .pointer (some ⟨cb, k, none⟩)) ?_ R.inv ⟨cb, hcb, rfl⟩
            rw [hrun, hq]
            have hc0 : cap ≠ 0 := by omega
            rw [Lib.run_unsafeSliceData_row w _ _ _ _ _ hc0]
            rfl
          · exact absurd rfl hn
      · rename_i m c hl
        simp only [Option.some.injEq, Prod.mk.injEq] at h
        obtain ⟨rfl, rfl⟩ := h
        rw [hl] at hx
        have hx : a.eval x = .slice none m c := hx
        refine Does.same (u := .pointer none) ?_ R.inv rfl
        rw [hrun, hx]
        rw [Lib.run_unsafeSliceData_nil]
        rfl
      · cases h
    · cases h
  · split at h
    · rename_i x y t it ha ht
      have ha : args = #[x, y] := Array.ext' ha
      have ht : ts = #[t, it] := Array.ext' ht
      have hx := ev_VR G R x
      have hy := ev_VR G R y
      have hrun : (execOp a.eval o).run C.P w = ((Builtin.unsafeString_ #[t, it] o.type #[a.eval x, a.eval y]).run C.P w).andThen fun r w' => .ok (.value r) w' := by
        obtain ⟨cs, hcs⟩ := builtin_run (C := C) (a := a) (w := w) ho
        rw [hcs]
        subst ha ht
        simp [builtin]
      split at h
      · rename_i e hp
        split at h
        · rename_i hc
          have hc := Nat.eq_of_beq_eq_true hc
          simp only at h
          split at h
          · rename_i n hn
            have hyv : a.eval y = .int .i64 n := by
              unfold ixI at hn
              split at hn
              · rename_i i hi
                rw [hi] at hy
                split at hn
                · injection hn with hn
                  subst hn
                  exact hy
                · cases hn
              · cases hn
            split at h
            · have fin : (∃ q, a.eval x = .pointer q) → (v, h') = (.str [], s.h) → Does w0 ρ O S w v h' ((execOp a.eval o).run C.P w) := by
                rintro ⟨q, hq⟩ e
                injection e with e1 e2
                subst e1
                subst e2
                refine Does.same (u := .string ⟨#[]⟩) ?_ R.inv rfl
                rw [hrun, hq, hyv]
                have := Lib.run_unsafeString_none (P := C.P) w t it o.type q
                simp only [Int.natCast_zero] at this ⊢
                rw [this]
                rfl
              split at h
              · rename_i q hq
                rw [hq] at hx
                exact fin ⟨q, hx⟩ (by simpa using h.symm)
              · rename_i b k hq
                rw [hq] at hx
                obtain ⟨cb, _, hu⟩ := hx
                exact fin ⟨_, hu⟩ (by simpa using h.symm)
              · cases h
            · rename_i hn0
              have hn0 : n ≠ 0 := hn0
              split at h
              · rename_i b k hl
                split at h
                · split at h
                  · rename_i e' cs hg
                    split at h
                    · rename_i l he hl' hle
                      split at h
                      · rename_i bs hbs
                        have he := Nat.eq_of_beq_eq_true he
                        subst he
                        simp only [Option.some.injEq, Prod.mk.injEq] at h
                        obtain ⟨rfl, rfl⟩ := h
                        rw [hl] at hx
                        obtain ⟨w', h1, I', E⟩ := unsafeString_run (C := C) (it := it) (ty := o.type) R.inv hp hc hx hg hl' hbs (Nat.le_of_ble_eq_true hle) hn0 rfl
                        refine ⟨.string ⟨bs.toArray⟩, w', _, _, Or.inl ?_, I', rfl, E⟩
                        rw [hrun, hyv, h1]
                        rfl
                      · cases h
                    · cases h
                  · cases h
                · cases h
              · cases h
          · cases h
        · cases h
      · cases h
    · cases h
  · exact pure_call G R ho h
  · exact pure_call G R ho h
  · exact pure_call G R ho h
  · cases h
end
end Go.Ab
