/-
  Each operation of the abstract machine against the model's: those that make and write memory.
-/
import Derived.Test.YtfbnfdcbcobogaaGreatDoorAb6
import Derived.Laws.Strings
import Derived.Laws.BytesString
import Derived.Laws.IdiomStrings
import Derived.Laws.RangeString
import Derived.Laws.AppendOwn
namespace Go.Ab

def _root_.Go.World.withObj (w : World) (g : Nat) (o : Obj) : World := { w with heap := w.heap.setIfInBounds g o }

theorem withObj_at {w : World} {g : Nat} {o : Obj} (h : g < w.heap.size) : (w.withObj g o).heap[g]? = some o := by
  simp [World.withObj, h]
theorem withObj_ne {w : World} {g k : Nat} {o : Obj} (h : k ≠ g) : (w.withObj g o).heap[k]? = w.heap[k]? := by
  simp [World.withObj, Array.getElem?_setIfInBounds_ne (Ne.symm h)]
theorem withObj_size {w : World} {g : Nat} {o : Obj} : (w.withObj g o).heap.size = w.heap.size := by simp [World.withObj]
theorem withObj_withObj {w : World} {g : Nat} {o o' : Obj} : (w.withObj g o).withObj g o' = w.withObj g o' := by
  simp only [World.withObj]
  congr 1
  apply Array.ext_getElem?
  intro i
  by_cases h : g = i
  · subst h
    by_cases hl : g < w.heap.size
    · simp [hl]
    · simp [hl]
  · simp [Array.getElem?_setIfInBounds_ne h]
theorem withObj_self {w : World} {g : Nat} {o : Obj} (h : w.heap[g]? = some o) : w.withObj g o = w := by
  have hlt := lt_of_heap h
  obtain ⟨heap, tape, drawn, os, output⟩ := w
  simp only [World.withObj]
  congr 1
  apply Array.ext_getElem?
  intro i
  by_cases hi : g = i
  · subst hi
    simp only at h hlt
    simp [hlt, ← h]
  · simp [Array.getElem?_setIfInBounds_ne hi]

theorem setCell_withObj {w : World} {g o : Nat} {cur : List Value} {e : TypeId} {fr : Nat × Nat} (h : w.heap[g]? = some (.cells cur.toArray e fr)) (v : Value) :
    w.setCell ⟨g, o, none⟩ v = w.withObj g (.cells (cur.set o v).toArray e fr) := by
  have hlt := lt_of_heap h
  simp only [World.setCell, World.withObj]
  congr 1
  apply Array.ext_getElem?
  intro i
  rw [Array.getElem?_modify]
  by_cases hi : g = i
  · subst hi
    rw [if_pos rfl, h]
    simp [hlt]
  · simp [hi, Array.getElem?_setIfInBounds_ne hi]

theorem list_over {α : Type} (cur : List α) (k : Nat) (v : α) (rest : List α) (h : k + 1 + rest.length ≤ cur.length) :
    (cur.set k v).take (k + 1) ++ rest ++ (cur.set k v).drop (k + 1 + rest.length) = cur.take k ++ v :: rest ++ cur.drop (k + (rest.length + 1)) := by
  have hk : k < cur.length := by omega
  have hA : (cur.take k).length = k := by simp; omega
  rw [List.set_eq_take_append_cons_drop, if_pos hk]
  have e1 : (cur.take k ++ v :: cur.drop (k + 1)).take (k + 1) = cur.take k ++ [v] := by
    rw [List.take_append, hA, List.take_of_length_le (by omega)]
    simp
  have e2 : (cur.take k ++ v :: cur.drop (k + 1)).drop (k + 1 + rest.length) = cur.drop (k + (rest.length + 1)) := by
    rw [List.drop_append, hA, List.drop_eq_nil_of_le (by omega), show k + 1 + rest.length - k = rest.length + 1 by omega, List.drop_succ_cons, List.drop_drop, List.nil_append]
    congr 1
    omega
  rw [e1, e2]
  simp

theorem run_storeCells {P : Program} (g o : Nat) (e : TypeId) (fr : Nat × Nat) : ∀ (vs : List Value) (i : Nat) (cur : List Value) (w : World), w.heap[g]? = some (.cells cur.toArray e fr) → (∀ i, i < cur.length → ¬ (fr.1 ≤ i ∧ i < fr.2)) → o + i + vs.length ≤ cur.length → (∀ v ∈ vs, v.oneCell' = true) →
    (storeCells ⟨g, o, none⟩ vs i).run P w = .ok () (w.withObj g (.cells (cur.take (o + i) ++ vs ++ cur.drop (o + i + vs.length)).toArray e fr))
  | [], i, cur, w, hg, _, _, _ => by
    simp only [storeCells, List.append_nil, List.length_nil, Nat.add_zero, List.take_append_drop]
    rw [withObj_self hg]
    rfl
  | v :: rest, i, cur, w, hg, hf, hl, h1 => by
    have hi : o + i < cur.length := by simp at hl; omega
    have hcell : w.cell? ⟨g, o + i, none⟩ = some cur[o + i] := by simp [World.cell?, hg, hi]
    have hfro : w.frozen? ⟨g, o + i, none⟩ = false := by
      have := hf _ hi
      simp [World.frozen?, hg]
      simpa using this
    have hst : (store ((⟨g, o, none⟩ : Addr).add i) v).run P w = .ok () (w.withObj g (.cells (cur.set (o + i) v).toArray e fr)) := by
      rw [add_none, run_store P w _ v _ (h1 v (by simp)), hcell]
      simp [hfro, setCell_withObj hg]
    have ih := run_storeCells (P := P) g o e fr rest (i + 1) (cur.set (o + i) v) (w.withObj g (.cells (cur.set (o + i) v).toArray e fr)) (withObj_at (lt_of_heap hg)) (by simpa using hf) (by simp at hl ⊢; omega) (fun x hx => h1 x (by simp [hx]))
    simp only [storeCells, Sem.run_bind, hst, Result.andThen_ok, ih, withObj_withObj]
    congr 4
    have := list_over cur (o + i) v rest (by simp at hl; omega)
    simpa [Nat.add_assoc] using this

section
variable {C : Ctx} {w0 : World} {ds : List Deferred} {ρ : Nat → Option Nat} {O S : Nat → Prop} {s : St} {a : Act} {w : World} {o : Oper} {v : AV} {h' : Hp}

abbrev ρnew (ρ : Nat → Option Nat) (n g : Nat) : Nat → Option Nat := fun b => if b = n then some g else ρ b
abbrev Onew (O : Nat → Prop) (g : Nat) : Nat → Prop := fun y => O y ∨ y = g

theorem newExt {h : Hp} (I : Inv w0 ρ O S h w) {w' : World} {o : Obj} (hh : w'.heap = w.heap.push o) : Ext ρ O S w (ρnew ρ h.nx w.heap.size) (Onew O w.heap.size) S w' := by
  have hold : ∀ y, y < w.heap.size → w'.heap[y]? = w.heap[y]? := fun y hy => by
    rw [hh, Array.getElem?_push, if_neg (by omega)]
  exact {
    sub := fun b cb e => by
      have := I.dom b cb e
      show (if b = h.nx then _ else _) = _
      rw [if_neg (by omega)]; exact e
    size := by rw [hh]; simp
    old := fun y hy _ => hold y hy
    own := fun y hy e => e.resolve_right (by omega)
    lent := fun _ _ e => e
    shape := fun y hy => shape_of_heap (hold y hy) }

/-- a new row of cells -/
theorem newCells {h : Hp} (I : Inv w0 ρ O S h w) {w' : World} {vs ex : List Value} {e : TypeId} {fr : Nat × Nat} {cs : List AV} (hh : w'.heap = w.heap.push (.cells (vs ++ ex).toArray e fr)) (hos : w'.os = w.os) (htp : w'.tape = w.tape) (hout : w'.output = w.output)
    (hf : ∀ i, i < vs.length + ex.length → ¬ (fr.1 ≤ i ∧ i < fr.2)) (hv : VRs O S w ρ cs vs) :
    Inv w0 (ρnew ρ h.nx w.heap.size) (Onew O w.heap.size) S (h.new (.cells e cs)) w' ∧ Ext ρ O S w (ρnew ρ h.nx w.heap.size) (Onew O w.heap.size) S w' := by
  have E := newExt I hh
  refine ⟨(I.new hh hos htp hout (.cells e cs) ?_).1, E⟩
  exact ⟨Or.inr rfl, vs, ex, fr, by rw [hh]; simp, hf, hv.mono E⟩

theorem ρnew_self (ρ : Nat → Option Nat) (n g : Nat) : ρnew ρ n g n = some g := if_pos rfl

theorem zeroCells_some {P : Program} {t : TypeId} {cs : List AV} (e : zeroCells P t = some cs) : ∃ i z, P.info? t = some i ∧ i.zero = some z ∧ cs = z.cells.toList.map ofV1 := by
  unfold zeroCells at e
  split at e
  · rename_i i hi
    split at e
    · rename_i z hz
      injection e with e
      exact ⟨i, z, hi, hz, e.symm⟩
    · cases e
  · cases e
theorem VRs_ofV1 (l : List Value) : VRs O S w ρ (l.map ofV1) l := by
  have := VRs_map (O := O) (S := S) (w := w) (ρ := ρ) ofV1 id l fun a _ => ofV1_VR a
  simpa using this

theorem noFrozen {n : Nat} : ∀ i, i < n → ¬ ((0, 0).1 ≤ i ∧ i < ((0, 0) : Nat × Nat).2) := by intro i _ h; exact absurd h.2 (by simp)

theorem alloc_ok (R : SR C w0 ds ρ O S s a w) {e : TypeId} (ho : o.op = .alloc e) (h : allocA C e s = some (v, h')) : Does w0 ρ O S w v h' ((execOp a.eval o).run C.P w) := by
  unfold allocA allocB at h
  split at h
  · rename_i cs hcs
    obtain ⟨i, z, hi, hz, rfl⟩ := zeroCells_some hcs
    split at h
    · simp only [Option.some.injEq, Prod.mk.injEq] at h
      obtain ⟨rfl, rfl⟩ := h
      obtain ⟨I', E⟩ := newCells (w' := w.alloc (.cells z.cells e)) (vs := z.cells.toList) (ex := []) (e := e) (fr := (0, 0)) R.inv (by show w.heap.push _ = _; simp) rfl rfl rfl noFrozen (VRs_ofV1 _)
      refine ⟨.pointer (some ⟨w.heap.size, 0, none⟩), _, _, _, Or.inl ?_, I', ⟨w.heap.size, ρnew_self _ _ _, rfl⟩, E⟩
      simp [execOp, ho, Instr.alloc, zeroValue, typeInfo, hi, hz, newVar, newRow]
    · cases h
  · cases h

theorem box_ok (G : GOK C w0) (R : SR C w0 ds ρ O S s a w) {e : TypeId} {x : Operand} (ho : o.op = .box e x) (h : boxA C e x s = some (v, h')) : Does w0 ρ O S w v h' ((execOp a.eval o).run C.P w) := by
  have hx := ev_VR G R x
  unfold boxA at h
  split at h
  · rename_i cs hcs
    simp only [Option.some.injEq, Prod.mk.injEq] at h
    obtain ⟨rfl, rfl⟩ := h
    obtain ⟨vs, h1, h2, h3, h4⟩ := hx.cells hcs
    obtain ⟨I', E⟩ := newCells (w' := w.alloc (.cells (a.eval x).cells e)) (vs := vs) (ex := []) (e := e) (fr := (0, 0)) R.inv (by show w.heap.push _ = _; rw [← h1]; simp) rfl rfl rfl noFrozen h2
    refine ⟨.pointer (some ⟨w.heap.size, 0, none⟩), _, _, _, Or.inl ?_, I', ⟨w.heap.size, ρnew_self _ _ _, rfl⟩, E⟩
    simp [execOp, ho, Instr.box, newVar, newRow]
  · cases h

theorem store_ok (G : GOK C w0) (R : SR C w0 ds ρ O S s a w) {t : TypeId} {p x : Operand} (ho : o.op = .store t p x) (h : storeA C t p x s = some (v, h')) : Does w0 ρ O S w v h' ((execOp a.eval o).run C.P w) := by
  have hp := ev_VR G R p
  have hx := ev_VR G R x
  unfold storeA storeB at h
  split at h
  · rename_i z hz
    simp only at h
    split at h
    · rename_i b k hb
      split at h
      · rename_i new hnew
        split at h
        · rename_i hlen
          have hlen := Nat.eq_of_beq_eq_true hlen
          split at h
          · rename_i e cs hg
            split at h
            · rename_i cs' hcs
              simp only [Option.some.injEq, Prod.mk.injEq] at h
              obtain ⟨rfl, rfl⟩ := h
              obtain ⟨hle, rfl⟩ := putX_some.1 hcs
              rw [hb] at hp
              obtain ⟨cb, hcb, hu⟩ := hp
              obtain ⟨us, h1, h2, h3, h4⟩ := hx.cells hnew
              obtain ⟨hO, vs, ex, fr, hh, hf, hv⟩ := R.inv.blk b cb _ hcb hg
              have hl1 := hv.length
              have hl2 := h2.length
              have hrun := run_storeCells (P := C.P) cb k e fr us 0 (vs ++ ex) w (by simpa using hh) (by simpa using hf) (by simp; omega) h3
              have hsz : (a.eval x).cells.size = z := by rw [← Array.length_toList, h1, hl2, hlen]
              have hcur : (vs ++ ex).take (k + 0) ++ us ++ (vs ++ ex).drop (k + 0 + us.length) = (vs.take k ++ us ++ vs.drop (k + us.length)) ++ ex := by
                rw [Nat.add_zero, List.take_append_of_le_length (by omega), List.drop_append_of_le_length (by omega)]
                simp
              rw [hcur] at hrun
              have hlt := lt_of_heap hh
              have hsh : (w.withObj cb (.cells (vs.take k ++ us ++ vs.drop (k + us.length) ++ ex).toArray e fr)).shape? cb = w.shape? cb := by
                simp [World.shape?, withObj_at hlt, hh]; omega
              have E' : Step O S w O S (w.withObj cb (.cells (vs.take k ++ us ++ vs.drop (k + us.length) ++ ex).toArray e fr)) := {
                size := by rw [withObj_size]; exact Nat.le_refl _
                old := fun y _ hy => .inl (withObj_ne (fun e => hy (e ▸ hO)))
                own := fun _ _ e => e
                lent := fun _ _ e => e
                shape := fun y _ => by
                  by_cases e : y = cb
                  · subst e; exact hsh
                  · exact shape_of_heap (withObj_ne e) }
              have hx' : BR O S (w.withObj cb (.cells (vs.take k ++ us ++ vs.drop (k + us.length) ++ ex).toArray e fr)) ρ (.cells e (cs.take k ++ new ++ cs.drop (k + new.length))) cb := by
                refine ⟨hO, _, ex, fr, withObj_at hlt, ?_, VRs.step E' (fun _ _ e => e) _ _ (((hv.take k).append h2).append ?_)⟩
                · intro i hi
                  refine hf i ?_
                  simp at hi
                  omega
                · rw [← hl2]
                  exact hv.drop _
              obtain ⟨I', E⟩ := R.inv.set hcb hg trivial withObj_size hsh (fun y hy => withObj_ne hy) rfl rfl rfl hx'
              refine ⟨undef, _, _, _, Or.inr ⟨?_, rfl⟩, I', by simp [VR, VRs, undef], E⟩
              simp [execOp, ho, hu, Instr.storeAt, Instr.sureAddr, storeVar, run_sizeOf hz, hsz, h1, hrun]
            · cases h
          · cases h
        · cases h
      · cases h
    · cases h
  · cases h

/-! ### Zero cells, and parts laid over them -/
theorem flat_get {α : Type} (zl : List α) : ∀ (c i : Nat), i < c * zl.length → (List.replicate c zl).flatten[i]? = zl[i % zl.length]? := by
  intro c
  induction c with
  | zero => intro i hi; simp at hi
  | succ c ih =>
    intro i hi
    rw [List.replicate_succ, List.flatten_cons]
    by_cases h : i < zl.length
    · rw [List.getElem?_append_left h, Nat.mod_eq_of_lt h]
    · rw [List.getElem?_append_right (by omega), ih (i - zl.length) (by rw [Nat.succ_mul] at hi; omega)]
      congr 1
      rw [← Nat.mod_eq_sub_mod (by omega)]
theorem flat_length {α : Type} (zl : List α) (c : Nat) : (List.replicate c zl).flatten.length = c * zl.length := by
  induction c with
  | zero => simp
  | succ c ih => rw [List.replicate_succ, List.flatten_cons, List.length_append, ih, Nat.succ_mul, Nat.add_comm]
theorem flat_map {α β : Type} (f : α → β) (zl : List α) (c : Nat) : (List.replicate c (zl.map f)).flatten = ((List.replicate c zl).flatten).map f := by
  induction c with
  | zero => rfl
  | succ c ih => rw [List.replicate_succ, List.replicate_succ, List.flatten_cons, List.flatten_cons, List.map_append, ih]
theorem range_zero (z : Array Value) (c : Nat) : ((Array.range (c * z.size)).map (z[· % z.size]!)).toList = (List.replicate c z.toList).flatten := by
  apply List.ext_getElem?
  intro i
  by_cases h : i < c * z.size
  · rw [flat_get _ _ _ (by simpa using h)]
    have hz : 0 < z.size := by
      rcases Nat.eq_zero_or_pos z.size with h0 | h0
      · rw [h0] at h; simp at h
      · exact h0
    have hm := Nat.mod_lt i hz
    simp [h, hm, getElem!_pos]
  · rw [List.getElem?_eq_none (by simpa using Nat.le_of_not_lt h), List.getElem?_eq_none (by rw [flat_length]; simpa using Nat.le_of_not_lt h)]

theorem zip_over (off : Nat) : ∀ (vs : List Value) (n : Nat) (cells : Array Value), off + n + vs.length ≤ cells.size →
    ((vs.zipIdx n).foldl (fun cs p => cs.setIfInBounds (off + p.2) p.1) cells).toList = cells.toList.take (off + n) ++ vs ++ cells.toList.drop (off + n + vs.length) := by
  intro vs
  induction vs with
  | nil => intro n cells _; simp
  | cons v vs ih =>
    intro n cells h
    simp only [List.zipIdx_cons, List.foldl_cons]
    rw [ih (n + 1) _ (by simp at h ⊢; omega)]
    have := list_over cells.toList (off + n) v vs (by simp at h ⊢; omega)
    simpa [Array.toList_setIfInBounds, Nat.add_assoc] using this

theorem fill_over {place : Nat → Option (Nat × Nat)} {i off size : Nat} {u : Value} {rest : List (Nat × Value)} {cells : List Value} (hp : place i = some (off, size)) (hs : u.cells.size = size) (hf : off + size ≤ cells.length) :
    Instr.fill place cells.toArray ((i, u) :: rest) = Instr.fill place (cells.take off ++ u.cells.toList ++ cells.drop (off + size)).toArray rest := by
  rw [Instr.fill]
  simp only [hp]
  rw [if_neg (by simp [hs]; omega)]
  congr 1
  apply Array.ext'
  have := zip_over off u.cells.toList 0 cells.toArray (by simp [hs]; omega)
  rw [← Array.foldl_toList]
  simp only [Array.toList_zipIdx]
  simpa [hs] using this

theorem fillA_run {z : Nat} (ps : List (Nat × AV)) (us : List (Nat × Value)) (hps : us.map (·.1) = ps.map (·.1)) (hv : VRs O S w ρ (ps.map (·.2)) (us.map (·.2))) :
    ∀ {cs r : List AV} {vs : List Value}, fillA z ps cs = some r → VRs O S w ρ cs vs → ∃ ws, Instr.fill (fun i => some (i * z, z)) vs.toArray us = some ws.toArray ∧ VRs O S w ρ r ws := by
  induction ps generalizing us with
  | nil =>
    intro cs r vs e h
    injection e with e
    subst e
    have : us = [] := by simpa using hps
    subst this
    exact ⟨vs, rfl, h⟩
  | cons p ps ih =>
    intro cs r vs e h
    obtain ⟨u, us, rfl⟩ : ∃ u r, us = u :: r := by
      cases us with
      | nil => simp at hps
      | cons u us => exact ⟨u, us, rfl⟩
    obtain ⟨x, r', e', h1, h2⟩ := hv
    simp only [List.map_cons, List.cons.injEq] at hps e'
    obtain ⟨rfl, rfl⟩ := e'
    have e2 : (match p.2.cells with
      | some new => match Nat.beq new.length z with
        | true => match putX (Nat.mul p.1 z) new cs with
          | some cs => fillA z ps cs
          | none => none
        | false => none
      | none => none) = some r := e
    split at e2
    · rename_i new hnew
      split at e2
      · rename_i hlen
        have hlen := Nat.eq_of_beq_eq_true hlen
        split at e2
        · rename_i cs' hcs
          obtain ⟨hle, rfl⟩ := putX_some.1 hcs
          have hle : p.1 * z + new.length ≤ cs.length := hle
          obtain ⟨nv, g1, g2, g3, g4⟩ := h1.cells hnew
          have hl := h.length
          have hl2 := g2.length
          obtain ⟨u1, u2⟩ := u
          simp only at hps g1
          obtain ⟨rfl, hps⟩ := hps
          have hsz : u2.cells.size = z := by rw [← Array.length_toList, g1, hl2, hlen]
          rw [fill_over (place := fun i => some (i * z, z)) (off := p.1 * z) (size := z) rfl hsz (by omega), g1]
          refine ih us hps h2 e2 ?_
          have := ((h.take (p.1 * z)).append g2).append (h.drop (p.1 * z + z))
          rw [← hlen] at this ⊢
          exact this
        · cases e2
      · cases e2
    · cases e2

theorem fillF_run {P : Program} {fs : Array Field} {places : Array (Nat × Nat)} (hpl : ∀ (i : Nat) (f : Field) (z : Nat), fs[i]? = some f → szT P f.type = some z → places[i]? = some (f.offset, z)) (ps : List (Nat × AV)) (us : List (Nat × Value)) (hps : us.map (·.1) = ps.map (·.1)) (hv : VRs O S w ρ (ps.map (·.2)) (us.map (·.2))) :
    ∀ {cs r : List AV} {vs : List Value}, fillF P fs ps cs = some r → VRs O S w ρ cs vs → ∃ ws, Instr.fill (places[·]?) vs.toArray us = some ws.toArray ∧ VRs O S w ρ r ws := by
  induction ps generalizing us with
  | nil =>
    intro cs r vs e h
    injection e with e
    subst e
    have : us = [] := by simpa using hps
    subst this
    exact ⟨vs, rfl, h⟩
  | cons p ps ih =>
    intro cs r vs e h
    obtain ⟨u, us, rfl⟩ : ∃ u r, us = u :: r := by
      cases us with
      | nil => simp at hps
      | cons u us => exact ⟨u, us, rfl⟩
    obtain ⟨x, r', e', h1, h2⟩ := hv
    simp only [List.map_cons, List.cons.injEq] at hps e'
    obtain ⟨rfl, rfl⟩ := e'
    have e2 : (match fs[p.1]? with
      | some f => match p.2.cells, szT P f.type with
        | some new, some z => match Nat.beq new.length z with
          | true => match putX f.offset new cs with
            | some cs => fillF P fs ps cs
            | none => none
          | false => none
        | _, _ => none
      | none => none) = some r := e
    split at e2
    · rename_i f hf
      split at e2
      · rename_i new z hnew hz
        split at e2
        · rename_i hlen
          have hlen := Nat.eq_of_beq_eq_true hlen
          split at e2
          · rename_i cs' hcs
            obtain ⟨hle, rfl⟩ := putX_some.1 hcs
            obtain ⟨nv, g1, g2, g3, g4⟩ := h1.cells hnew
            have hl := h.length
            have hl2 := g2.length
            obtain ⟨u1, u2⟩ := u
            simp only at hps g1
            obtain ⟨rfl, hps⟩ := hps
            have hsz : u2.cells.size = z := by rw [← Array.length_toList, g1, hl2, hlen]
            rw [fill_over (place := (places[·]?)) (off := f.offset) (size := z) (hpl _ _ _ hf hz) hsz (by omega), g1]
            refine ih us hps h2 e2 ?_
            have := ((h.take f.offset).append g2).append (h.drop (f.offset + z))
            rw [← hlen] at this ⊢
            exact this
          · cases e2
        · cases e2
      · cases e2
    · cases e2

theorem parts_fst (ps : List (Nat × Operand)) : (partsA C ps s).map (·.1) = ps.map (·.1) := by
  induction ps with
  | nil => rfl
  | cons p ps ih => show p.1 :: _ = _; rw [List.map_cons, ← ih]; rfl
theorem parts_VR (G : GOK C w0) (R : SR C w0 ds ρ O S s a w) (ps : List (Nat × Operand)) : VRs O S w ρ ((partsA C ps s).map (·.2)) ((ps.map fun p => (p.1, a.eval p.2)).map (·.2)) := by
  induction ps with
  | nil => rfl
  | cons p ps ih => exact ⟨_, _, rfl, ev_VR G R p.2, ih⟩
end
end Go.Ab
