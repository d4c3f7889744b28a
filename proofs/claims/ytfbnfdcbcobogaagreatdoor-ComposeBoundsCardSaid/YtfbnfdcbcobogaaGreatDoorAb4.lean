/-
  The relation of heaps and of states; reading and writing.
-/
import Derived.Test.YtfbnfdcbcobogaaGreatDoorAb3
import Derived.Laws.Append
import Derived.Laws.Cells
import Derived.Laws.Entries
import Derived.Laws.World
namespace Go.Ab

/-! ### Values -/
section
variable {O S : Nat → Prop} {w : World} {ρ : Nat → Option Nat}

theorem pv_run {α : Type} {P : Program} : ∀ (s : Sem α) {a : α} (w : World), pv P s = some a → s.run P w = .ok a w := by
  intro s
  induction s with
  | pure a => intro b w h; simp only [pv] at h; injection h with h; subst h; rfl
  | program k ih => intro b w h; simp only [pv] at h; exact ih P w h
  | mark m k ih => intro b w h; simp only [pv] at h; exact ih w h
  | _ => intro b w h; simp [pv] at h

mutual
theorem VR_toV : ∀ (x : AV) (v : Value), toV x = some v → VR O S w ρ x v
  | .undef, _, h => by simp [toV] at h
  | .int k n, _, h => by simp [toV] at h; simp [VR, h]
  | .bool b, _, h => by simp [toV] at h; simp [VR, h]
  | .str l, _, h => by simp [toV] at h; simp [VR, h]
  | .val v, _, h => by simp [toV] at h; simp [VR, h]
  | .agg cs, v, h => by
    simp only [toV] at h
    split at h
    · rename_i vs e
      injection h with h
      exact ⟨vs, h.symm, VRs_toVs cs vs e⟩
    · cases h
  | .tup cs, v, h => by
    simp only [toV] at h
    split at h
    · rename_i vs e
      injection h with h
      exact ⟨vs, h.symm, VRs_toVs cs vs e⟩
    · cases h
  | .lst .., _, h => by simp [toV] at h
  | .tptr .., _, h => by simp [toV] at h
  | .ptr .., _, h => by simp [toV] at h
  | .sl .., _, h => by simp [toV] at h
  | .fn f [], _, h => by
    simp only [toV] at h
    injection h with h
    exact ⟨[], h.symm, by simp [VRs]⟩
  | .fn f (_ :: _), _, h => by simp [toV] at h
  | .mapr .., _, h => by simp [toV] at h
  | .rnd .., _, h => by simp [toV] at h
  | .mv .., _, h => by simp [toV] at h
  | .mtree .., _, h => by simp [toV] at h
  | .iface t x, v, h => by
    simp only [toV] at h
    split at h
    · rename_i u e
      injection h with h
      exact ⟨u, h.symm, VR_toV x u e⟩
    · cases h
theorem VRs_toVs : ∀ (xs : List AV) (vs : List Value), toVs xs = some vs → VRs O S w ρ xs vs
  | [], _, h => by simp only [toVs] at h; injection h with h; subst h; simp [VRs]
  | c :: cs, _, h => by
    simp only [toVs] at h
    split at h
    · rename_i v e
      split at h
      · rename_i vs e'
        injection h with h
        exact ⟨v, vs, h.symm, VR_toV c v e, VRs_toVs cs vs e'⟩
      · cases h
    · cases h
end

mutual
theorem toV_VR : ∀ (x : AV) (v u : Value), toV x = some v → VR O S w ρ x u → u = v
  | .undef, _, _, h, _ => by simp [toV] at h
  | .int k n, _, _, h, r => by simp [toV] at h; simp [VR] at r; rw [r, h]
  | .bool b, _, _, h, r => by simp [toV] at h; simp [VR] at r; rw [r, h]
  | .str l, _, _, h, r => by simp [toV] at h; simp [VR] at r; rw [r, h]
  | .val v, _, _, h, r => by simp [toV] at h; simp [VR] at r; rw [r, h]
  | .agg cs, v, u, h, r => by
    simp only [toV] at h
    split at h
    · rename_i vs e
      injection h with h
      obtain ⟨us, rfl, r⟩ := r
      rw [toVs_VRs cs vs us e r, h]
    · cases h
  | .tup cs, v, u, h, r => by
    simp only [toV] at h
    split at h
    · rename_i vs e
      injection h with h
      obtain ⟨us, rfl, r⟩ := r
      rw [toVs_VRs cs vs us e r, h]
    · cases h
  | .lst .., _, _, h, _ => by simp [toV] at h
  | .tptr .., _, _, h, _ => by simp [toV] at h
  | .ptr .., _, _, h, _ => by simp [toV] at h
  | .sl .., _, _, h, _ => by simp [toV] at h
  | .fn f [], _, u, h, r => by
    simp only [toV] at h
    injection h with h
    obtain ⟨us, rfl, r⟩ := r
    simp [VRs] at r
    rw [← h, r]
  | .fn f (_ :: _), _, _, h, _ => by simp [toV] at h
  | .mapr .., _, _, h, _ => by simp [toV] at h
  | .rnd .., _, _, h, _ => by simp [toV] at h
  | .mv .., _, _, h, _ => by simp [toV] at h
  | .mtree .., _, _, h, _ => by simp [toV] at h
  | .iface t x, v, u, h, r => by
    simp only [toV] at h
    split at h
    · rename_i y e
      injection h with h
      obtain ⟨z, rfl, r⟩ := r
      rw [toV_VR x y z e r, h]
    · cases h
theorem toVs_VRs : ∀ (xs : List AV) (vs us : List Value), toVs xs = some vs → VRs O S w ρ xs us → us = vs
  | [], _, _, h, r => by simp only [toVs] at h; injection h with h; subst h; simpa [VRs] using r
  | c :: cs, _, us, h, r => by
    simp only [toVs] at h
    split at h
    · rename_i v e
      split at h
      · rename_i vs e'
        injection h with h
        obtain ⟨x, xs, rfl, r1, r2⟩ := r
        rw [toV_VR c v x e r1, toVs_VRs cs vs xs e' r2, h]
      · cases h
    · cases h
end

theorem ofV1_VR (v : Value) : VR O S w ρ (ofV1 v) v := by
  cases v <;> simp [ofV1, VR]
theorem VRs_map {α : Type} (f : α → AV) (g : α → Value) (l : List α) (h : ∀ a, a ∈ l → VR O S w ρ (f a) (g a)) : VRs O S w ρ (l.map f) (l.map g) := by
  induction l with
  | nil => simp [VRs]
  | cons a l ih => exact ⟨g a, l.map g, rfl, h a (by simp), ih fun b hb => h b (by simp [hb])⟩
theorem ofV2_VR (v : Value) : VR O S w ρ (ofV2 v) v := by
  cases v with
  | agg cs =>
    refine ⟨cs.toList, by simp, ?_⟩
    have := VRs_map (O := O) (S := S) (w := w) (ρ := ρ) ofV1 id cs.toList fun a _ => ofV1_VR a
    simpa using this
  | _ => (simp only [ofV2]; exact ofV1_VR _)
theorem ofV_VR (v : Value) : VR O S w ρ (ofV v) v := by
  cases v with
  | tuple vs =>
    simp only [ofV]
    split
    · rename_i e
      have : vs = #[] := by simpa using e
      subst this
      simp [VR]
    · refine ⟨vs.toList, by simp, ?_⟩
      have := VRs_map (O := O) (S := S) (w := w) (ρ := ρ) ofV2 id vs.toList fun a _ => ofV2_VR a
      simpa using this
  | _ => (simp only [ofV]; exact ofV2_VR _)

theorem VRs.length {cs : List AV} {vs : List Value} (h : VRs O S w ρ cs vs) : vs.length = cs.length := by
  induction cs generalizing vs with
  | nil => simp [VRs] at h; simp [h]
  | cons c cs ih =>
    obtain ⟨v, r, rfl, _, h⟩ := h
    simp [ih h]
theorem VRs.append {cs ds : List AV} {vs us : List Value} (h : VRs O S w ρ cs vs) (k : VRs O S w ρ ds us) : VRs O S w ρ (cs ++ ds) (vs ++ us) := by
  induction cs generalizing vs with
  | nil => simp [VRs] at h; simpa [h] using k
  | cons c cs ih =>
    obtain ⟨v, r, rfl, h1, h⟩ := h
    exact ⟨v, r ++ us, rfl, h1, ih h⟩
theorem VRs.drop {cs : List AV} {vs : List Value} (n : Nat) (h : VRs O S w ρ cs vs) : VRs O S w ρ (cs.drop n) (vs.drop n) := by
  induction n generalizing cs vs with
  | zero => simpa using h
  | succ n ih =>
    cases cs with
    | nil => simp [VRs] at h; simp [h, VRs]
    | cons c cs =>
      obtain ⟨v, r, rfl, _, h⟩ := h
      simpa using ih h
theorem VRs.take {cs : List AV} {vs : List Value} (n : Nat) (h : VRs O S w ρ cs vs) : VRs O S w ρ (cs.take n) (vs.take n) := by
  induction n generalizing cs vs with
  | zero => simp [VRs]
  | succ n ih =>
    cases cs with
    | nil => simp [VRs] at h; simp [h, VRs]
    | cons c cs =>
      obtain ⟨v, r, rfl, h1, h⟩ := h
      exact ⟨v, r.take n, by simp, h1, ih h⟩
theorem VRs.get {cs : List AV} {vs : List Value} {i : Nat} {c : AV} (h : VRs O S w ρ cs vs) (hc : cs[i]? = some c) : ∃ v, vs[i]? = some v ∧ VR O S w ρ c v := by
  induction cs generalizing vs i with
  | nil => simp at hc
  | cons d cs ih =>
    obtain ⟨v, r, rfl, h1, h⟩ := h
    cases i with
    | zero => simp at hc; subst hc; exact ⟨v, rfl, h1⟩
    | succ i => simpa using ih h (by simpa using hc)
theorem VRs.one {c : AV} {v : Value} (h : VR O S w ρ c v) : VRs O S w ρ [c] [v] := ⟨v, [], rfl, h, rfl⟩

/-- Memory that holds cells: the values that lie there. -/
theorem VRM_vals {cs : List AV} {b o : Nat} (h : VRM O S w ρ cs b o) : ∃ vs, VRs O S w ρ cs vs ∧ ∀ j v, vs[j]? = some v → w.cell? ⟨b, o + j, none⟩ = some v := by
  induction cs generalizing o with
  | nil => exact ⟨[], by simp [VRs], by simp⟩
  | cons c cs ih =>
    obtain ⟨⟨v, h1, h2⟩, h3⟩ := h
    obtain ⟨vs, h4, h5⟩ := ih h3
    refine ⟨v :: vs, ⟨v, vs, rfl, h2, h4⟩, fun j u hj => ?_⟩
    cases j with
    | zero => simp at hj; subst hj; simpa using h1
    | succ j =>
      have := h5 j u (by simpa using hj)
      rwa [show o + (j + 1) = o + 1 + j by omega]
theorem VRM_of_vals {cs : List AV} {vs : List Value} {b o : Nat} (h : VRs O S w ρ cs vs) (hc : ∀ j v, vs[j]? = some v → w.cell? ⟨b, o + j, none⟩ = some v) : VRM O S w ρ cs b o := by
  induction cs generalizing vs o with
  | nil => simp [VRM]
  | cons c cs ih =>
    obtain ⟨v, r, rfl, h1, h⟩ := h
    refine ⟨⟨v, by simpa using hc 0 v rfl, h1⟩, ih h fun j u hj => ?_⟩
    have := hc (j + 1) u (by simpa using hj)
    rwa [show o + (j + 1) = o + 1 + j by omega] at this
theorem VRM.drop {cs : List AV} {b o : Nat} (n : Nat) (h : VRM O S w ρ cs b o) : VRM O S w ρ (cs.drop n) b (o + n) := by
  obtain ⟨vs, h1, h2⟩ := VRM_vals h
  refine VRM_of_vals (h1.drop n) fun j v hj => ?_
  have := h2 (n + j) v (by simpa using hj)
  rwa [show o + (n + j) = o + n + j by omega] at this
theorem VRM.take {cs : List AV} {b o : Nat} (n : Nat) (h : VRM O S w ρ cs b o) : VRM O S w ρ (cs.take n) b o := by
  obtain ⟨vs, h1, h2⟩ := VRM_vals h
  refine VRM_of_vals (h1.take n) fun j v hj => ?_
  rw [List.getElem?_take] at hj
  split at hj
  · exact h2 j v hj
  · cases hj

theorem VRM.wide {cs : List AV} {b o : Nat} (h : VRM O S w (fun _ => none) cs b o) : VRM O S w ρ cs b o :=
  VRM.step (⟨Nat.le_refl _, fun _ _ _ => .inl rfl, fun _ _ h => h, fun _ _ h => h, fun _ _ => rfl⟩ : Step O S w O S w) (fun _ _ h => by cases h) cs b o (fun _ => rfl) h
theorem VR.wide {c : AV} {v : Value} (h : VR O S w (fun _ => none) c v) : VR O S w ρ c v :=
  VR.step (⟨Nat.le_refl _, fun _ _ _ => .inl rfl, fun _ _ h => h, fun _ _ h => h, fun _ _ => rfl⟩ : Step O S w O S w) (fun _ _ h => by cases h) c v h

theorem oneV_iff {v : Value} : oneV v = v.oneCell' := by cases v <;> rfl
theorem VR.one {x : AV} {v : Value} (hx : x.one = true) (h : VR O S w ρ x v) : v.oneCell' = true := by
  cases x <;> simp only [AV.one] at hx <;> simp only [VR] at h
  case undef => cases hx
  case int => subst h; rfl
  case bool => subst h; rfl
  case str => subst h; rfl
  case val => subst h; rw [← oneV_iff]; exact hx
  case agg => cases hx
  case tup => cases hx
  case lst => obtain ⟨a, cap, rfl, _⟩ := h; rfl
  case tptr => obtain ⟨a, rfl, _⟩ := h; rfl
  case ptr => obtain ⟨a, _, rfl⟩ := h; rfl
  case sl => obtain ⟨cb, _, h⟩ := h; rcases h with ⟨_, _, _, rfl, _⟩ | ⟨_, _, _, rfl⟩ <;> rfl
  case fn => obtain ⟨_, rfl, _⟩ := h; rfl
  case mapr => obtain ⟨_, _, rfl⟩ := h; rfl
  case mv => obtain ⟨_, rfl, _⟩ := h; rfl
  case mtree => obtain ⟨_, _, _, rfl, _⟩ := h; rfl
  case iface => obtain ⟨_, rfl, _⟩ := h; rfl
  case rnd => obtain ⟨_, _, rfl⟩ := h; rfl

theorem cells_of_one {v : Value} (h : v.oneCell' = true) : v.cells = #[v] := by cases v <;> first | rfl | (simp [Value.oneCell'] at h)

/-- The cells of a value that is stored. -/
theorem VR.cells {x : AV} {new : List AV} {v : Value} (hx : x.cells = some new) (h : VR O S w ρ x v) :
    ∃ vs, v.cells.toList = vs ∧ VRs O S w ρ new vs ∧ (∀ u, u ∈ vs → u.oneCell' = true) ∧ allOne new = true := by
  have single : ∀ {x : AV}, (match x.one with | true => some [x] | false => none) = some new → VR O S w ρ x v → ∃ vs, v.cells.toList = vs ∧ VRs O S w ρ new vs ∧ (∀ u, u ∈ vs → u.oneCell' = true) ∧ allOne new = true := by
    intro x hx h
    split at hx
    · rename_i h1
      injection hx with hx
      subst hx
      have h2 := h.one h1
      refine ⟨[v], by rw [cells_of_one h2], VRs.one h, by simpa using h2, ?_⟩
      rw [allOne_iff]
      simpa using h1
    · cases hx
  unfold AV.cells at hx
  split at hx
  · rename_i cs
    split at hx
    · rename_i h1
      injection hx with hx
      subst hx
      obtain ⟨vs, rfl, h⟩ := h
      refine ⟨vs, rfl, h, fun u hu => ?_, h1⟩
      obtain ⟨i, hi⟩ := List.getElem?_of_mem hu
      have hl := h.length
      have hlt : i < cs.length := by
        rw [← hl]
        rcases Nat.lt_or_ge i vs.length with k | k
        · exact k
        · simp [List.getElem?_eq_none k] at hi
      obtain ⟨v', e, hv⟩ := h.get (List.getElem?_eq_getElem hlt)
      rw [hi] at e
      injection e with e
      subst e
      exact hv.one (allOne_iff.1 h1 _ (List.getElem_mem hlt))
    · cases hx
  · exact single hx h
end

/-! ### Heaps -/

def Blk.alive : Blk → Prop
  | .dead => False
  | _ => True

def LS.st : LS → LoopState
  | .ready => .ready
  | .busy => .busy
  | .done => .done
/-- The jump that a round has left. -/
def PE : Option Exit → Option Code → Prop
  | none, c => c = none
  | some .ret, c => c = some .ret
  | some (.exit id), c => c = some (.exit id)
  | _, _ => False

/-- What a block of the abstract heap says of the block that stands for it. -/
def BR (O S : Nat → Prop) (w : World) (ρ : Nat → Option Nat) : Blk → Nat → Prop
  | .dead, _ => True
  | .cells e cs, cb => O cb ∧ ∃ vs ex fr, w.heap[cb]? = some (.cells (vs ++ ex).toArray e fr) ∧ (∀ i, i < vs.length + ex.length → ¬ (fr.1 ≤ i ∧ i < fr.2)) ∧ VRs O S w ρ cs vs
  | .map clock es, cb => O cb ∧ ∃ ms : Array MapEntry, w.heap[cb]? = some (.map ms clock) ∧ ms.toList.map (·.key) = es.map (·.1) ∧ ms.toList.map (·.born) = es.map (·.2.1) ∧ VRs O S w ρ (es.map (·.2.2)) (ms.toList.map (·.val))
  | .iter pos all rest, cb => O cb ∧ w.heap[cb]? = some (.stringIter ⟨all.toArray⟩ pos) ∧ rest = all.drop pos
  | .loop st pe T N D ps assign body, cb => O cb ∧ ∃ r : Loop, w.heap[cb]? = some (.loop r) ∧ r.state = st.st ∧ PE pe r.pending ∧ r.params.toList = ps ∧ r.assign = assign ∧ r.body = body ∧ r.tmps.size = N ∧
      ∀ t v, Tr.get D t T = some v → VR O S w ρ v (r.tmps.getD t undef)

structure Inv (w0 : World) (ρ : Nat → Option Nat) (O S : Nat → Prop) (h : Hp) (w : World) : Prop where
  base : RowKit.Below w0.heap.size w0 w
  dom : ∀ b cb, ρ b = some cb → b < h.nx
  blk : ∀ b cb x, ρ b = some cb → h.get b = some x → BR O S w ρ x cb
  inj : ∀ b b' cb x x', ρ b = some cb → ρ b' = some cb → h.get b = some x → h.get b' = some x' → x.alive → x'.alive → b = b'
  own : ∀ x, O x → w0.heap.size ≤ x ∧ x < w.heap.size
  lent : ∀ x, S x → w0.heap.size ≤ x ∧ x < w.heap.size

theorem BR.own {O S : Nat → Prop} {w : World} {ρ : Nat → Option Nat} {x : Blk} {cb : Nat} (h : BR O S w ρ x cb) (ha : x.alive) : O cb := by
  cases x <;> first | exact h.1 | exact ha.elim

theorem BR.step {ρ ρ' : Nat → Option Nat} {O S O' S' : Nat → Prop} {w w' : World} (E : Step O S w O' S' w') (hs : ∀ b cb, ρ b = some cb → ρ' b = some cb) {x : Blk} {cb : Nat} (ho : O' cb) (hb : w'.heap[cb]? = w.heap[cb]?) (h : BR O S w ρ x cb) : BR O' S' w' ρ' x cb := by
  cases x with
  | dead => trivial
  | cells e cs =>
    obtain ⟨_, vs, ex, fr, h1, h2, h3⟩ := h
    exact ⟨ho, vs, ex, fr, by rw [hb]; exact h1, h2, VRs.step E hs cs vs h3⟩
  | map clock es =>
    obtain ⟨_, ms, h1, h2, h3, h4⟩ := h
    exact ⟨ho, ms, by rw [hb]; exact h1, h2, h3, VRs.step E hs _ _ h4⟩
  | iter pos all rest =>
    obtain ⟨_, h1, h2⟩ := h
    exact ⟨ho, by rw [hb]; exact h1, h2⟩
  | loop st pe T N D ps assign body =>
    obtain ⟨_, r, h1, h2, h3, h4, h5, h6, h7, h8⟩ := h
    exact ⟨ho, r, by rw [hb]; exact h1, h2, h3, h4, h5, h6, h7, fun t v ht => VR.step E hs v _ (h8 t v ht)⟩

theorem lt_of_heap {w : World} {b : Nat} {o : Obj} (h : w.heap[b]? = some o) : b < w.heap.size := by
  rcases Nat.lt_or_ge b w.heap.size with k | k
  · exact k
  · simp [Array.getElem?_eq_none k] at h

theorem shape_of_heap {w w' : World} {b : Nat} (h : w'.heap[b]? = w.heap[b]?) : w'.shape? b = w.shape? b := by
  simp [World.shape?, h]

section
variable {w0 : World} {ρ : Nat → Option Nat} {O S : Nat → Prop} {h : Hp} {w : World}

/-- a new block -/
theorem Inv.new (I : Inv w0 ρ O S h w) {w' : World} {o : Obj} (hh : w'.heap = w.heap.push o) (hos : w'.os = w.os) (htp : w'.tape = w.tape) (hout : w'.output = w.output) (x : Blk)
    (hx : BR (fun y => O y ∨ y = w.heap.size) S w' (fun b => if b = h.nx then some w.heap.size else ρ b) x w.heap.size) :
    Inv w0 (fun b => if b = h.nx then some w.heap.size else ρ b) (fun y => O y ∨ y = w.heap.size) S (h.new x) w' ∧
    Ext ρ O S w (fun b => if b = h.nx then some w.heap.size else ρ b) (fun y => O y ∨ y = w.heap.size) S w' := by
  have hold : ∀ y, y < w.heap.size → w'.heap[y]? = w.heap[y]? := fun y hy => by
    rw [hh, Array.getElem?_push, if_neg (by omega)]
  have E : Ext ρ O S w (fun b => if b = h.nx then some w.heap.size else ρ b) (fun y => O y ∨ y = w.heap.size) S w' := {
    sub := fun b cb e => by
      have := I.dom b cb e
      rw [if_neg (by omega)]; exact e
    size := by rw [hh]; simp
    old := fun y hy _ => hold y hy
    own := fun y hy e => e.resolve_right (by omega)
    lent := fun _ _ e => e
    shape := fun y hy => shape_of_heap (hold y hy) }
  refine ⟨{ base := ?_, dom := ?_, blk := ?_, inj := ?_, own := ?_, lent := ?_ }, E⟩
  · exact I.base.trans ⟨hos, htp, hout, E.size, fun k hk => hold k (Nat.lt_of_lt_of_le hk I.base.size)⟩
  · intro b cb e
    rw [Hp.nx_new]
    split at e
    · omega
    · have := I.dom b cb e; omega
  · intro b cb y e hy
    rcases Hp.get_new hy with ⟨rfl, rfl⟩ | ⟨hne, hy⟩
    · simp at e
      subst e
      exact hx
    · rw [if_neg hne] at e
      have hb := I.blk b cb y e hy
      cases hal : y with
      | dead => trivial
      | _ =>
        rw [← hal]
        have ho := hb.own (by rw [hal]; trivial)
        exact hb.step E.step E.sub (Or.inl ho) (hold cb (I.own cb ho).2)
  · intro b b' cb y y' e e' hy hy' ha ha'
    rcases Hp.get_new hy with ⟨h1, h2⟩ | ⟨hne, hz⟩ <;> rcases Hp.get_new hy' with ⟨h1', h2'⟩ | ⟨hne', hz'⟩
    · rw [h1, h1']
    · rw [if_pos h1] at e
      rw [if_neg hne'] at e'
      have := (I.own cb ((I.blk b' cb y' e' hz').own ha')).2
      injection e with e
      omega
    · rw [if_pos h1'] at e'
      rw [if_neg hne] at e
      have := (I.own cb ((I.blk b cb y e hz).own ha)).2
      injection e' with e'
      omega
    · rw [if_neg hne] at e
      rw [if_neg hne'] at e'
      exact I.inj b b' cb y y' e e' hz hz' ha ha'
  · intro y hy
    rcases hy with hy | rfl
    · have := I.own y hy
      exact ⟨this.1, Nat.lt_of_lt_of_le this.2 E.size⟩
    · exact ⟨I.base.size, by rw [hh]; simp⟩
  · intro y hy
    have := I.lent y hy
    exact ⟨this.1, Nat.lt_of_lt_of_le this.2 E.size⟩

/-- a block turned in its place -/
theorem Inv.set (I : Inv w0 ρ O S h w) {w' : World} {b cb : Nat} {x x' : Blk} (hb : ρ b = some cb) (hg : h.get b = some x) (ha : x.alive) (hsz : w'.heap.size = w.heap.size) (hsh : w'.shape? cb = w.shape? cb)
    (hold : ∀ y, y ≠ cb → w'.heap[y]? = w.heap[y]?) (hos : w'.os = w.os) (htp : w'.tape = w.tape) (hout : w'.output = w.output)
    (hx : BR O S w' ρ x' cb) : Inv w0 ρ O S (h.set b x') w' ∧ Ext ρ O S w ρ O S w' := by
  have hcb := (I.blk b cb x hb hg).own ha
  have E : Ext ρ O S w ρ O S w' := {
    sub := fun _ _ e => e
    size := by omega
    old := fun y _ hy => hold y (fun e => hy (e ▸ hcb))
    own := fun _ _ e => e
    lent := fun _ _ e => e
    shape := fun y _ => by
      by_cases e : y = cb
      · rw [e]; exact hsh
      · exact shape_of_heap (hold y e) }
  refine ⟨{ base := ?_, dom := ?_, blk := ?_, inj := ?_, own := ?_, lent := ?_ }, E⟩
  · refine I.base.trans ⟨hos, htp, hout, E.size, fun k hk => hold k ?_⟩
    have := (I.own cb hcb).1
    omega
  · intro c cb' e
    rw [Hp.nx_set]
    exact I.dom c cb' e
  · intro c cb' y e hy
    rcases Hp.get_set hy with ⟨rfl, rfl⟩ | ⟨hne, hy⟩
    · rw [hb] at e
      injection e with e
      subst e
      exact hx
    · have hbr := I.blk c cb' y e hy
      cases hal : y with
      | dead => trivial
      | _ =>
        rw [← hal]
        have hay : y.alive := by rw [hal]; trivial
        refine hbr.step E.step E.sub (hbr.own hay) (hold cb' ?_)
        rintro rfl
        exact hne (I.inj c b cb' y x e hb hy hg hay ha)
  · intro c c' d y y' e e' hy hy' hay hay'
    have key : ∀ {c : Nat} {y : Blk}, (h.set b x').get c = some y → y.alive → ∃ z, h.get c = some z ∧ z.alive := by
      intro c y hy hay
      rcases Hp.get_set hy with ⟨rfl, rfl⟩ | ⟨_, hy⟩
      · exact ⟨x, hg, ha⟩
      · exact ⟨y, hy, hay⟩
    obtain ⟨z, hz, haz⟩ := key hy hay
    obtain ⟨z', hz', haz'⟩ := key hy' hay'
    exact I.inj c c' d z z' e e' hz hz' haz haz'
  · intro y hy
    rw [hsz]
    exact I.own y hy
  · intro y hy
    rw [hsz]
    exact I.lent y hy

/-- a block struck -/
theorem Inv.kill (I : Inv w0 ρ O S h w) (b : Nat) : Inv w0 ρ O S (h.set b .dead) w := by
  refine { base := I.base, dom := ?_, blk := ?_, inj := ?_, own := I.own, lent := I.lent }
  · intro c cb e
    rw [Hp.nx_set]
    exact I.dom c cb e
  · intro c cb y e hy
    rcases Hp.get_set hy with ⟨rfl, rfl⟩ | ⟨_, hy⟩
    · trivial
    · exact I.blk c cb y e hy
  · intro c c' d y y' e e' hy hy' ha ha'
    rcases Hp.get_set hy with ⟨rfl, rfl⟩ | ⟨_, hy⟩
    · exact ha.elim
    · rcases Hp.get_set hy' with ⟨rfl, rfl⟩ | ⟨_, hy'⟩
      · exact ha'.elim
      · exact I.inj c c' d y y' e e' hy hy' ha ha'

/-- a new number for the block that a struck number stood for -/
theorem Inv.again (I : Inv w0 ρ O S h w) {w' : World} {b cb : Nat} (hb : ρ b = some cb) (hO : O cb) (hd : ∀ b' x, ρ b' = some cb → h.get b' = some x → ¬ x.alive) (hsz : w'.heap.size = w.heap.size) (hsh : w'.shape? cb = w.shape? cb)
    (hold : ∀ y, y ≠ cb → w'.heap[y]? = w.heap[y]?) (hos : w'.os = w.os) (htp : w'.tape = w.tape) (hout : w'.output = w.output) (x : Blk)
    (hx : BR O S w' (fun c => if c = h.nx then some cb else ρ c) x cb) :
    Inv w0 (fun c => if c = h.nx then some cb else ρ c) O S (h.new x) w' ∧ Ext ρ O S w (fun c => if c = h.nx then some cb else ρ c) O S w' := by
  have E : Ext ρ O S w (fun c => if c = h.nx then some cb else ρ c) O S w' := {
    sub := fun c d e => by
      have := I.dom c d e
      rw [if_neg (by omega)]; exact e
    size := by omega
    old := fun y _ hy => hold y (fun e => hy (e ▸ hO))
    own := fun _ _ e => e
    lent := fun _ _ e => e
    shape := fun y _ => by
      by_cases e : y = cb
      · rw [e]; exact hsh
      · exact shape_of_heap (hold y e) }
  refine ⟨{ base := ?_, dom := ?_, blk := ?_, inj := ?_, own := ?_, lent := ?_ }, E⟩
  · refine I.base.trans ⟨hos, htp, hout, E.size, fun k hk => hold k ?_⟩
    have := (I.own cb hO).1
    omega
  · intro c d e
    rw [Hp.nx_new]
    split at e
    · omega
    · have := I.dom c d e; omega
  · intro c d y e hy
    rcases Hp.get_new hy with ⟨rfl, rfl⟩ | ⟨hne, hy⟩
    · simp at e
      subst e
      exact hx
    · rw [if_neg hne] at e
      have hbr := I.blk c d y e hy
      cases hal : y with
      | dead => trivial
      | _ =>
        rw [← hal]
        have hay : y.alive := by rw [hal]; trivial
        refine hbr.step E.step E.sub (hbr.own hay) (hold d ?_)
        rintro rfl
        exact hd c y e hy hay
  · intro c c' d y y' e e' hy hy' ha ha'
    rcases Hp.get_new hy with ⟨h1, h2⟩ | ⟨hne, hz⟩ <;> rcases Hp.get_new hy' with ⟨h1', h2'⟩ | ⟨hne', hz'⟩
    · rw [h1, h1']
    · rw [if_pos h1] at e
      rw [if_neg hne'] at e'
      injection e with e
      subst e
      exact (hd c' y' e' hz' ha').elim
    · rw [if_pos h1'] at e'
      rw [if_neg hne] at e
      injection e' with e'
      subst e'
      exact (hd c y e hz ha).elim
    · rw [if_neg hne] at e
      rw [if_neg hne'] at e'
      exact I.inj c c' d y y' e e' hz hz' ha ha'
  · intro y hy
    rw [hsz]
    exact I.own y hy
  · intro y hy
    rw [hsz]
    exact I.lent y hy

/-- a draw -/
theorem Inv.drew (I : Inv w0 ρ O S h w) : Inv w0 ρ O S h { w with drawn := w.drawn + 1 } ∧ Ext ρ O S w ρ O S { w with drawn := w.drawn + 1 } := by
  have E : Ext ρ O S w ρ O S { w with drawn := w.drawn + 1 } := ⟨fun _ _ e => e, Nat.le_refl _, fun _ _ _ => rfl, fun _ _ e => e, fun _ _ e => e, fun _ _ => rfl⟩
  exact ⟨⟨I.base.drew, I.dom, fun b cb x e hx => by
    have hb := I.blk b cb x e hx
    cases hal : x with
    | dead => trivial
    | _ => rw [← hal]; exact hb.step E.step E.sub (hb.own (by rw [hal]; trivial)) rfl, I.inj, I.own, I.lent⟩, E⟩
end
end Go.Ab
