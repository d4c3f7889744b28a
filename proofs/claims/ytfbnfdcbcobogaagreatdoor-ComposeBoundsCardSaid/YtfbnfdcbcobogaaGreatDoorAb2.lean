/-
  The relation between the abstract machine's values and heap and the model's, and how it is handed on from world to world.
-/
import Derived.Test.YtfbnfdcbcobogaaGreatDoorAb1
namespace Go.Ab

/-- Memory that is there and that the frame at work does not own ('O'), nor, unless it was lent, a caller ('S'). -/
def Stab (O S : Nat → Prop) (w : World) (q : Bool) (b : Nat) : Prop := b < w.heap.size ∧ ¬ O b ∧ (q = false → ¬ S b)

mutual
def VR (O S : Nat → Prop) (w : World) (ρ : Nat → Option Nat) : AV → Value → Prop
  | .undef, _ => True
  | .int k n, u => u = .int k n
  | .bool b, u => u = .bool b
  | .str l, u => u = .string ⟨l.toArray⟩
  | .val v, u => u = v
  | .agg cs, u => ∃ vs : List Value, u = .agg vs.toArray ∧ VRs O S w ρ cs vs
  | .tup cs, u => ∃ vs : List Value, u = .tuple vs.toArray ∧ VRs O S w ρ cs vs
  | .lst q _ n cs, u => ∃ a cap, u = .slice (some a) n cap ∧ n ≤ cap ∧ a.spot = none ∧ (cs = [] ∨ Stab O S w q a.block) ∧ VRM O S w (fun _ => none) cs a.block a.off
  | .tptr q cs, u => ∃ a : Addr, u = .pointer (some a) ∧ a.spot = none ∧ (cs = [] ∨ Stab O S w q a.block) ∧ VRM O S w (fun _ => none) cs a.block a.off
  | .ptr b o, u => ∃ cb, ρ b = some cb ∧ u = .pointer (some ⟨cb, o, none⟩)
  | .sl b o n z, u => ∃ cb, ρ b = some cb ∧ ((∃ cap e sz, u = .slice (some ⟨cb, o, none⟩) n cap ∧ n ≤ cap ∧ w.shape? cb = some (e, sz) ∧ o + cap * z ≤ sz) ∨ (n = 0 ∧ ∃ a : Addr, a.spot = none ∧ u = .slice (some a) 0 0))
  | .fn f caps, u => ∃ vs : List Value, u = .func (.func f) #[] vs.toArray ∧ VRs O S w ρ caps vs
  | .mv f fs, u => ∃ vs : List Value, u = .func (.func f) vs.toArray #[] ∧ VRs O S w ρ fs vs
  | .mapr b, u => ∃ cb, ρ b = some cb ∧ u = .map (some cb)
  | .mtree q ks vs, u => ∃ (cb : Nat) (ms : Array MapEntry) (clock : Nat), u = .map (some cb) ∧ Stab O S w q cb ∧ w.heap[cb]? = some (.map ms clock) ∧ ms.toList.map (·.key) = ks ∧ VRs O S w (fun _ => none) vs (ms.toList.map (·.val))
  | .iface t x, u => ∃ v, u = .iface t v ∧ VR O S w ρ x v
  | .rnd b, u => ∃ cb, ρ b = some cb ∧ u = .func (.yield cb) #[] #[]
def VRs (O S : Nat → Prop) (w : World) (ρ : Nat → Option Nat) : List AV → List Value → Prop
  | [], vs => vs = []
  | c :: cs, vs => ∃ v r, vs = v :: r ∧ VR O S w ρ c v ∧ VRs O S w ρ cs r
def VRM (O S : Nat → Prop) (w : World) (ρ : Nat → Option Nat) : List AV → Nat → Nat → Prop
  | [], _, _ => True
  | c :: cs, b, o => (∃ v, w.cell? ⟨b, o, none⟩ = some v ∧ VR O S w ρ c v) ∧ VRM O S w ρ cs b (o + 1)
end

/-- From one world to a later one: what is not the frame's own stands. -/
structure Ext (ρ : Nat → Option Nat) (O S : Nat → Prop) (w : World) (ρ' : Nat → Option Nat) (O' S' : Nat → Prop) (w' : World) : Prop where
  sub : ∀ b cb, ρ b = some cb → ρ' b = some cb
  size : w.heap.size ≤ w'.heap.size
  old : ∀ x, x < w.heap.size → ¬ O x → w'.heap[x]? = w.heap[x]?
  own : ∀ x, x < w.heap.size → O' x → O x
  lent : ∀ x, x < w.heap.size → S' x → S x
  shape : ∀ x, x < w.heap.size → w'.shape? x = w.shape? x

theorem Ext.refl (ρ : Nat → Option Nat) (O S : Nat → Prop) (w : World) : Ext ρ O S w ρ O S w :=
  ⟨fun _ _ h => h, Nat.le_refl _, fun _ _ _ => rfl, fun _ _ h => h, fun _ _ h => h, fun _ _ => rfl⟩

theorem Ext.trans {ρ₁ ρ₂ ρ₃ : Nat → Option Nat} {O₁ O₂ O₃ S₁ S₂ S₃ : Nat → Prop} {w₁ w₂ w₃ : World} (h : Ext ρ₁ O₁ S₁ w₁ ρ₂ O₂ S₂ w₂) (k : Ext ρ₂ O₂ S₂ w₂ ρ₃ O₃ S₃ w₃) :
    Ext ρ₁ O₁ S₁ w₁ ρ₃ O₃ S₃ w₃ where
  sub b cb e := k.sub b cb (h.sub b cb e)
  size := Nat.le_trans h.size k.size
  old x hx ho := by
    rw [k.old x (Nat.lt_of_lt_of_le hx h.size) (fun e => ho (h.own x hx e)), h.old x hx ho]
  own x hx e := h.own x hx (k.own x (Nat.lt_of_lt_of_le hx h.size) e)
  lent x hx e := h.lent x hx (k.lent x (Nat.lt_of_lt_of_le hx h.size) e)
  shape x hx := by rw [k.shape x (Nat.lt_of_lt_of_le hx h.size), h.shape x hx]

theorem cell_of_heap {w w' : World} {b : Nat} (h : w'.heap[b]? = w.heap[b]?) (o : Nat) : w'.cell? ⟨b, o, none⟩ = w.cell? ⟨b, o, none⟩ := by
  simp [World.cell?, h]

theorem shape_lt {w : World} {b : Nat} {x : TypeId × Nat} (h : w.shape? b = some x) : b < w.heap.size := by
  rcases Nat.lt_or_ge b w.heap.size with k | k
  · exact k
  · simp [World.shape?, Array.getElem?_eq_none k] at h

section
variable {ρ ρ' : Nat → Option Nat} {O S O' S' : Nat → Prop} {w w' : World}

theorem Stab.mono (E : Ext ρ O S w ρ' O' S' w') {q : Bool} {b : Nat} (h : Stab O S w q b) : Stab O' S' w' q b :=
  ⟨Nat.lt_of_lt_of_le h.1 E.size, fun e => h.2.1 (E.own b h.1 e), fun hq e => h.2.2 hq (E.lent b h.1 e)⟩

/-- A block stands as it stood; or it held deferred calls, and does so still. -/
def Kept (w w' : World) (x : Nat) : Prop := w'.heap[x]? = w.heap[x]? ∨ ∃ a b, w.heap[x]? = some (.deferred a) ∧ w'.heap[x]? = some (.deferred b)
theorem Kept.cell {x : Nat} (h : Kept w w' x) (o : Nat) : w'.cell? ⟨x, o, none⟩ = w.cell? ⟨x, o, none⟩ := by
  rcases h with h | ⟨a, b, h1, h2⟩
  · exact cell_of_heap h o
  · simp [World.cell?, h1, h2]
theorem Kept.map {x : Nat} (h : Kept w w' x) {ms : Array MapEntry} {c : Nat} (e : w.heap[x]? = some (.map ms c)) : w'.heap[x]? = some (.map ms c) := by
  rcases h with h | ⟨a, b, h1, h2⟩
  · rw [h]; exact e
  · rw [h1] at e; cases e

/-- What the recursion over a value wants of a step from world to world. -/
structure Step (O S : Nat → Prop) (w : World) (O' S' : Nat → Prop) (w' : World) : Prop where
  size : w.heap.size ≤ w'.heap.size
  old : ∀ x, x < w.heap.size → ¬ O x → Kept w w' x
  own : ∀ x, x < w.heap.size → O' x → O x
  lent : ∀ x, x < w.heap.size → S' x → S x
  shape : ∀ x, x < w.heap.size → w'.shape? x = w.shape? x

theorem Ext.step (E : Ext ρ O S w ρ' O' S' w') : Step O S w O' S' w' := ⟨E.size, fun x hx ho => .inl (E.old x hx ho), E.own, E.lent, E.shape⟩

theorem Stab.step (E : Step O S w O' S' w') {q : Bool} {b : Nat} (h : Stab O S w q b) : Stab O' S' w' q b :=
  ⟨Nat.lt_of_lt_of_le h.1 E.size, fun e => h.2.1 (E.own b h.1 e), fun hq e => h.2.2 hq (E.lent b h.1 e)⟩

mutual
theorem VR.step (E : Step O S w O' S' w') {ρ ρ' : Nat → Option Nat} (hs : ∀ b cb, ρ b = some cb → ρ' b = some cb) : ∀ (a : AV) (v : Value), VR O S w ρ a v → VR O' S' w' ρ' a v
  | .undef, _, _ => by simp [VR]
  | .int k n, _, h => by simpa [VR] using h
  | .bool b, _, h => by simpa [VR] using h
  | .str l, _, h => by simpa [VR] using h
  | .val v, _, h => by simpa [VR] using h
  | .agg cs, v, h => by
    simp only [VR] at h ⊢
    obtain ⟨vs, e, h⟩ := h
    exact ⟨vs, e, VRs.step E hs cs vs h⟩
  | .tup cs, v, h => by
    simp only [VR] at h ⊢
    obtain ⟨vs, e, h⟩ := h
    exact ⟨vs, e, VRs.step E hs cs vs h⟩
  | .lst q z n cs, v, h => by
    simp only [VR] at h ⊢
    obtain ⟨a, cap, e, hc, hsp, hst, hm⟩ := h
    refine ⟨a, cap, e, hc, hsp, hst.imp id (Stab.step E), ?_⟩
    rcases hst with rfl | hst
    · simp [VRM]
    · exact VRM.step E (fun _ _ h => h) cs a.block a.off (fun o => (E.old _ hst.1 hst.2.1).cell o) hm
  | .tptr q cs, v, h => by
    simp only [VR] at h ⊢
    obtain ⟨a, e, hsp, hst, hm⟩ := h
    refine ⟨a, e, hsp, hst.imp id (Stab.step E), ?_⟩
    rcases hst with rfl | hst
    · simp [VRM]
    · exact VRM.step E (fun _ _ h => h) cs a.block a.off (fun o => (E.old _ hst.1 hst.2.1).cell o) hm
  | .ptr b o, v, h => by
    simp only [VR] at h ⊢
    obtain ⟨cb, e, h⟩ := h
    exact ⟨cb, hs b cb e, h⟩
  | .sl b o n z, v, h => by
    simp only [VR] at h ⊢
    obtain ⟨cb, e, h⟩ := h
    refine ⟨cb, hs b cb e, ?_⟩
    rcases h with ⟨cap, t, sz, h1, h2, h3, h4⟩ | h
    · exact Or.inl ⟨cap, t, sz, h1, h2, by rw [E.shape cb (shape_lt h3)]; exact h3, h4⟩
    · exact Or.inr h
  | .fn f caps, v, h => by
    simp only [VR] at h ⊢
    obtain ⟨vs, e, h⟩ := h
    exact ⟨vs, e, VRs.step E hs caps vs h⟩
  | .mv f caps, v, h => by
    simp only [VR] at h ⊢
    obtain ⟨vs, e, h⟩ := h
    exact ⟨vs, e, VRs.step E hs caps vs h⟩
  | .mapr b, v, h => by
    simp only [VR] at h ⊢
    obtain ⟨cb, e, h⟩ := h
    exact ⟨cb, hs b cb e, h⟩
  | .mtree q ks vs, v, h => by
    simp only [VR] at h ⊢
    obtain ⟨cb, ms, clock, e, hst, hh, hk, hv⟩ := h
    exact ⟨cb, ms, clock, e, Stab.step E hst, (E.old _ hst.1 hst.2.1).map hh, hk, VRs.step E (fun _ _ h => h) vs _ hv⟩
  | .iface t x, v, h => by
    simp only [VR] at h ⊢
    obtain ⟨u, e, h⟩ := h
    exact ⟨u, e, VR.step E hs x u h⟩
  | .rnd b, v, h => by
    simp only [VR] at h ⊢
    obtain ⟨cb, e, h⟩ := h
    exact ⟨cb, hs b cb e, h⟩
theorem VRs.step (E : Step O S w O' S' w') {ρ ρ' : Nat → Option Nat} (hs : ∀ b cb, ρ b = some cb → ρ' b = some cb) : ∀ (cs : List AV) (vs : List Value), VRs O S w ρ cs vs → VRs O' S' w' ρ' cs vs
  | [], _, h => by simpa [VRs] using h
  | c :: cs, _, h => by
    simp only [VRs] at h ⊢
    obtain ⟨v, r, e, h1, h2⟩ := h
    exact ⟨v, r, e, VR.step E hs c v h1, VRs.step E hs cs r h2⟩
theorem VRM.step (E : Step O S w O' S' w') {ρ ρ' : Nat → Option Nat} (hs : ∀ b cb, ρ b = some cb → ρ' b = some cb) : ∀ (cs : List AV) (b o : Nat), (∀ o, w'.cell? ⟨b, o, none⟩ = w.cell? ⟨b, o, none⟩) → VRM O S w ρ cs b o → VRM O' S' w' ρ' cs b o
  | [], _, _, _, _ => by simp [VRM]
  | c :: cs, b, o, hc, h => by
    simp only [VRM] at h ⊢
    obtain ⟨⟨v, h1, h2⟩, h3⟩ := h
    exact ⟨⟨v, by rw [hc]; exact h1, VR.step E hs c v h2⟩, VRM.step E hs cs b (o + 1) hc h3⟩
end

theorem VR.mono (E : Ext ρ O S w ρ' O' S' w') {a : AV} {v : Value} (h : VR O S w ρ a v) : VR O' S' w' ρ' a v := VR.step E.step E.sub a v h
theorem VRs.mono (E : Ext ρ O S w ρ' O' S' w') {a : List AV} {v : List Value} (h : VRs O S w ρ a v) : VRs O' S' w' ρ' a v := VRs.step E.step E.sub a v h
end
end Go.Ab
