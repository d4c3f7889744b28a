/-
  What strings.Builder asks: pointers seen as unsafe.Pointer and back, the bytes of a buffer taken as a string.
-/
import Derived.Test.YtfbnfdcbcobogaaGreatDoorAbM
import Derived.Lib.Builder
import Derived.Lib.UnsafeStr
namespace Go.Ab

section
variable {C : Ctx} {w0 : World} {ds : List Deferred} {ρ : Nat → Option Nat} {O S : Nat → Prop} {s : St} {a : Act} {w : World} {o : Oper} {v : AV} {h h' : Hp}

theorem szT_info {P : Program} {t : TypeId} {z : Nat} (h : szT P t = some z) : ∃ i, P.info? t = some i ∧ i.size = z := by
  unfold szT at h
  split at h
  · rename_i i hi
    injection h with h
    exact ⟨i, hi, h⟩
  · cases h

theorem block_shape (I : Inv w0 ρ O S h w) {b cb : Nat} {e : TypeId} {cs : List AV} (hb : ρ b = some cb) (hg : h.get b = some (.cells e cs)) : ∃ n, w.shape? cb = some (e, n) ∧ cs.length ≤ n := by
  obtain ⟨_, vs, ex, fr, h1, _, h3⟩ := I.blk b cb _ hb hg
  refine ⟨(vs ++ ex).toArray.size, by simp [World.shape?, h1], ?_⟩
  rw [← h3.length]
  simp

theorem seenAs_lies {P : Program} {e u : TypeId} (h : seenAs P e u = true) {n : Nat} (hn : P.cellsOf e ≤ n) : liesAt P P.depth e (n / P.cellsOf e) 0 u 1 = true := by
  unfold seenAs at h
  split at h
  · rename_i c d hc hd
    have hpos : 0 < P.cellsOf e := by omega
    have h1 : 1 ≤ n / P.cellsOf e := (Nat.le_div_iff_mul_le hpos).2 (by omega)
    rw [hd] at h ⊢
    have hr : rowAt P (sameLayout P (d + 1) · u) (d + 1) e (n / P.cellsOf e) 0 1 = true := by
      unfold rowAt
      simp only [Nat.zero_div, Nat.zero_mod]
      rw [if_neg (by omega)]
      simp [h, h1]
    unfold liesAt
    rw [hd, hr]
    rfl
  · cases h

theorem toUnsafe_run (I : Inv w0 ρ O S h w) {src dst t : TypeId} {z b k : Nat} {e : TypeId} {cs : List AV} {u : Value} (hs : C.P.underlying src = some (.pointer t)) (hd : C.P.underlying dst = some .unsafePointer) (hz : szT C.P t = some (z + 1))
    (hx : VR O S w ρ (.ptr b k) u) (hg : h.get b = some (.cells e cs)) (hk : k < cs.length) : (convert src dst u).run C.P w = .ok u w := by
  obtain ⟨cb, hcb, rfl⟩ := hx
  obtain ⟨i, hi, hiz⟩ := szT_info hz
  obtain ⟨n, hsh, hn⟩ := block_shape I hcb hg
  exact Lib.run_to_unsafe w ⟨cb, k, none⟩ hs hd hi (by omega) hsh (by show k < n; omega)

theorem fromUnsafe_run (I : Inv w0 ρ O S h w) {src dst t : TypeId} {z b : Nat} {e : TypeId} {cs : List AV} {u : Value} (hs : C.P.underlying src = some .unsafePointer) (hd : C.P.underlying dst = some (.pointer t)) (hz : szT C.P t = some z)
    (hx : VR O S w ρ (.ptr b 0) u) (hg : h.get b = some (.cells e cs)) (hse : seenAs C.P e t = true) (hl : C.P.cellsOf e ≤ cs.length) : (convert src dst u).run C.P w = .ok u w := by
  obtain ⟨cb, hcb, rfl⟩ := hx
  obtain ⟨i, hi, hiz⟩ := szT_info hz
  obtain ⟨n, hsh, hn⟩ := block_shape I hcb hg
  exact Lib.run_from_unsafe w ⟨cb, 0, none⟩ hs hd hi hsh (seenAs_lies hse (by omega))

theorem bytesS_some : ∀ {cs : List AV} {l : List UInt8}, bytesS cs = some l → cs = l.map byteAV := by
  intro cs
  induction cs with
  | nil => intro l e; injection e with e; subst e; rfl
  | cons c cs ih =>
    intro l e
    have e : (match byteX c with | some b => Option.rec (motive := fun _ => Option (List UInt8)) none (fun r => some (b :: r)) (bytesS cs) | none => none) = some l := e
    split at e
    · rename_i b hb
      cases hr : bytesS cs with
      | none => rw [hr] at e; cases e
      | some r =>
        rw [hr] at e
        injection e with e
        subst e
        rw [List.map_cons, ← ih hr]
        congr 1
        unfold byteX at hb
        split at hb
        · split at hb
          · rename_i m hm
            injection hb with hb
            subst hb
            have := blt_iff.1 hm
            simp only [byteAV]
            congr 2
            simp
            omega
          · cases hb
        · cases hb
    · cases e

theorem freeze_heap_ne {w : World} {g n k : Nat} (h : k ≠ g) : (w.freeze ⟨g, 0, none⟩ n).heap[k]? = w.heap[k]? := by
  unfold World.freeze
  split
  · rfl
  · simp [Array.getElem?_modify, Ne.symm h]
theorem freeze_size {w : World} {g n : Nat} : (w.freeze ⟨g, 0, none⟩ n).heap.size = w.heap.size := by
  unfold World.freeze
  split <;> simp
theorem freeze_rest {w : World} {g n : Nat} : (w.freeze ⟨g, 0, none⟩ n).os = w.os ∧ (w.freeze ⟨g, 0, none⟩ n).tape = w.tape ∧ (w.freeze ⟨g, 0, none⟩ n).output = w.output := by
  unfold World.freeze
  split <;> exact ⟨rfl, rfl, rfl⟩
theorem freeze_shape {w : World} {g n : Nat} : (w.freeze ⟨g, 0, none⟩ n).shape? g = w.shape? g := by
  unfold World.freeze
  split
  · rfl
  · simp only [World.shape?, Array.getElem?_modify, if_true]
    cases hg : w.heap[g]? with
    | none => rfl
    | some ob => cases ob <;> rfl

theorem unsafeString_run (I : Inv w0 ρ O S h w) {pt it ty e : TypeId} {b n : Nat} {cs l : List AV} {bs : List UInt8} {u : Value} {k : IntKind} (hp : C.P.underlying pt = some (.pointer e)) (hc : C.P.cellsOf e = 1) (hx : VR O S w ρ (.ptr b 0) u) (hg : h.get b = some (.cells e cs))
    (ht : takeX n cs = some l) (hb : bytesS l = some bs) (hn : n ≤ 9223372036854775807) (h0 : n ≠ 0) (hk : k = .i64) :
    ∃ w', (Builtin.unsafeString_ #[pt, it] ty #[u, .int k n]).run C.P w = .ok (.string ⟨bs.toArray⟩) w' ∧ Inv w0 ρ O S (h.set b .dead) w' ∧ Ext ρ O S w ρ O S w' := by
  subst hk
  obtain ⟨cb, hcb, rfl⟩ := hx
  obtain ⟨hle, rfl⟩ := takeX_some.1 ht
  have hl := bytesS_some hb
  have hlen : bs.length = n := by
    have := congrArg List.length hl
    simp at this
    omega
  obtain ⟨m, hsh, hm⟩ := block_shape I hcb hg
  obtain ⟨_, vs, ex, fr, hh, _, hv⟩ := I.blk b cb _ hcb hg
  have hcell : ∀ j x, bs[j]? = some x → w.cell? ((⟨cb, 0, none⟩ : Addr).add j) = some (.int .u8 x.toNat) := by
    intro j x hj
    have hjl : j < bs.length := (List.getElem?_eq_some_iff.1 hj).1
    have hcs : cs[j]? = some (byteAV x) := by
      have h1 : (cs.take n)[j]? = some (byteAV x) := by rw [hl, List.getElem?_map, hj]; rfl
      rw [List.getElem?_take] at h1
      split at h1
      · exact h1
      · cases h1
    obtain ⟨u, hu, hr⟩ := hv.get hcs
    have hr : u = .int .u8 (Int.ofNat x.toNat) := hr
    subst hr
    have hjv : j < vs.length := (List.getElem?_eq_some_iff.1 hu).1
    have ha : (⟨cb, 0, none⟩ : Addr).add j = ⟨cb, j, none⟩ := by by_cases h : j = 0 <;> simp [Addr.add, h]
    rw [ha]
    simp [World.cell?, hh, List.getElem?_append_left hjv, hu]
  have hrun := Lib.run_unsafeString_row (P := C.P) w pt it ty e hp hc cb m hsh bs (by intro e; subst e; simp at hlen; omega) (by omega) (by omega) hcell
  rw [hlen] at hrun
  obtain ⟨r1, r2, r3⟩ := freeze_rest (w := w) (g := cb) (n := n)
  obtain ⟨I', E⟩ := I.set (w' := w.freeze ⟨cb, 0, none⟩ n) (x' := .dead) hcb hg trivial freeze_size freeze_shape (fun y hy => freeze_heap_ne hy) r1 r2 r3 trivial
  exact ⟨_, hrun, I', E⟩
end
end Go.Ab
