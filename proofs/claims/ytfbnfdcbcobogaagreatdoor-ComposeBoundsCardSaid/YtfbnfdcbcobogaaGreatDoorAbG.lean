/-
  (*strings.Builder).grow of a Builder without a buffer, wherever it lies; one cell read, one cell written.
-/
import Derived.Test.YtfbnfdcbcobogaaGreatDoorAbO
import Derived.Shelf.Strings.Builder2
namespace Go.Ab
open Go.RowKit Go.Shelf

section
variable {C : Ctx} {w0 : World} {ρ : Nat → Option Nat} {O S : Nat → Prop} {h : Hp} {w : World}

theorem VRM.cell {cs : List AV} {b o k : Nat} {x : AV} (hm : VRM O S w ρ cs b o) (hx : nth cs k = some x) : ∃ u, w.cell? ⟨b, o + k, none⟩ = some u ∧ VR O S w ρ x u := by
  obtain ⟨vs, h1, h2⟩ := VRM_vals hm
  rw [nth_eq] at hx
  obtain ⟨u, hu, hr⟩ := h1.get hx
  exact ⟨u, h2 k u hu, hr⟩

theorem Inv.cell (I : Inv w0 ρ O S h w) {b cb k : Nat} {e : TypeId} {cs : List AV} {x : AV} (hb : ρ b = some cb) (hg : h.get b = some (.cells e cs)) (hx : nth cs k = some x) : ∃ u, w.cell? ⟨cb, k, none⟩ = some u ∧ VR O S w ρ x u := by
  obtain ⟨hO, vs, ex, fr, h1, h2, h3⟩ := I.blk b cb _ hb hg
  rw [nth_eq] at hx
  obtain ⟨u, hu, hr⟩ := h3.get hx
  have hlt : k < vs.length := (List.getElem?_eq_some_iff.1 hu).1
  refine ⟨u, ?_, hr⟩
  simp only [World.cell?, h1]
  simp [List.getElem?_append_left hlt, hu]

theorem Inv.put1 (I : Inv w0 ρ O S h w) {b cb k : Nat} {e : TypeId} {cs cs' : List AV} {v : AV} {u : Value} (hb : ρ b = some cb) (hg : h.get b = some (.cells e cs)) (hs : setX cs k v = some cs') (hv : VR O S w ρ v u) :
    Inv w0 ρ O S (h.set b (.cells e cs')) (w.setCell ⟨cb, k, none⟩ u) ∧ Ext ρ O S w ρ O S (w.setCell ⟨cb, k, none⟩ u) ∧ w.frozen? ⟨cb, k, none⟩ = false := by
  obtain ⟨hO, vs, ex, fr, hh, hf, hvs⟩ := I.blk b cb _ hb hg
  obtain ⟨hle, rfl⟩ := putX_some.1 hs
  have hl := hvs.length
  have hk : k < vs.length := by simp at hle; omega
  have hlt := lt_of_heap hh
  have hset : w.setCell ⟨cb, k, none⟩ u = w.withObj cb (.cells ((vs.take k ++ [u] ++ vs.drop (k + 1)) ++ ex).toArray e fr) := by
    rw [setCell_withObj hh]
    congr 2
    have : (vs ++ ex).set k u = vs.take k ++ [u] ++ vs.drop (k + 1) ++ ex := by
      rw [List.set_append_left _ _ hk, List.set_eq_take_append_cons_drop, if_pos hk]
      simp
    rw [this]
  have hsh : (w.withObj cb (.cells ((vs.take k ++ [u] ++ vs.drop (k + 1)) ++ ex).toArray e fr)).shape? cb = w.shape? cb := by
    simp [World.shape?, withObj_at hlt, hh]; omega
  have E' : Step O S w O S (w.withObj cb (.cells ((vs.take k ++ [u] ++ vs.drop (k + 1)) ++ ex).toArray e fr)) := {
    size := by rw [withObj_size]; exact Nat.le_refl _
    old := fun y _ hy => .inl (withObj_ne (fun e => hy (e ▸ hO)))
    own := fun _ _ e => e
    lent := fun _ _ e => e
    shape := fun y _ => by
      by_cases e : y = cb
      · subst e; exact hsh
      · exact shape_of_heap (withObj_ne e) }
  have h2 : VRs O S w ρ [v] [u] := ⟨u, [], rfl, hv, rfl⟩
  have hx' : BR O S (w.withObj cb (.cells ((vs.take k ++ [u] ++ vs.drop (k + 1)) ++ ex).toArray e fr)) ρ (.cells e (cs.take k ++ [v] ++ cs.drop (k + [v].length))) cb := by
    refine ⟨hO, _, ex, fr, withObj_at hlt, ?_, VRs.step E' (fun _ _ e => e) _ _ (((hvs.take k).append h2).append (hvs.drop _))⟩
    intro i hi
    refine hf i ?_
    simp at hi
    omega
  obtain ⟨I', E⟩ := I.set hb hg trivial withObj_size hsh (fun y hy => withObj_ne hy) rfl rfl rfl hx'
  refine ⟨by rw [hset]; exact I', by rw [hset]; exact E, ?_⟩
  have := hf k (by omega)
  simp only [World.frozen?, hh]
  simpa using this
end

set_option maxHeartbeats 2000000 in
set_option maxRecDepth 1000000 in
theorem grow_cell {P : Program} {ρ : Ren} (L : Go.Proofs.Lays.n241 P ρ) (X : Go.Proofs.Builder.Extra P ρ) (b n : Nat) (w : World) (c0 : w.cell? ⟨b, 1, none⟩ = some (.slice none 0 0)) (f0 : w.frozen? ⟨b, 1, none⟩ = false) (hn : n ≤ 281474976710656) :
    Calls P (ρ.f 241) #[.pointer (some ⟨b, 0, none⟩), .int .i64 n] w fun e w' => e = .returned (.tuple #[]) ∧
      ∃ cs : Array Value, w' = ((w.setCell ⟨b, 1, none⟩ (.slice (some ⟨w.heap.size, 0, none⟩) 0 cs.size)).alloc (.cells cs (ρ.t 5))).drew.drew.drew := by
  obtain ⟨cs, hrun, hle, hmax⟩ := Lib.run_makeNoZero (P := P) w.drew #[(ρ.t 3)] (ρ.t 37) (ρ.t 5) L.t37 n hn
  have hw : IntKind.i64.wrap (IntKind.i64.wrap 0 + (n : Int)) = n := by
    rw [IntKind.wrap_i64, IntKind.wrap_i64]
    omega
  have hcall : (callFunc (ρ.f 277) #[.int .i64 (IntKind.i64.wrap (IntKind.i64.wrap 0 + (n : Int)))]).run P w.drew = .ok (.value (.slice (some ⟨w.drew.heap.size, 0, none⟩) n cs.size)) (w.drew.drew.drew.alloc (.cells cs (ρ.t 5))) := by
    rw [hw, run_callFunc_extern L.f277 (by kernel_rfl) (by kernel_rfl) (by kernel_rfl) (e := Extern.BytealgMakeNoZero.makeNoZero #[(ρ.t 3)] #[(ρ.t 37)]) (by kernel_rfl), hrun]
    rfl
  have hlt : b < w.heap.size := by
    rcases Nat.lt_or_ge b w.heap.size with h' | h'
    · exact h'
    · simp [World.cell?, Array.getElem?_eq_none h'] at c0
  have c1 : w.drew.cell? ⟨b, 1, none⟩ = some (.slice none 0 0) := c0
  have hold : (w.alloc (.cells cs (ρ.t 5))).heap[b]? = w.heap[b]? := Lib.alloc_old w _ b hlt
  have c2 : (w.alloc (.cells cs (ρ.t 5))).cell? ⟨b, 1, none⟩ = some (.slice none 0 0) := by
    rw [cell_of_heap hold]; exact c0
  have f2 : (w.alloc (.cells cs (ρ.t 5))).frozen? ⟨b, 1, none⟩ = false := by
    have : (w.alloc (.cells cs (ρ.t 5))).frozen? ⟨b, 1, none⟩ = w.frozen? ⟨b, 1, none⟩ := by simp only [World.frozen?, hold]
    rw [this]; exact f0
  have hcopy : ∀ W : World, (Builtin.copy_ #[(ρ.t 37), (ρ.t 37)] (ρ.t 3) #[.slice (some ⟨w.heap.size, 0, none⟩) 0 cs.size, .slice none 0 0]).run P W = .ok (goInt 0) W :=
    fun W => run_copy_none W (ρ.t 37) (ρ.t 37) (ρ.t 3) (ρ.t 5) _ _ 0 cs.size 0 0 L.t37 X.sizeByte rfl
  clear hw
  have mixed := L.mixed
  have t72 := L.t72; have a72 := L.a72; have z72 := L.z72; have v72 := L.v72; have u72 := run_underlying L.t72
  have t70 := L.t70; have a70 := L.a70; have z70 := L.z70; have v70 := L.v70; have u70 := run_underlying L.t70
  have t37 := L.t37; have a37 := L.a37; have z37 := L.z37; have v37 := L.v37; have u37 := run_underlying L.t37
  have t3 := L.t3; have a3 := L.a3; have z3 := L.z3; have v3 := L.v3; have u3 := run_underlying L.t3
  have t5 := X.t5; have a5 := X.a5; have z5 := X.z5; have v5 := X.v5; have u5 := run_underlying X.t5
  go_enter L.f241, Go.Proofs.Body.n241_ntmps ρ
  go_wp2
  go_region_o
  all_goals (go_wp2; go_end0; exact ⟨rfl, cs, rfl⟩)
end Go.Ab
