/-
  (*sync.Once).Do of a Once that has not been done: the lock is taken, the function called, the Once marked as done, the lock given back.
-/
import Derived.Test.YtfbnfdcbcobogaaGreatDoorProg
import Derived.Test.YtfbnfdcbcobogaaGreatDoorAbK
import Derived.WalkKit
import Derived.ProofKit
import Derived.Conc.MuLone
import Derived.Laws.LoneSync
import Derived.KernelRfl
import Derived.Deep.RegionWith
import Derived.Defers
import Derived.Test.YtfbnfdcbcobogaaGreatDoorAbG
namespace Go.Proofs.YtfbnfdcbcobogaaGreatDoor
open Go Go.RowKit Go.ChangeAt
set_option maxRecDepth 100000
theorem r0 (w : World) : (callFunc 334 #[]).run Tryz.prog w = .ok (.value (.tuple #[])) w := run_call_mark0 Tryz.func334 (by kernel_rfl) (by kernel_rfl) (by kernel_rfl) .disable (by kernel_rfl) w
theorem r1 (w : World) : (callFunc 336 #[]).run Tryz.prog w = .ok (.value (.tuple #[])) w := run_call_mark0 Tryz.func336 (by kernel_rfl) (by kernel_rfl) (by kernel_rfl) .enable (by kernel_rfl) w
theorem r2 (a : Addr) (w : World) : (callFunc 337 #[.pointer (some a)]).run Tryz.prog w = .ok (.value (.tuple #[])) w := run_call_marked Tryz.func337 (by kernel_rfl) (by kernel_rfl) (by kernel_rfl) .acquire (by kernel_rfl) a w
theorem r3 (a : Addr) (w : World) : (callFunc 339 #[.pointer (some a)]).run Tryz.prog w = .ok (.value (.tuple #[])) w := run_call_marked Tryz.func339 (by kernel_rfl) (by kernel_rfl) (by kernel_rfl) .releaseMerge (by kernel_rfl) a w
set_option maxHeartbeats 800000 in
theorem ilock (a : Addr) (w : World) (hc : w.cell? a = some (.int .i32 0)) (hz : w.frozen? a = false) :
    Calls Tryz.prog 324 #[.pointer (some a)] w fun e w' => e = .returned (.tuple #[]) ∧ w' = w.setCell a (.int .i32 1) := by
  have hd := r0
  have he := r1
  have ha := r2
  have hcas := run_call_cas_hit (P := Tryz.prog) Tryz.func335 (by kernel_rfl) (by kernel_rfl) (by kernel_rfl) .i32 (by kernel_rfl) (y := 1) hc hz
  have hc' : (w.setCell a (.int .i32 1)).cell? a = some (.int .i32 1) := by simp [go_sem, hc]
  have hcv := run_convert_to_unsafe (P := Tryz.prog) (src := 364) (dst := 237) Tryz.underlying364 Tryz.underlying237 (by kernel_rfl) hc'
  go_enter Tryz.func324, Tryz.ntmps324
  go_wp2
  refine bodyPost_ret (results_none rfl _ _ _) rfl ?_
  exact ⟨rfl, rfl⟩
set_option maxHeartbeats 800000 in
theorem iunlock (a : Addr) (w : World) (hc : w.cell? a = some (.int .i32 1)) (hz : w.frozen? a = false) :
    Calls Tryz.prog 325 #[.pointer (some a)] w fun e w' => e = .returned (.tuple #[]) ∧ w' = w.setCell a (.int .i32 0) := by
  have hd := r0
  have he := r1
  have hr := r3
  have hcv := run_convert_to_unsafe (P := Tryz.prog) (src := 364) (dst := 237) Tryz.underlying364 Tryz.underlying237 (by kernel_rfl) hc
  have hadd := run_call_add (P := Tryz.prog) Tryz.func340 (by kernel_rfl) (by kernel_rfl) (by kernel_rfl) .i32 (by kernel_rfl) (y := -1) (s := 0) hc hz (by simp [go_sem]; rfl)
  go_enter Tryz.func325, Tryz.ntmps325
  go_wp2
  go_end0
  exact ⟨rfl, rfl⟩
set_option maxHeartbeats 800000 in
theorem lock (a : Addr) (w : World) (hc : w.cell? a = some (.int .i32 0)) (hz : w.frozen? a = false) :
    Calls Tryz.prog 313 #[.pointer (some a)] w fun e w' => e = .returned (.tuple #[]) ∧ w' = w.setCell a (.int .i32 1) := by
  go_enter Tryz.func313, Tryz.ntmps313
  go_wp2_with (go_at_call 324; refine (ilock a _ hc hz).mono ?_; rintro e w' ⟨rfl, rfl⟩)
  go_end0
  exact ⟨rfl, rfl⟩
set_option maxHeartbeats 800000 in
theorem unlock_d (a : Addr) (u : FrameMode) (w : World) (hc : w.cell? a = some (.int .i32 1)) (hz : w.frozen? a = false) :
    CallsD Tryz.prog 314 #[.pointer (some a)] u w fun e u' w' => u' = u ∧ (e = .returned (.tuple #[]) ∧ w' = w.setCell a (.int .i32 0)) := by
  go_enter_d Tryz.func314, Tryz.ntmps314
  go_wp2_with (go_at_call 325; refine (iunlock a _ hc hz).mono ?_; rintro e w' ⟨rfl, rfl⟩)
  go_end0
  exact ⟨rfl, rfl⟩
set_option maxHeartbeats 800000 in
theorem bload (a : Addr) (w : World) (hc : w.cell? a = some (.int .u32 0)) :
    Calls Tryz.prog 271 #[.pointer (some a)] w fun e w' => e = .returned (.bool false) ∧ w' = w := by
  have hl := run_call_load (P := Tryz.prog) Tryz.func312 (by kernel_rfl) (by kernel_rfl) (by kernel_rfl) .u32 (by kernel_rfl) hc
  go_enter Tryz.func271, Tryz.ntmps271
  go_wp2
  go_ret
  exact ⟨rfl, rfl⟩
set_option maxHeartbeats 800000 in
theorem b32_true (w : World) : Calls Tryz.prog 327 #[.bool true] w fun e w' => e = .returned (.int .u32 1) ∧ w' = w := by
  go_enter Tryz.func327, Tryz.ntmps327
  go_wp2
  go_ret
  exact ⟨rfl, rfl⟩
set_option maxHeartbeats 800000 in
theorem bstore_d (a : Addr) (u : FrameMode) (w : World) (v : Value) (hc : w.cell? a = some v) (hz : w.frozen? a = false) :
    CallsD Tryz.prog 315 #[.pointer (some a), .bool true] u w fun e u' w' => u' = u ∧ (e = .returned (.tuple #[]) ∧ w' = (w.setCell a (.int .u32 1)).drew) := by
  have hs : ∀ w : World, w.cell? a = some v → w.frozen? a = false → _ := fun w h1 h2 => run_call_store (P := Tryz.prog) Tryz.func326 (by kernel_rfl) (by kernel_rfl) (by kernel_rfl) (by kernel_rfl) (k := .u32) (y := 1) h1 h2
  have hs1 := hs w hc hz
  have hs2 := hs w.drew hc hz
  clear hs
  have mixed : Tryz.prog.follows Departure.mixedOrders = true := by kernel_rfl
  go_enter_d Tryz.func315, Tryz.ntmps315
  go_wp2
  go_region_with (go_at_call 327; refine (b32_true _).mono ?_; rintro e w' ⟨rfl, rfl⟩)
  all_goals (go_wp2; go_end0; first | exact ⟨rfl, rfl, rfl⟩ | exact ⟨rfl, rfl⟩ | rfl)
set_option maxHeartbeats 800000 in
/-- doSlow, over what the function that is handed in does. -/
theorem doSlow (cb o g : Nat) (fs caps : Array Value) (w : World) (hd : w.cell? ⟨cb, o, none⟩ = some (.int .u32 0)) (hl : w.cell? ⟨cb, o + 1, none⟩ = some (.int .i32 0)) (hz : w.frozen? ⟨cb, o + 1, none⟩ = false)
    (R : World → Prop) (hen : ∀ args w, (callFunc g args).run Tryz.prog w = .ok (.enter g args) w)
    (hg : Calls Tryz.prog g (fs ++ caps) (w.setCell ⟨cb, o + 1, none⟩ (.int .i32 1)) fun e w1 => (∃ v, e = .returned v) ∧ R w1 ∧ (∃ x, w1.cell? ⟨cb, o, none⟩ = some x) ∧ w1.frozen? ⟨cb, o, none⟩ = false ∧ w1.cell? ⟨cb, o + 1, none⟩ = some (.int .i32 1) ∧ w1.frozen? ⟨cb, o + 1, none⟩ = false) :
    Calls Tryz.prog 272 #[.pointer (some ⟨cb, o, none⟩), .func (.func g) fs caps] w fun e w' => e = .returned (.tuple #[]) ∧ ∃ w1, R w1 ∧ w' = ((w1.setCell ⟨cb, o, none⟩ (.int .u32 1)).drew).setCell ⟨cb, o + 1, none⟩ (.int .i32 0) := by
  have hd1 : (w.setCell ⟨cb, o + 1, none⟩ (.int .i32 1)).cell? ⟨cb, o, none⟩ = some (.int .u32 0) := (World.cell?_setCell_other _ _ _ _ (by simp)).trans hd
  go_enter_defers Tryz.func272, Tryz.ntmps272
  go_wp2_with (first | (go_at_call 313; refine (lock _ _ hl hz).mono ?_; rintro e w' ⟨rfl, rfl⟩) | (go_at_call 271; refine (bload _ _ hd1).mono ?_; rintro e w' ⟨rfl, rfl⟩))
  refine hg.mono ?_
  rintro e w1 ⟨⟨v, rfl⟩, hR, ⟨x, hx⟩, hz0, hx1, hz1⟩
  go_wp2
  refine leaves_cons (f := 315) (args := #[.pointer (some ⟨cb, o, none⟩), .bool true]) (by simp) (by simp [go_sem]) ?_
  refine (bstore_d _ .returning _ _ hx hz0).mono ?_
  rintro e u' w2 ⟨rfl, rfl, rfl⟩
  have hne : (⟨cb, o, none⟩ : Addr) ≠ ⟨cb, o + 1, none⟩ := by simp
  have hc2 : ((w1.setCell ⟨cb, o, none⟩ (.int .u32 1)).drew).cell? ⟨cb, o + 1, none⟩ = some (.int .i32 1) := (World.cell?_setCell_other _ _ _ _ hne).trans hx1
  have hz2 : ((w1.setCell ⟨cb, o, none⟩ (.int .u32 1)).drew).frozen? ⟨cb, o + 1, none⟩ = false := by
    have : ((w1.setCell ⟨cb, o, none⟩ (.int .u32 1)).drew).frozen? ⟨cb, o + 1, none⟩ = w1.frozen? ⟨cb, o + 1, none⟩ := by simp [go_sem]
    rw [this]; exact hz1
  refine leaves_cons (f := 314) (args := #[.pointer (some ⟨cb, o + 1, none⟩)]) (by simp [settle]) (by simp [go_sem]) ?_
  refine (unlock_d _ .returning _ hc2 hz2).mono ?_
  rintro e u' w3 ⟨rfl, rfl, rfl⟩
  exact ⟨_, results_none rfl _ _ _, rfl, w1, hR, rfl⟩

set_option maxHeartbeats 800000 in
theorem once_do (cb o g : Nat) (fs caps : Array Value) (w : World) (hd : w.cell? ⟨cb, o, none⟩ = some (.int .u32 0)) (hl : w.cell? ⟨cb, o + 1, none⟩ = some (.int .i32 0)) (hz : w.frozen? ⟨cb, o + 1, none⟩ = false)
    (R : World → Prop) (hen : ∀ args w, (callFunc g args).run Tryz.prog w = .ok (.enter g args) w)
    (hg : Calls Tryz.prog g (fs ++ caps) (w.setCell ⟨cb, o + 1, none⟩ (.int .i32 1)) fun e w1 => (∃ v, e = .returned v) ∧ R w1 ∧ (∃ x, w1.cell? ⟨cb, o, none⟩ = some x) ∧ w1.frozen? ⟨cb, o, none⟩ = false ∧ w1.cell? ⟨cb, o + 1, none⟩ = some (.int .i32 1) ∧ w1.frozen? ⟨cb, o + 1, none⟩ = false) :
    Calls Tryz.prog 207 #[.pointer (some ⟨cb, o, none⟩), .func (.func g) fs caps] w fun e w' => e = .returned (.tuple #[]) ∧ ∃ w1, R w1 ∧ w' = ((w1.setCell ⟨cb, o, none⟩ (.int .u32 1)).drew).setCell ⟨cb, o + 1, none⟩ (.int .i32 0) := by
  have H := doSlow cb o g fs caps w hd hl hz R hen hg
  clear hg hen
  go_enter Tryz.func207, Tryz.ntmps207
  go_wp2_with (go_at_call 271; refine (bload _ _ hd).mono ?_; rintro e w' ⟨rfl, rfl⟩)
  refine H.mono ?_
  rintro e w' ⟨rfl, w1, hR, rfl⟩
  go_wp2
  go_end0
  exact ⟨rfl, w1, hR, rfl⟩

open Go.Ab
theorem isU32_eq {d : AV} {m : Nat} (h : isU32 d m = true) : d = .int .u32 (.ofNat m) := by
  unfold isU32 at h
  split at h
  · split at h
    · rw [eqI_eq] at h
      rw [eq_of_beq h]
    · cases h
  · cases h
theorem isI32_eq {d : AV} {m : Nat} (h : isI32 d m = true) : d = .int .i32 (.ofNat m) := by
  unfold isI32 at h
  split at h
  · split at h
    · rw [eqI_eq] at h
      rw [eq_of_beq h]
    · cases h
  · cases h

theorem onceA_ok {C : Ctx} {w0 : World} (hP : C.P = Tryz.prog) {call : FuncId → List AV → Hp → Option (AV × Hp)} (H : Callees C w0 call) : CallOK C w0 207 (onceA call) := by
  intro args h r h' e ρ O S w vs I hv
  unfold onceA at e
  split at e
  case h_2 => cases e
  rename_i b o fv
  split at e
  case h_2 => cases e
  rename_i ty cs hg
  split at e
  case h_2 => cases e
  rename_i d l hnd hnl
  split at e
  case h_2 => cases e
  rename_i hd hl
  have hd := isU32_eq hd
  have hl := isI32_eq hl
  subst hd hl
  split at e
  case h_2 => cases e
  rename_i cs1 hcs1
  split at e
  case h_2 => cases e
  rename_i rv h2 hcall
  split at e
  case h_2 => cases e
  rename_i ty2 cs2 hg2
  split at e
  case h_2 => cases e
  rename_i l2 hnl2
  split at e
  case h_2 => cases e
  rename_i hl2
  have hl2 := isI32_eq hl2
  subst hl2
  split at e
  case h_2 => cases e
  rename_i cs3 hcs3
  split at e
  case h_2 => cases e
  rename_i cs4 hcs4
  simp only [Option.some.injEq, Prod.mk.injEq] at e
  obtain ⟨rfl, rfl⟩ := e
  obtain ⟨v1, _, rfl, h1, v2, _, rfl, hf, rfl⟩ := hv
  obtain ⟨cb, hcb, rfl⟩ := h1
  obtain ⟨u1, hu1, hr1⟩ := I.cell hcb hg hnd
  obtain ⟨u2, hu2, hr2⟩ := I.cell hcb hg hnl
  simp only [VR] at hr1 hr2
  subst hr1 hr2
  obtain ⟨I1, E1, hz⟩ := I.put1 (u := .int .i32 1) hcb hg hcs1 rfl
  -- what the function that is handed in does
  have main : ∀ (g : Nat) (fs caps : List Value) (xs : List AV), g ≠ rndF → call g xs (h.set b (.cells ty cs1)) = some (rv, h2) → VRs O S w ρ xs (fs ++ caps) → v2 = .func (.func g) fs.toArray caps.toArray →
      Calls C.P 207 #[.pointer (some ⟨cb, o, none⟩), v2] w fun e w' => ∃ v ρ' O', e = .returned v ∧ Inv w0 ρ' O' S ((h2.set b (.cells ty2 cs3)).set b (.cells ty2 cs4)) w' ∧ VR O' S w' ρ' (.tup []) v ∧ Ext ρ O S w ρ' O' S w' := by
    intro g fs caps xs hne hc hvs hv2
    subst hv2
    have hen := H.ent g _ _ _ hne hc
    have hcalls := H.ok g hne _ _ _ _ hc ρ O S _ _ I1 (hvs.mono E1)
    rw [hP] at hcalls hen ⊢
    have e1 : (fs ++ caps).toArray = fs.toArray ++ caps.toArray := by simp
    rw [e1] at hcalls
    refine (once_do cb o g fs.toArray caps.toArray w hu1 hu2 hz (fun w1 => ∃ ρ' O', Inv w0 ρ' O' S h2 w1 ∧ ρ' b = some cb ∧ Ext ρ O S w ρ' O' S w1) (fun args w => run_callFunc hen args w) (hcalls.mono ?_)).mono ?_
    · rintro e w1 ⟨v, ρ', O', rfl, I2, _, E2⟩
      have hcb2 := E2.sub b cb hcb
      have hx : ∃ a0, nth cs2 o = some a0 := by
        obtain ⟨hle, _⟩ := putX_some.1 hcs3
        rw [nth_eq]
        exact ⟨_, List.getElem?_eq_getElem (by simp at hle; omega)⟩
      obtain ⟨a0, ha0⟩ := hx
      obtain ⟨x0, hx0, _⟩ := I2.cell hcb2 hg2 ha0
      obtain ⟨x1, hx1, hrx1⟩ := I2.cell hcb2 hg2 hnl2
      simp only [VR] at hrx1
      subst hrx1
      obtain ⟨_, _, z0⟩ := I2.put1 (u := .int .u32 1) hcb2 hg2 hcs3 rfl
      have hcs3' : ∃ c, setX cs2 (o + 1) (.int .i32 (.ofNat 1)) = some c := by
        have hlt := (List.getElem?_eq_some_iff.1 (by rw [← nth_eq]; exact hnl2 : cs2[o + 1]? = some _)).1
        exact ⟨_, putX_some.2 ⟨by simp; omega, rfl⟩⟩
      obtain ⟨c, hc3⟩ := hcs3'
      obtain ⟨_, _, z1⟩ := I2.put1 (u := .int .i32 1) hcb2 hg2 hc3 rfl
      exact ⟨⟨v, rfl⟩, ⟨ρ', O', I2, hcb2, E1.trans E2⟩, ⟨x0, hx0⟩, z0, hx1, z1⟩
    · rintro e w' ⟨rfl, w1, ⟨ρ', O', I2, hcb2, E2⟩, rfl⟩
      obtain ⟨I3, E3, _⟩ := I2.put1 (u := .int .u32 1) hcb2 hg2 hcs3 rfl
      obtain ⟨I4, E4⟩ := I3.drew
      have hg3 : (h2.set b (.cells ty2 cs3)).get b = some (.cells ty2 cs3) := Hp.get_set_same hg2
      obtain ⟨I5, E5, _⟩ := I4.put1 (u := .int .i32 0) hcb2 hg3 hcs4 rfl
      exact ⟨_, ρ', O', rfl, I5, ⟨[], rfl, rfl⟩, ((E2.trans E3).trans E4).trans E5⟩
  split at hcall
  · rename_i g caps
    split at hcall
    · cases hcall
    · rename_i hne
      obtain ⟨cv, rfl, hcv⟩ := hf
      exact main g [] cv caps (ne_rnd hne) hcall hcv rfl
  · rename_i g fs
    split at hcall
    · cases hcall
    · rename_i hne
      obtain ⟨cv, rfl, hcv⟩ := hf
      exact main g cv [] fs (ne_rnd hne) hcall (by rw [List.append_nil]; exact hcv) rfl
  · cases hcall
end Go.Proofs.YtfbnfdcbcobogaaGreatDoor
