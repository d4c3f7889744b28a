/-
  What is known of pure calls: tables that stand for whole runs of the abstract machine.
-/
import Derived.Test.YtfbnfdcbcobogaaGreatDoorAbH
namespace Go.Ab

/-- n bytes out of a number, the lowest first. -/
noncomputable def dec (n : Nat) : Nat → List UInt8 :=
  Nat.rec (motive := fun _ => Nat → List UInt8) (fun _ => []) (fun _ ih k => UInt8.ofNat (Nat.mod k 256) :: ih (Nat.div k 256)) n

theorem eqB_eq {a b : Bool} (h : eqB a b = true) : a = b := by
  cases a <;> cases b <;> first | rfl | cases h
theorem beq_eq {a b : Nat} (h : Nat.beq a b = true) : a = b := Nat.eq_of_beq_eq_true h
theorem eqVal_eq {a b : Value} (h : eqVal a b = true) : a = b := by
  unfold eqVal at h
  split at h
  · split at h
    · rename_i hk
      have hk := keq_eq hk
      rw [eqI_eq] at h
      have := eq_of_beq h
      rw [hk, this]
    · cases h
  · rename_i s t
    rw [eqL_eq] at h
    have h := eq_of_beq h
    obtain ⟨⟨s⟩⟩ := s
    obtain ⟨⟨t⟩⟩ := t
    simp only at h
    rw [h]
  · split at h
    · rename_i h1
      rw [beq_eq h1, beq_eq h]
    · cases h
  · rfl
  · rfl
  · rfl
  · rfl
  · cases h
theorem eqVals_eq : ∀ {a b : List Value}, eqVals a b = true → a = b := by
  intro a
  induction a with
  | nil => intro b h; cases b with
    | nil => rfl
    | cons => cases h
  | cons x a ih =>
    intro b h
    cases b with
    | nil => cases h
    | cons y b =>
      unfold eqVals at h
      split at h
      · rename_i h1
        rw [eqVal_eq h1, ih h]
      · cases h

mutual
theorem eqAV_eq : ∀ (d : Nat) (a b : AV), eqAV d a b = true → a = b
  | 0, _, _, h => by simp [eqAV] at h
  | d + 1, a, b, h => by
    unfold eqAV at h
    split at h
    · split at h
      · split at h
        · rename_i hk
          have hk := keq_eq hk
          rw [eqI_eq] at h
          rw [hk, eq_of_beq h]
        · cases h
      · cases h
    · split at h
      · rw [eqB_eq h]
      · cases h
    · split at h
      · rw [eqL_eq] at h
        rw [eq_of_beq h]
      · cases h
    · split at h
      · rw [eqVal_eq h]
      · cases h
    · split at h
      · rw [eqAVs_eq d _ _ h]
      · cases h
    · split at h
      · rw [eqAVs_eq d _ _ h]
      · cases h
    · split at h
      · split at h
        · rename_i h1 h2 h3
          rw [eqB_eq h1, beq_eq h2, beq_eq h3, eqAVs_eq d _ _ h]
        · cases h
      · cases h
    · split at h
      · split at h
        · rename_i h1
          rw [eqB_eq h1, eqAVs_eq d _ _ h]
        · cases h
      · cases h
    · split at h
      · split at h
        · rename_i h1 h2
          rw [eqB_eq h1, eqVals_eq h2, eqAVs_eq d _ _ h]
        · cases h
      · cases h
    · split at h
      · split at h
        · rename_i h1
          rw [beq_eq h1, eqAVs_eq d _ _ h]
        · cases h
      · cases h
    · split at h
      · split at h
        · rename_i h1
          rw [beq_eq h1, eqAVs_eq d _ _ h]
        · cases h
      · cases h
    · split at h
      · split at h
        · rename_i h1
          rw [beq_eq h1, eqAV_eq d _ _ h]
        · cases h
      · cases h
    · cases h
theorem eqAVs_eq : ∀ (d : Nat) (a b : List AV), eqAVs d a b = true → a = b
  | 0, _, _, h => by simp [eqAVs] at h
  | d + 1, a, b, h => by
    unfold eqAVs at h
    split at h
    · split at h
      · rfl
      · cases h
    · split at h
      · split at h
        · rename_i h1
          rw [eqAV_eq d _ _ h1, eqAVs_eq d _ _ h]
        · cases h
      · cases h
end

/-- What an entry claims. -/
def EntOK (P : Program) (w0 : World) (f : FuncId) (args : List AV) (r : AV) : Prop :=
  ∀ S w vs, Inv w0 (fun _ => none) (fun _ => False) S Hp.empty w → VRs (fun _ => False) S w (fun _ => none) args vs →
    Calls P f vs.toArray w fun e w' => ∃ v ρ' O', e = .returned v ∧ Inv w0 ρ' O' S Hp.empty w' ∧ VR O' S w' ρ' r v ∧ Ext (fun _ => none) (fun _ => False) S w ρ' O' S w'

theorem ent_ok {C : Ctx} {w0 : World} {n : Nat} (H : Callees C w0 (callN C n)) {e : MemoE} (hp : C.pure e.f = true) (hne : e.f ≠ rndF) (h : isRes e.res (callN C n e.f e.args Hp.empty) = true) : EntOK C.P w0 e.f e.args e.res := by
  unfold isRes at h
  split at h
  · rename_i v k hv
    have := eqAV_eq _ _ _ h
    subst this
    obtain ⟨rfl, _⟩ := H.pure _ _ _ _ _ hp hv
    intro S w vs I hr
    exact H.ok e.f hne _ _ _ _ hv _ _ S w vs I hr
  · cases h

theorem lookM_cons (e : MemoE) (l : List MemoE) (f : FuncId) (args : List AV) : lookM (e :: l) f args = match Nat.beq e.f f with
    | true => match eqAVs lendD args e.args with
      | true => some e.res
      | false => lookM l f args
    | false => lookM l f args := rfl
theorem look_ok {P : Program} {w0 : World} : ∀ (l : List MemoE), (∀ e, e ∈ l → EntOK P w0 e.f e.args e.res) → ∀ f args r, lookM l f args = some r → EntOK P w0 f args r := by
  intro l
  induction l with
  | nil => intro _ f args r h; cases h
  | cons e l ih =>
    intro hl f args r h
    rw [lookM_cons] at h
    split at h
    · rename_i hf
      split at h
      · rename_i ha
        injection h with h
        subst h
        rw [← beq_eq hf, eqAVs_eq _ _ _ ha]
        exact hl e (List.mem_cons_self ..)
      · exact ih (fun x hx => hl x (List.mem_cons_of_mem _ hx)) f args r h
    · exact ih (fun x hx => hl x (List.mem_cons_of_mem _ hx)) f args r h

/-- The context with a table. -/
noncomputable def Ctx.with (C : Ctx) (l : List MemoE) : Ctx := { P := C.P, D := C.D, G := C.G, pure := C.pure, orc := C.orc, dyn := C.dyn, same := C.same, inr := C.inr, once := C.once, memo := lookM l }

theorem with_ok {C : Ctx} {w0 : World} (G : GOK C w0) (N : NamesOK C.P) (A : OrcOK C w0) {l : List MemoE} (hl : ∀ e, e ∈ l → EntOK C.P w0 e.f e.args e.res) (n : Nat) : Callees (C.with l) w0 (callN (C.with l) n) := by
  refine callN_ok (C := C.with l) G N ?_ n
  exact {
    ok := A.ok
    ent := A.ent
    pure := A.pure
    rnd := A.rnd
    memo := look_ok l hl
    once := fun h call H => A.once h call ⟨H.ok, H.rnd, H.ent, H.pure⟩
    onceE := A.onceE
    onceP := A.onceP }

/-- One level of entries more. -/
theorem level_ok {C : Ctx} {w0 : World} (G : GOK C w0) (N : NamesOK C.P) (A : OrcOK C w0) {l new : List MemoE} {n : Nat} (hl : ∀ e, e ∈ l → EntOK C.P w0 e.f e.args e.res)
    (h : ∀ e, e ∈ new → (C.pure e.f = true ∧ e.f ≠ rndF) ∧ isRes e.res (callN (C.with l) n e.f e.args Hp.empty) = true) : ∀ e, e ∈ new ++ l → EntOK C.P w0 e.f e.args e.res := by
  intro e he
  rcases List.mem_append.1 he with he | he
  · obtain ⟨⟨h1, h2⟩, h3⟩ := h e he
    exact ent_ok (C := C.with l) (with_ok G N A hl n) h1 h2 h3
  · exact hl e he
end Go.Ab
