/-
  Data that a row reads, as trees of the abstract machine: what a reading says of the values.
-/
import Derived.Test.YtfbnfdcbcobogaaGreatDoorAbK
import GoSem.ClaimJoined
import Derived.LaidLaws
namespace Go.Ab

section
variable {H : Type}

def flatO (f : DataW H → Option (List AV)) : List (DataW H) → Option (List AV)
  | [] => some []
  | d :: ds => match f d with
    | some a => match flatO f ds with
      | some b => some (a ++ b)
      | none => none
    | none => none
def fieldsO (P : Program) (f : TypeId → DataW H → Option (List AV)) : List Field → List (DataW H) → Nat → Option (List AV)
  | [], [], _ => some []
  | x :: fs, d :: ds, off => match Nat.beq x.offset off with
    | true => match f x.type d with
      | some a => match Nat.beq a.length (P.cellsOf x.type), fieldsO P f fs ds (off + P.cellsOf x.type) with
        | true, some b => some (a ++ b)
        | _, _ => none
      | none => none
    | false => none
  | _, _, _ => none
/-- The cells of a datum of type t. -/
def avs (P : Program) : Nat → TypeId → DataW H → Option (List AV)
  | 0, _, _ => none
  | n + 1, t, d => match P.underlying t, d with
    | some .bool, .lit (.bool b) => some [.bool b]
    | some (.int _), .lit (.int k n) => some [.int k n]
    | some .string, .lit (.string l) => some [.str l]
    | some (.struct fs), .agg ds => match fieldsO P (avs P n) fs.toList ds 0 with
      | some cs => (match Nat.beq cs.length (P.cellsOf t) with | true => some cs | false => none)
      | none => none
    | some (.array _ e), .agg ds => match flatO (fun d => match avs P n e d with | some a => (match Nat.beq a.length (P.cellsOf e) with | true => some a | false => none) | none => none) ds with
      | some cs => (match Nat.beq cs.length (P.cellsOf t) with | true => some cs | false => none)
      | none => none
    | _, _ => none

theorem mapM_some {α β : Type} {f : α → Option β} : ∀ {l : List α} {r : List β}, l.mapM f = some r → r.length = l.length ∧ ∀ (i : Nat) (x : α), l[i]? = some x → ∃ y, r[i]? = some y ∧ f x = some y := by
  intro l
  induction l with
  | nil => intro r h; simp at h; subst h; exact ⟨rfl, fun i x e => by simp at e⟩
  | cons a l ih =>
    intro r h
    rw [List.mapM_cons] at h
    cases ha : f a with
    | none => simp [ha] at h
    | some b =>
      cases hl : l.mapM f with
      | none => simp [ha, hl] at h
      | some bs =>
        simp [ha, hl] at h
        subst h
        obtain ⟨h1, h2⟩ := ih hl
        refine ⟨by simp [h1], fun i x e => ?_⟩
        cases i with
        | zero => simp at e; subst e; exact ⟨b, rfl, ha⟩
        | succ i => exact h2 i x (by simpa using e)

section
variable {O S : Nat → Prop} {w : World} {ρ : Nat → Option Nat}

theorem flatO_VRs {f : DataW H → Option (List AV)} {z : Nat} : ∀ (ds : List (DataW H)) (cs : List Value) {xs : List AV}, flatO f ds = some xs → cs.length = ds.length * z →
    (∀ (i : Nat) d a, ds[i]? = some d → f d = some a → VRs O S w ρ a ((cs.drop (i * z)).take z)) → VRs O S w ρ xs cs := by
  intro ds
  induction ds with
  | nil =>
    intro cs xs h hl _
    injection h with h
    subst h
    have : cs = [] := List.eq_nil_of_length_eq_zero (by simpa using hl)
    subst this
    rfl
  | cons d ds ih =>
    intro cs xs h hl hv
    unfold flatO at h
    split at h
    · rename_i a ha
      split at h
      · rename_i b hb
        injection h with h
        subst h
        have h0 := hv 0 d a rfl ha
        rw [Nat.zero_mul, List.drop_zero] at h0
        have h1 : VRs O S w ρ b (cs.drop z) := ih (cs.drop z) hb (by rw [List.length_drop, hl, List.length_cons, Nat.succ_mul]; omega) fun i d' a' hd hf => by
          have := hv (i + 1) d' a' (by simpa using hd) hf
          rw [List.drop_drop]
          rw [Nat.succ_mul] at this
          rw [Nat.add_comm z]
          exact this
        have := h0.append h1
        rwa [List.take_append_drop] at this
      · cases h
    · cases h

theorem fieldsO_VRs {P : Program} {f : TypeId → DataW H → Option (List AV)} : ∀ (fs : List Field) (ds : List (DataW H)) (off : Nat) (cs : List Value) {xs : List AV}, fieldsO P f fs ds off = some xs → cs.length = off + xs.length →
    (∀ (i : Nat) x d a, fs[i]? = some x → ds[i]? = some d → f x.type d = some a → VRs O S w ρ a ((cs.drop x.offset).take (P.cellsOf x.type))) → VRs O S w ρ xs (cs.drop off) := by
  intro fs
  induction fs with
  | nil =>
    intro ds off cs xs h hl hv
    cases ds with
    | nil =>
      injection h with h
      subst h
      have : cs.drop off = [] := List.drop_eq_nil_of_le (by simp at hl; omega)
      rw [this]
      rfl
    | cons => cases h
  | cons x fs ih =>
    intro ds off cs xs h hl hv
    cases ds with
    | nil => cases h
    | cons d ds =>
      unfold fieldsO at h
      split at h
      case h_2 => cases h
      rename_i hoff
      have hoff := Nat.eq_of_beq_eq_true hoff
      split at h
      case h_2 => cases h
      rename_i a ha
      split at h
      case h_2 => cases h
      rename_i b hla hb
      have hla := Nat.eq_of_beq_eq_true hla
      injection h with h
      subst h
      have h0 := hv 0 x d a rfl rfl ha
      have h1 := ih ds (off + P.cellsOf x.type) cs hb (by rw [hl, List.length_append, hla]; omega) fun i x' d' a' hx hd hf => hv (i + 1) x' d' a' (by simpa using hx) (by simpa using hd) hf
      rw [hoff] at h0
      have := h0.append h1
      have e : (cs.drop off).take (P.cellsOf x.type) ++ cs.drop (off + P.cellsOf x.type) = cs.drop off := by
        rw [← List.drop_drop, List.take_append_drop]
      rwa [e] at this

/-- What a reading says of the values read. -/
theorem trod_VRs {enc : TypeId × Value → H} {P : Program} {W : World} {base : Nat} {spare : Nat → Bool} {held : Bool} : ∀ (n : Nat) (fuel : Nat) (t : TypeId) (cs : List Value) (d : DataW H) (p : List MemPlace) {xs : List AV},
    DataW.trod enc P W base spare held fuel t cs = some (d, p) → avs P n t d = some xs → VRs O S W ρ xs cs := by
  intro n
  induction n with
  | zero => intro fuel t cs d p xs _ h; cases h
  | succ n ih =>
    intro fuel t cs d p xs ht h
    cases fuel with
    | zero => simp [DataW.trod] at ht
    | succ fuel =>
      unfold avs at h
      split at h
      · rename_i hu
        unfold DataW.trod at ht
        simp only [hu] at ht
        split at ht <;> simp_all
        subst h
        exact ⟨_, _, rfl, rfl, rfl⟩
      · rename_i hu
        unfold DataW.trod at ht
        simp only [hu] at ht
        split at ht <;> simp_all
        obtain ⟨⟨⟨rfl, rfl⟩, _⟩, _⟩ := ht
        subst h
        exact ⟨_, _, rfl, rfl, rfl⟩
      · rename_i hu
        unfold DataW.trod at ht
        simp only [hu] at ht
        split at ht <;> simp_all
        subst h
        obtain ⟨rfl, _⟩ := ht.2
        exact ⟨_, _, rfl, by simp [VR], rfl⟩
      · rename_i fs ds hu
        split at h
        case h_2 => cases h
        rename_i xs' hxs
        split at h
        case h_2 => cases h
        rename_i hlen
        have hlen := Nat.eq_of_beq_eq_true hlen
        injection h with h
        subst h
        unfold DataW.trod at ht
        simp only [hu] at ht
        split at ht
        · rename_i hcl
          obtain ⟨ys, hys, he⟩ := Option.map_eq_some_iff.1 ht
          simp only [Prod.mk.injEq, DataW.agg.injEq] at he
          obtain ⟨rfl, _⟩ := he
          obtain ⟨hl, hget⟩ := mapM_some hys
          have := fieldsO_VRs (O := O) (S := S) (w := W) (ρ := ρ) fs.toList (ys.map (·.1)) 0 cs hxs (by rw [hcl, hlen]; omega) fun i x d a hx hd ha => by
            obtain ⟨y, hy, hty⟩ := hget i x hx
            rw [List.getElem?_map, hy] at hd
            injection hd with hd
            obtain ⟨y1, y2⟩ := y
            simp only at hd
            subst hd
            exact ih fuel _ _ _ _ hty ha
          rwa [List.drop_zero] at this
        · cases ht
      · rename_i m e ds hu
        split at h
        case h_2 => cases h
        rename_i xs' hxs
        split at h
        case h_2 => cases h
        rename_i hlen
        have hlen := Nat.eq_of_beq_eq_true hlen
        injection h with h
        subst h
        unfold DataW.trod at ht
        simp only [hu] at ht
        split at ht
        · rename_i hcl
          obtain ⟨ys, hys, he⟩ := Option.map_eq_some_iff.1 ht
          simp only [Prod.mk.injEq, DataW.agg.injEq] at he
          obtain ⟨rfl, _⟩ := he
          obtain ⟨hl, hget⟩ := mapM_some hys
          have hfl : ∀ (l : List (DataW H)) (xs : List AV), flatO (fun d => match avs P n e d with | some a => (match Nat.beq a.length (P.cellsOf e) with | true => some a | false => none) | none => none) l = some xs → xs.length = l.length * P.cellsOf e := by
            intro l
            induction l with
            | nil => intro xs h; injection h with h; subst h; simp
            | cons d l ihl =>
              intro xs h
              unfold flatO at h
              split at h
              case h_2 => cases h
              rename_i a ha
              split at h
              case h_2 => cases h
              rename_i b hb
              injection h with h
              subst h
              split at ha
              · split at ha
                · rename_i hb'
                  injection ha with ha
                  subst ha
                  rw [List.length_append, ihl b hb, Nat.eq_of_beq_eq_true hb', List.length_cons, Nat.succ_mul]
                  omega
                · cases ha
              · cases ha
          refine flatO_VRs (O := O) (S := S) (w := W) (ρ := ρ) (z := P.cellsOf e) (ys.map (·.1)) cs hxs (by rw [hcl, ← hlen, hfl _ _ hxs]) fun i d a hd ha => ?_
          have hi : i < ys.length := by
            have := (List.getElem?_eq_some_iff.1 hd).1
            simpa using this
          obtain ⟨y, hy, hty⟩ := hget i i (by rw [List.getElem?_range]; rw [hl, List.length_range] at hi; exact hi)
          rw [List.getElem?_map, hy] at hd
          injection hd with hd
          obtain ⟨y1, y2⟩ := y
          simp only at hd
          subst hd
          split at ha
          · rename_i a' ha'
            split at ha
            · injection ha with ha
              subst ha
              exact ih fuel _ _ _ _ hty ha'
            · cases ha
          · cases ha
        · cases ht
      · cases h

/-- A package-level variable that reads so, as the abstract machine sees it. -/
theorem laid_VR {P : Program} {W : World} {g t : Nat} {name : String} {d : DataW Unit} {cs : Array Value} {fuel : Nat} {p : List MemPlace} {xs : List AV} {n : Nat} (hg : P.globalNamed name = some g) (hv : W.var? P name = some cs)
    (ht : DataW.trod (fun _ => ()) P W 0 (fun _ => true) false fuel t cs.toList = some (d, p)) (h : avs P n t d = some xs) : VR (fun _ => False) (fun _ => False) W (fun _ => none) (.tptr true xs) (.pointer (some ⟨g, 0, none⟩)) := by
  have hvs := trod_VRs (O := fun _ => False) (S := fun _ => False) (ρ := fun _ => none) n fuel t cs.toList d p ht h
  have hlt : g < W.heap.size := by
    simp only [World.var?, hg, Option.bind_some] at hv
    rcases Nat.lt_or_ge g W.heap.size with q | q
    · exact q
    · simp [Array.getElem?_eq_none q] at hv
  refine ⟨⟨g, 0, none⟩, rfl, rfl, .inr ⟨hlt, fun e => e, fun e => by cases e⟩, VRM_of_vals hvs fun j v hj => ?_⟩
  rw [Nat.zero_add, World.var?_cell hg hv j]
  simpa using hj
end
end
end Go.Ab
