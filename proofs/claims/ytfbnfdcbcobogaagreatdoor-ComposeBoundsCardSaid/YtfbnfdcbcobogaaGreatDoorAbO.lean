/-
  The library's functions that the abstract machine takes as given: what they hand back, and that the shelf's contracts bear it out.
-/
import Derived.Test.YtfbnfdcbcobogaaGreatDoorAb14
import Derived.Shelf.Strings.Repeat
import Derived.Shelf.Strings.Replace
import Derived.Shelf.Strings.OnBuilder
import Derived.Shelf.Strings.Search3
import Derived.Shelf.Strings.Runes
namespace Go.Ab
open Go.RowKit

/-! ### What they hand back -/
noncomputable def preX (a : List UInt8) : List UInt8 → Bool :=
  List.rec (motive := fun _ => List UInt8 → Bool) (fun _ => true) (fun x _ ih b => List.casesOn b false (fun y r => Bool.rec false (ih r) (Nat.beq x.toNat y.toNat))) a
noncomputable def idxX (sub s : List UInt8) : Nat → Option Nat :=
  List.rec (motive := fun _ => Nat → Option Nat) (fun k => match sub with | [] => some k | _ => none) (fun c l ih k => match preX sub (c :: l) with | true => some k | false => ih (Nat.succ k)) s
noncomputable def intOfX (o : Option Nat) : Int := match o with
  | some i => .ofNat i
  | none => .negSucc 0
noncomputable def replX (old new : List UInt8) (fuel : Nat) : List UInt8 → List UInt8 :=
  Nat.rec (motive := fun _ => List UInt8 → List UInt8) (fun s => s) (fun _ ih s => match idxX old s 0 with
    | none => s
    | some i => (s.take i ++ new) ++ ih (s.drop (i + old.length))) fuel
noncomputable def joinX (sep : List UInt8) (l : List (List UInt8)) : List UInt8 := match l with
  | [] => []
  | x :: r => x ++ List.rec (motive := fun _ => List UInt8) [] (fun y _ ih => sep ++ (y ++ ih)) r
noncomputable def strsX (l : List AV) : Option (List (List UInt8)) :=
  List.rec (motive := fun _ => Option (List (List UInt8))) (some []) (fun a _ ih => match a with
    | .str l => match ih with | some r => some (l :: r) | none => none
    | _ => none) l

noncomputable def orcIndex : List AV → Hp → Option (AV × Hp) := fun a h => match a with
  | [.str s, .str t] => match Nat.blt s.length 4294967281 with
    | true => some (.int .i64 (intOfX (idxX t s 0)), h)
    | false => none
  | _ => none
noncomputable def orcRune : List AV → Hp → Option (AV × Hp) := fun a h => match a with
  | [.str s, .int .i32 n] => match n with
    | .ofNat r => match Nat.blt r 128 with
      | true => some (.int .i64 (intOfX (idxX [UInt8.ofNat r] s 0)), h)
      | false => none
    | .negSucc _ => none
  | _ => none
noncomputable def orcRepeat : List AV → Hp → Option (AV × Hp) := fun a h => match a with
  | [.str s, .int .i64 n] => match n with
    | .ofNat c => match Nat.ble c 9223372036854775807, Nat.ble (Nat.mul s.length c) 140737488355328 with
      | true, true => some (.str (repX c s), h)
      | _, _ => none
    | .negSucc _ => none
  | _ => none
noncomputable def orcReplace : List AV → Hp → Option (AV × Hp) := fun a h => match a with
  | [.str s, .str old, .str new, .int .i64 n] => match n with
    | .negSucc _ => match Nat.blt s.length 4294967281, Nat.ble 1 old.length, Nat.ble (Nat.add s.length (Nat.mul s.length new.length)) 140737488355328 with
      | true, true, true => match eqL old new with
        | true => some (.str s, h)
        | false => some (.str (replX old new (Nat.succ s.length) s), h)
      | _, _, _ => none
    | .ofNat _ => none
  | _ => none
noncomputable def orcJoin : List AV → Hp → Option (AV × Hp) := fun a h => match a with
  | [x, .str sep] => match isSl x, slLen x, slCells h x with
    | true, some n, some cs => match Nat.beq cs.length n, strsX cs with
      | true, some l => match Nat.ble (joinX sep l).length 140737488355328, Nat.ble n 140737488355328 with
        | true, true => some (.str (joinX sep l), h)
        | _, _ => none
      | _, _ => none
    | _, _, _ => none
  | _ => none
/-- (*strings.Builder).grow of a Builder without a buffer. -/
noncomputable def orcGrow (u8 : TypeId) : List AV → Hp → Option (AV × Hp) := fun a h => match a with
  | [.ptr b o, .int .i64 n] => match n with
    | .ofNat n => match o with
      | 0 => match Nat.ble n 140737488355328 with
        | true => match h.get b with
          | some (.cells e cs) => match nth cs 1 with
            | some v => match v with
              | .val c => match c with
                | .slice none 0 0 => match setX cs 1 (.sl h.nx 0 0 1) with
                  | some cs => some (.tup [], (h.new (.cells u8 [])).set b (.cells e cs))
                  | none => none
                | _ => none
              | _ => none
            | none => none
          | _ => none
        | false => none
      | _ => none
    | .negSucc _ => none
  | _ => none

/-! ### These are the library's -/
theorem preX_cons (x : UInt8) (a b : List UInt8) : preX (x :: a) b = match b with | [] => false | y :: r => (match Nat.beq x.toNat y.toNat with | true => preX a r | false => false) := by
  cases b with
  | nil => rfl
  | cons y r =>
    show (Bool.rec false (preX a r) (Nat.beq x.toNat y.toNat) : Bool) = (match Nat.beq x.toNat y.toNat with | true => preX a r | false => false)
    generalize Nat.beq x.toNat y.toNat = b
    cases b <;> rfl
theorem preX_eq : ∀ (a b : List UInt8), preX a b = a.isPrefixOf b := by
  intro a
  induction a with
  | nil => intro b; cases b <;> rfl
  | cons x a ih =>
    intro b
    rw [preX_cons]
    cases b with
    | nil => rfl
    | cons y r =>
      simp only [List.isPrefixOf]
      cases hb : Nat.beq x.toNat y.toNat with
      | true =>
        have : x = y := UInt8.toNat_inj.1 (Nat.eq_of_beq_eq_true hb)
        simp [this, ih]
      | false =>
        have : x ≠ y := fun e => by subst e; simp [Nat.beq_refl] at hb
        simp [this]
theorem idxX_cons (sub : List UInt8) (c : UInt8) (l : List UInt8) (k : Nat) : idxX sub (c :: l) k = match preX sub (c :: l) with | true => some k | false => idxX sub l (k + 1) := rfl
theorem idxX_index (sub : List UInt8) : ∀ (s : List UInt8) (k : Nat), idxX sub s k = if Lib.index s sub = -1 then none else some ((Lib.index s sub).toNat + k) := by
  intro s
  induction s with
  | nil =>
    intro k
    cases sub with
    | nil => simp [idxX, Lib.index]
    | cons => simp [idxX, Lib.index]
  | cons c l ih =>
    intro k
    rw [idxX_cons, preX_eq]
    unfold Lib.index
    cases hp : sub.isPrefixOf (c :: l) with
    | true => simp
    | false =>
      have hge := Lib.index_ge l sub
      simp only [ih]
      by_cases h : Lib.index l sub = -1
      · simp [h]
      · have h' : ¬ (Lib.index l sub + 1 = -1) := by omega
        simp [h, h']
        omega
theorem intOfX_index (s sub : List UInt8) : intOfX (idxX sub s 0) = Lib.index s sub := by
  rw [idxX_index]
  have hge := Lib.index_ge s sub
  by_cases h : Lib.index s sub = -1
  · rw [if_pos h, h]; rfl
  · rw [if_neg h]
    show ((Lib.index s sub).toNat + 0 : Int) = _
    omega
theorem index_one (s : List UInt8) (c : UInt8) : Lib.index s [c] = Lib.indexByte s c := by
  induction s with
  | nil => rfl
  | cons b l ih =>
    simp only [Lib.index, Lib.indexByte, ih, List.isPrefixOf, Bool.and_true]
    by_cases h : c = b
    · simp [h]
    · have h' : ¬ b = c := fun e => h e.symm
      simp [h, h']
theorem repX_repeatL (l : List UInt8) : ∀ c, repX c l = Lib.repeatL l c := by
  intro c
  induction c with
  | zero => rfl
  | succ c ih =>
    show l ++ repX c l = _
    rw [ih]; rfl
theorem replX_succ (old new : List UInt8) (fuel : Nat) (s : List UInt8) : replX old new (fuel + 1) s = match idxX old s 0 with
    | none => s
    | some i => (s.take i ++ new) ++ replX old new fuel (s.drop (i + old.length)) := rfl
theorem replX_K (old new : List UInt8) : ∀ (fuel : Nat) (s : List UInt8), replX old new fuel s = Lib.replaceK old new (Lib.countFrom old fuel s) s := by
  intro fuel
  induction fuel with
  | zero => intro s; rfl
  | succ fuel ih =>
    intro s
    rw [replX_succ, idxX_index]
    unfold Lib.countFrom
    by_cases h : Lib.index s old = -1
    · simp [h, Lib.replaceK]
    · simp only [h, if_false, beq_iff_eq, Nat.add_zero]
      rw [Nat.add_comm 1, Lib.replaceK, ih]
      simp [h]
theorem joinX_tail (sep : List UInt8) (r : List (List UInt8)) : (List.rec (motive := fun _ => List UInt8) [] (fun y _ ih => sep ++ (y ++ ih)) r : List UInt8) = Lib.joinTail sep r := by
  induction r with
  | nil => rfl
  | cons y r ih =>
    show sep ++ (y ++ _) = _
    rw [ih]
    simp [Lib.joinTail]
theorem joinX_eq (sep : List UInt8) (l : List (List UInt8)) : joinX sep l = Lib.join l sep := by
  cases l with
  | nil => rfl
  | cons x r => rw [Lib.join_cons, ← joinX_tail]; rfl
theorem strsX_cons (a : AV) (l : List AV) : strsX (a :: l) = match a with
    | .str x => match strsX l with | some r => some (x :: r) | none => none
    | _ => none := rfl
theorem strsX_map : ∀ {l : List AV} {xs : List (List UInt8)}, strsX l = some xs → l = xs.map AV.str := by
  intro l
  induction l with
  | nil => intro xs h; injection h with h; subst h; rfl
  | cons a l ih =>
    intro xs h
    rw [strsX_cons] at h
    split at h
    · split at h
      · rename_i r hr
        injection h with h
        subst h
        rw [ih hr]
        rfl
      · cases h
    · cases h

section
variable {C : Ctx} {w0 : World} {ρ : Nat → Option Nat} {O S : Nat → Prop} {h : Hp} {w w' : World}

/-- New blocks alone. -/
theorem Inv.below (I : Inv w0 ρ O S h w) (B : Below w.heap.size w w') : Inv w0 ρ O S h w' ∧ Ext ρ O S w ρ O S w' := by
  have E : Ext ρ O S w ρ O S w' := {
    sub := fun _ _ e => e
    size := B.size
    old := fun y hy _ => B.block y hy
    own := fun _ _ e => e
    lent := fun _ _ e => e
    shape := fun y hy => shape_of_heap (B.block y hy) }
  refine ⟨{ base := ?_, dom := I.dom, blk := ?_, inj := I.inj, own := ?_, lent := ?_ }, E⟩
  · exact I.base.trans ⟨B.os, B.tape, B.output, B.size, fun k hk => B.block k (Nat.lt_of_lt_of_le hk I.base.size)⟩
  · intro b cb x e hx
    have hb := I.blk b cb x e hx
    cases hal : x with
    | dead => trivial
    | _ =>
      rw [← hal]
      have ho := hb.own (by rw [hal]; trivial)
      exact hb.step E.step E.sub ho (B.block cb (I.own cb ho).2)
  · intro y hy
    have := I.own y hy
    have := B.size
    omega
  · intro y hy
    have := I.lent y hy
    have := B.size
    omega

theorem plain_ok {P : Program} {f : FuncId} {vs : Array Value} {r : AV} {u : Value} (I : Inv w0 ρ O S h w) (hr : ∀ ρ O w, VR O S w ρ r u) (hc : Calls P f vs w fun e w' => e = .returned u ∧ Below w.heap.size w w') :
    Calls P f vs w fun e w' => ∃ v ρ' O', e = .returned v ∧ Inv w0 ρ' O' S h w' ∧ VR O' S w' ρ' r v ∧ Ext ρ O S w ρ' O' S w' :=
  hc.mono fun _ _ ⟨he, hB⟩ => ⟨u, ρ, O, he, (I.below hB).1, hr _ _ _, (I.below hB).2⟩

/-- A cell of the start is there still. -/
theorem base_cell (I : Inv w0 ρ O S h w) {g k : Nat} {v : Value} (hg : w0.cell? ⟨g, k, none⟩ = some v) : w.cell? ⟨g, k, none⟩ = some v := by
  have hlt : g < w0.heap.size := by
    rcases Nat.lt_or_ge g w0.heap.size with q | q
    · exact q
    · simp [World.cell?, Array.getElem?_eq_none q] at hg
  rw [cell_of_heap (I.base.block g hlt)]
  exact hg

theorem size_list (l : List UInt8) : (⟨l.toArray⟩ : ByteArray).size = l.length := by show l.toArray.size = _; simp

theorem orcIndex_ok {f g : Nat} (hg : ∃ m, w0.cell? ⟨g, 0, none⟩ = some (.int .i64 m))
    (hc : ∀ (s sub : ByteArray) (m : Int) (w : World), s.size < 4294967281 → w.cell? ⟨g, 0, none⟩ = some (.int .i64 m) →
      Calls C.P f #[.string s, .string sub] w fun e w' => e = .returned (.int .i64 (Lib.index s.data.toList sub.data.toList)) ∧ w' = w) : CallOK C w0 f orcIndex := by
  intro args h r h' e ρ O S w vs I hv
  unfold orcIndex at e
  split at e
  case h_2 => cases e
  rename_i s t
  split at e
  case h_2 => cases e
  rename_i hs
  simp only [Option.some.injEq, Prod.mk.injEq] at e
  obtain ⟨rfl, rfl⟩ := e
  obtain ⟨v1, _, rfl, h1, v2, _, rfl, h2, rfl⟩ := hv
  simp only [VR] at h1 h2
  subst h1 h2
  obtain ⟨m, hm⟩ := hg
  have := hc ⟨s.toArray⟩ ⟨t.toArray⟩ m w (by rw [size_list]; exact blt_iff.1 hs) (base_cell I hm)
  refine plain_ok I (fun _ _ _ => ?_) (this.mono fun e w' ⟨he, hw⟩ => ⟨he, hw ▸ Below.refl _ _⟩)
  simp only [VR]
  rw [intOfX_index]

theorem orcRune_ok {f : Nat}
    (hc : ∀ (s : ByteArray) (r : Int) (w : World), 0 ≤ r → r < 128 →
      Calls C.P f #[.string s, .int .i32 r] w fun e w' => e = .returned (.int .i64 (Lib.indexByte s.data.toList r.toNat.toUInt8)) ∧ w' = w) : CallOK C w0 f orcRune := by
  intro args h r h' e ρ O S w vs I hv
  unfold orcRune at e
  split at e
  case h_2 => cases e
  rename_i s n
  split at e
  case h_2 => cases e
  rename_i r0
  split at e
  case h_2 => cases e
  rename_i hr
  simp only [Option.some.injEq, Prod.mk.injEq] at e
  obtain ⟨rfl, rfl⟩ := e
  obtain ⟨v1, _, rfl, h1, v2, _, rfl, h2, rfl⟩ := hv
  simp only [VR] at h1 h2
  subst h1 h2
  have hr := blt_iff.1 hr
  have := hc ⟨s.toArray⟩ (r0 : Int) w (by omega) (by omega)
  refine plain_ok I (fun _ _ _ => ?_) (this.mono fun e w' ⟨he, hw⟩ => ⟨he, hw ▸ Below.refl _ _⟩)
  simp only [VR]
  rw [intOfX_index, index_one]
  rfl

theorem orcRepeat_ok {f : Nat}
    (hc : ∀ (s : ByteArray) (c : Nat) (w : World), c ≤ 9223372036854775807 → s.size * c ≤ 140737488355328 →
      Calls C.P f #[.string s, .int .i64 c] w fun e w' => e = .returned (.string ⟨(Lib.repeatL s.data.toList c).toArray⟩) ∧ Below w.heap.size w w') : CallOK C w0 f orcRepeat := by
  intro args h r h' e ρ O S w vs I hv
  unfold orcRepeat at e
  split at e
  case h_2 => cases e
  rename_i s n
  split at e
  case h_2 => cases e
  rename_i c
  split at e
  case h_2 => cases e
  rename_i h1 h2
  simp only [Option.some.injEq, Prod.mk.injEq] at e
  obtain ⟨rfl, rfl⟩ := e
  obtain ⟨v1, _, rfl, g1, v2, _, rfl, g2, rfl⟩ := hv
  simp only [VR] at g1 g2
  subst g1 g2
  have := hc ⟨s.toArray⟩ c w (Nat.le_of_ble_eq_true h1) (by rw [size_list]; exact Nat.le_of_ble_eq_true h2)
  refine plain_ok I (fun _ _ _ => ?_) this
  simp only [VR]
  rw [repX_repeatL]

theorem countFrom_le (old : List UInt8) (h1 : 1 ≤ old.length) : ∀ (fuel : Nat) (s : List UInt8), Lib.countFrom old fuel s ≤ s.length := by
  intro fuel
  induction fuel with
  | zero => intro s; exact Nat.zero_le _
  | succ fuel ih =>
    intro s
    unfold Lib.countFrom
    by_cases h : Lib.index s old = -1
    · simp [h]
    · have hs : 0 < s.length := by
        cases s with
        | nil => cases old with
          | nil => simp at h1
          | cons => simp [Lib.index] at h
        | cons => simp
      simp only [beq_iff_eq, h, if_false]
      have := ih (s.drop ((Lib.index s old).toNat + old.length))
      rw [List.length_drop] at this
      omega

theorem orcReplace_ok {f g : Nat} (hg : ∃ m, w0.cell? ⟨g, 0, none⟩ = some (.int .i64 m))
    (hc : ∀ (s old new : ByteArray) (n : Int) (m : Int) (w : World), s.size < 4294967281 → w.cell? ⟨g, 0, none⟩ = some (.int .i64 m) → 1 ≤ old.size → s.size + Lib.countB s old * new.size ≤ 140737488355328 →
      Calls C.P f #[.string s, .string old, .string new, .int .i64 n] w fun e w' => e = .returned (.string ⟨(Lib.replace s.data.toList old.data.toList new.data.toList n).toArray⟩) ∧ Below w.heap.size w w') : CallOK C w0 f orcReplace := by
  intro args h r h' e ρ O S w vs I hv
  unfold orcReplace at e
  split at e
  case h_2 => cases e
  rename_i s old new n
  split at e
  case h_2 => cases e
  rename_i n0
  split at e
  case h_2 => cases e
  rename_i k1 k2 k3
  have k1 := blt_iff.1 k1
  have k2 := Nat.le_of_ble_eq_true k2
  have k3 : s.length + s.length * new.length ≤ 140737488355328 := Nat.le_of_ble_eq_true k3
  obtain ⟨v1, _, rfl, h1, v2, _, rfl, h2, v3, _, rfl, h3, v4, _, rfl, h4, rfl⟩ := hv
  simp only [VR] at h1 h2 h3 h4
  subst h1 h2 h3 h4
  obtain ⟨m, hm⟩ := hg
  have hcount : Lib.countB ⟨s.toArray⟩ ⟨old.toArray⟩ = Lib.countFrom old (s.length + 1) s := by
    show Lib.count _ _ = _
    unfold Lib.count
    rfl
  have := hc ⟨s.toArray⟩ ⟨old.toArray⟩ ⟨new.toArray⟩ (.negSucc n0) m w (by rw [size_list]; exact k1) (base_cell I hm) (by rw [size_list]; exact k2) (by
    rw [size_list, size_list, hcount]
    have := Nat.mul_le_mul_right new.length (countFrom_le old k2 (s.length + 1) s)
    omega)
  split at e
  · rename_i he
    simp only [Option.some.injEq, Prod.mk.injEq] at e
    obtain ⟨rfl, rfl⟩ := e
    refine plain_ok I (fun _ _ _ => ?_) this
    simp only [VR]
    have he : old = new := by
      have := eqL_eq old new
      rw [he] at this
      simpa using this
    simp [Lib.replace, he]
  · rename_i he
    simp only [Option.some.injEq, Prod.mk.injEq] at e
    obtain ⟨rfl, rfl⟩ := e
    refine plain_ok I (fun _ _ _ => ?_) this
    simp only [VR]
    have he : ¬ old = new := by
      have := eqL_eq old new
      rw [he] at this
      simpa using this
    have hn : (Int.negSucc n0) < 0 := Int.negSucc_lt_zero n0
    simp only [Lib.replace, Lib.replaceNum, hn, true_or, if_true, beq_iff_eq, he, if_false]
    rw [replX_K]
    rfl

theorem sl_open (I : Inv w0 ρ O S h w) {x : AV} {u : Value} (hx : VR O S w ρ x u) {cs : List AV} {n : Nat} (hc : slCells h x = some cs) (hn : slLen x = some n) (hl : cs.length = n) (hs : isSl x = true) :
    ∃ a c, u = .slice a n c ∧ n ≤ c ∧ (n = 0 ∨ ∃ bk o ρ', a = some ⟨bk, o, none⟩ ∧ bk < w.heap.size ∧ VRM O S w ρ' cs bk o) := by
  unfold slCells at hc
  split at hc
  · rename_i b k n' z
    injection hn with hn
    subst hn
    split at hc
    · rename_i e cs0 hg
      split at hc
      · rename_i r hr
        obtain ⟨hle, rfl⟩ := takeX_some.1 hc
        obtain ⟨cb, hcb, hmem⟩ := slCells_VRM I hx hg hr
        obtain ⟨cb', hcb', hu⟩ := hx
        rw [hcb] at hcb'
        injection hcb' with hcb'
        subst hcb'
        rcases hu with ⟨cap, et, sz, rfl, hcap, hsh, hfit⟩ | ⟨rfl, p, hsp, rfl⟩
        · exact ⟨_, _, rfl, hcap, .inr ⟨cb, k, ρ, rfl, shape_lt hsh, hmem.take _⟩⟩
        · exact ⟨_, _, rfl, Nat.le_refl _, .inl rfl⟩
      · cases hc
    · cases hc
  · rename_i q z n' cs0
    injection hn with hn
    subst hn
    obtain ⟨hle, rfl⟩ := takeX_some.1 hc
    obtain ⟨a, cap, rfl, hcap, hsp, hst, hm⟩ := hx
    refine ⟨_, _, rfl, hcap, ?_⟩
    rcases hst with rfl | hst
    · refine .inl ?_
      rw [← hl]
      simp
    · obtain ⟨bk, o, sp⟩ := a
      simp only at hsp
      subst hsp
      exact .inr ⟨bk, o, _, rfl, hst.1, hm.take _⟩
  · injection hn with hn
    subst hn
    simp only [VR] at hx
    exact ⟨_, _, hx, Nat.le_refl _, .inl rfl⟩
  · simp [isSl] at hs
  · cases hc

theorem orcJoin_ok {f : Nat}
    (hc0 : ∀ (a : Option Addr) (c : Nat) (sep : ByteArray) (w : World), Calls C.P f #[.slice a 0 c, .string sep] w fun e w' => e = .returned (.string ⟨#[]⟩) ∧ w' = w)
    (hc : ∀ (bk o c : Nat) (xs : List ByteArray) (sep : ByteArray) (w : World), (∀ (j : Nat) x, xs[j]? = some x → w.cell? ⟨bk, o + j, none⟩ = some (.string x)) → bk < w.heap.size → xs.length ≤ 140737488355328 → xs.length ≤ c →
      (Lib.join (xs.map (·.data.toList)) sep.data.toList).length ≤ 140737488355328 →
      Calls C.P f #[.slice (some ⟨bk, o, none⟩) xs.length c, .string sep] w fun e w' => e = .returned (.string ⟨(Lib.join (xs.map (·.data.toList)) sep.data.toList).toArray⟩) ∧ Below w.heap.size w w') : CallOK C w0 f orcJoin := by
  intro args h r h' e ρ O S w vs I hv
  unfold orcJoin at e
  split at e
  case h_2 => cases e
  rename_i x sep
  split at e
  case h_2 => cases e
  rename_i n cs hsl hn hcs
  split at e
  case h_2 => cases e
  rename_i l hlen hstr
  split at e
  case h_2 => cases e
  rename_i k1 k2
  simp only [Option.some.injEq, Prod.mk.injEq] at e
  obtain ⟨rfl, rfl⟩ := e
  have hlen := Nat.eq_of_beq_eq_true hlen
  have k1 := Nat.le_of_ble_eq_true k1
  have k2 := Nat.le_of_ble_eq_true k2
  obtain ⟨v1, _, rfl, h1, v2, _, rfl, h2, rfl⟩ := hv
  simp only [VR] at h2
  subst h2
  obtain ⟨a, c, rfl, hnc, hq⟩ := sl_open I h1 hcs hn hlen hsl
  have hcs' := strsX_map hstr
  rcases hq with rfl | ⟨bk, o, ρ', rfl, hbk, hm⟩
  · have : l = [] := by
      cases l with
      | nil => rfl
      | cons y l => rw [hcs'] at hlen; simp at hlen
    subst this
    refine plain_ok I (fun _ _ _ => ?_) ((hc0 a c ⟨sep.toArray⟩ w).mono fun e w' ⟨he, hw⟩ => ⟨he, hw ▸ Below.refl _ _⟩)
    rfl
  · have hll : l.length = n := by rw [← hlen, hcs']; simp
    have hmap : (l.map fun x => (⟨x.toArray⟩ : ByteArray)).map (·.data.toList) = l := by
      simp [Function.comp_def]
    have := hc bk o c (l.map fun x => ⟨x.toArray⟩) ⟨sep.toArray⟩ w (fun j y hy => by
      obtain ⟨us, hus, hcell⟩ := VRM_vals hm
      rw [hcs'] at hus
      rw [List.getElem?_map] at hy
      obtain ⟨z, hz, rfl⟩ := Option.map_eq_some_iff.1 hy
      obtain ⟨u, hu, hr⟩ := hus.get (i := j) (c := .str z) (by rw [List.getElem?_map, hz]; rfl)
      simp only [VR] at hr
      subst hr
      exact hcell j _ hu) hbk (by simp; omega) (by simp; omega) (by rw [hmap]; rw [joinX_eq] at k1; exact k1)
    rw [hmap] at this
    rw [List.length_map, hll] at this
    refine plain_ok I (fun _ _ _ => ?_) this
    simp only [VR]
    rw [joinX_eq]
end
end Go.Ab
