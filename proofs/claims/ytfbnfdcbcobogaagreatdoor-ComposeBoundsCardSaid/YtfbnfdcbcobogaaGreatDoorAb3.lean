/-
  Small laws of the abstract machine: its trees, its lists, the forms by which it hands values on.
-/
import Derived.Test.YtfbnfdcbcobogaaGreatDoorAb2
namespace Go.Ab

/-! ### Trees -/

theorem blt_iff {m n : Nat} : Nat.blt m n = true ↔ m < n := by rw [Nat.blt_eq]

theorem qd_inj {a b : Nat} (ha : a < 4) (hb : b < 4) (h : qd a = qd b) : a = b := by
  have ea : a = 0 ∨ a = 1 ∨ a = 2 ∨ a = 3 := by omega
  have eb : b = 0 ∨ b = 1 ∨ b = 2 ∨ b = 3 := by omega
  rcases ea with rfl | rfl | rfl | rfl <;> rcases eb with rfl | rfl | rfl | rfl <;> first | rfl | (simp [qd] at h)

theorem digits_zero (k : Nat) : digits 0 k = [] := rfl
theorem digits_succ (n k : Nat) : digits (n + 1) k = qd (k % 4) :: digits n (k / 4) := rfl

theorem digits_length (n k : Nat) : (digits n k).length = n := by
  induction n generalizing k with
  | zero => rfl
  | succ n ih => rw [digits_succ, List.length_cons, ih]

theorem digits_inj {n : Nat} : ∀ {j k : Nat}, j < 4 ^ n → k < 4 ^ n → digits n j = digits n k → j = k := by
  induction n with
  | zero => intro j k hj hk _; simp at hj hk; omega
  | succ n ih =>
    intro j k hj hk h
    rw [digits_succ, digits_succ] at h
    injection h with h1 h2
    have h1 := qd_inj (Nat.mod_lt _ (by omega)) (Nat.mod_lt _ (by omega)) h1
    have h2 := ih (by rw [Nat.pow_succ] at hj; omega) (by rw [Nat.pow_succ] at hk; omega) h2
    omega

theorem path_some {n k : Nat} {p : List Qd} (h : path n k = some p) : k < 4 ^ n ∧ p = digits n k := by
  unfold path at h
  split at h
  · rename_i hb
    injection h with h
    exact ⟨blt_iff.1 hb, h.symm⟩
  · cases h

theorem path_lt {n k : Nat} (h : k < 4 ^ n) : path n k = some (digits n k) := by
  unfold path
  rw [show Nat.blt k (Nat.pow 4 n) = true from blt_iff.2 h]

def Tr.kid {α : Type} : Tr α → Qd → Tr α
  | .node a _ _ _, .a => a
  | .node _ b _ _, .b => b
  | .node _ _ c _, .c => c
  | .node _ _ _ d, .d => d
  | _, _ => .nil
def Tr.withKid {α : Type} (t : Tr α) : Qd → Tr α → Tr α
  | .a, x => .node x (t.kid .b) (t.kid .c) (t.kid .d)
  | .b, x => .node (t.kid .a) x (t.kid .c) (t.kid .d)
  | .c, x => .node (t.kid .a) (t.kid .b) x (t.kid .d)
  | .d, x => .node (t.kid .a) (t.kid .b) (t.kid .c) x
def Tr.updP {α : Type} : List Qd → Tr α → α → Tr α
  | [], _, v => .leaf v
  | q :: p, t, v => t.withKid q (Tr.updP p (t.kid q) v)

theorem Tr.kid_withKid {α : Type} (t x : Tr α) (q r : Qd) : (t.withKid q x).kid r = if r = q then x else t.kid r := by
  cases q <;> cases r <;> simp [Tr.withKid, Tr.kid]

theorem Tr.getP_nil {α : Type} (t : Tr α) : (Tr.getP []).f t = match t with | .leaf v => some v | _ => none := by
  cases t <;> rfl
theorem Tr.getP_cons {α : Type} (q : Qd) (p : List Qd) (t : Tr α) : (Tr.getP (q :: p)).f t = (Tr.getP p).f (t.kid q) := by
  cases t with
  | node => cases q <;> rfl
  | nil => cases q <;> cases p <;> (try rename_i q' p'; cases q') <;> rfl
  | leaf => cases q <;> cases p <;> (try rename_i q' p'; cases q') <;> rfl

theorem Tr.getP_updP {α : Type} (v : α) : ∀ (p r : List Qd) (t : Tr α), r.length = p.length → (Tr.getP r).f (Tr.updP p t v) = if r = p then some v else (Tr.getP r).f t := by
  intro p
  induction p with
  | nil =>
    intro r t h
    have : r = [] := by simpa using h
    subst this
    simp [Tr.getP_nil, Tr.updP]
  | cons q p ih =>
    intro r t h
    cases r with
    | nil => simp at h
    | cons x r =>
      simp only [Tr.updP, Tr.getP_cons, Tr.kid_withKid]
      by_cases ha : x = q
      · subst ha
        simp only [if_true]
        rw [ih r _ (by simpa using h)]
        simp
      · simp [ha]

theorem Tr.setP_eq {α β : Type} (v : α) : ∀ (p : List Qd) (t : Tr α) (c : Tr α → β), (Tr.setP p).f t v c = c (Tr.updP p t v) := by
  intro p
  induction p with
  | nil => intro t c; rfl
  | cons q p ih =>
    intro t c
    have key : ∀ (t' : Tr α) (c' : Tr α → β), (Tr.setP p).f t' v c' = c' (Tr.updP p t' v) := ih
    cases t <;> cases q <;> exact key _ _

noncomputable def Tr.upd {α : Type} (n k : Nat) (t : Tr α) (v : α) : Tr α := match path n k with
  | some p => Tr.updP p t v
  | none => t

theorem Tr.setK_eq {α β : Type} (n k : Nat) (t : Tr α) (v : α) (c : Tr α → β) : Tr.setK n k t v c = c (Tr.upd n k t v) := by
  unfold Tr.setK Tr.setB Tr.upd
  cases path n k with
  | none => rfl
  | some p => exact Tr.setP_eq v p t c

theorem Tr.get_upd_same {α : Type} {n k : Nat} (t : Tr α) (v : α) (h : k < 4 ^ n) : Tr.get n k (Tr.upd n k t v) = some v := by
  unfold Tr.get Tr.getB Tr.upd
  rw [path_lt h]
  simp only
  rw [Tr.getP_updP v _ _ _ rfl, if_pos rfl]

theorem Tr.get_upd_ne {α : Type} {n j k : Nat} (t : Tr α) (v : α) (h : j ≠ k) : Tr.get n j (Tr.upd n k t v) = Tr.get n j t := by
  unfold Tr.get Tr.getB Tr.upd
  cases hj : path n j with
  | none => rfl
  | some p =>
    cases hk : path n k with
    | none => rfl
    | some q =>
      obtain ⟨h1, rfl⟩ := path_some hj
      obtain ⟨h2, rfl⟩ := path_some hk
      simp only
      rw [Tr.getP_updP v _ _ _ (by rw [digits_length, digits_length]), if_neg (fun e => h (digits_inj h1 h2 e))]

theorem Tr.get_upd {α : Type} {n j k : Nat} {t : Tr α} {v x : α} (h : Tr.get n j (Tr.upd n k t v) = some x) : (j = k ∧ x = v) ∨ (j ≠ k ∧ Tr.get n j t = some x) := by
  by_cases e : j = k
  · subst e
    refine Or.inl ⟨rfl, ?_⟩
    unfold Tr.get Tr.getB Tr.upd at h
    cases hj : path n j with
    | none => rw [hj] at h; cases h
    | some p =>
      rw [hj] at h
      simp only at h
      rw [Tr.getP_updP v _ _ _ rfl, if_pos rfl] at h
      injection h with h
      exact h.symm
  · exact Or.inr ⟨e, by rw [Tr.get_upd_ne t v e] at h; exact h⟩

theorem Tr.get_nil {α : Type} (n k : Nat) : Tr.get n k (Tr.nil : Tr α) = none := by
  unfold Tr.get Tr.getB
  cases path n k with
  | none => rfl
  | some p => cases p <;> (try rename_i q p; cases q) <;> rfl

/-! ### Heaps -/
theorem Hp.get_set {h : Hp} {b c : Nat} {x y : Blk} (e : (h.set b x).get c = some y) : (c = b ∧ y = x) ∨ (c ≠ b ∧ h.get c = some y) := by
  obtain ⟨H, n⟩ := h
  simp only [Hp.set, Hp.get, Tr.setK_eq] at e ⊢
  split at e
  · exact Tr.get_upd e
  · cases e
theorem Tr.get_lt {α : Type} {n k : Nat} {t : Tr α} {v : α} (h : Tr.get n k t = some v) : k < 4 ^ n := by
  unfold Tr.get Tr.getB at h
  cases hp : path n k with
  | none => rw [hp] at h; cases h
  | some p => exact (path_some hp).1
theorem Hp.get_set_same {h : Hp} {b : Nat} {x y : Blk} (e : h.get b = some y) : (h.set b x).get b = some x := by
  obtain ⟨H, n⟩ := h
  simp only [Hp.set, Hp.get, Tr.setK_eq] at e ⊢
  split at e
  · exact Tr.get_upd_same _ _ (Tr.get_lt e)
  · cases e
theorem Hp.nx_set (h : Hp) (b : Nat) (x : Blk) : (h.set b x).nx = h.nx := by obtain ⟨H, n⟩ := h; simp only [Hp.set, Tr.setK_eq]
theorem Hp.get_new {h : Hp} {c : Nat} {x y : Blk} (e : (h.new x).get c = some y) : (c = h.nx ∧ y = x) ∨ (c ≠ h.nx ∧ h.get c = some y) := by
  obtain ⟨H, n⟩ := h
  simp only [Hp.new, Hp.get, Tr.setK_eq] at e ⊢
  split at e
  · rename_i hlt
    rcases Tr.get_upd e with h | ⟨hne, h⟩
    · exact .inl h
    · have := blt_iff.1 hlt
      rw [blt_iff.2 (show c < n by omega)]
      exact .inr ⟨hne, h⟩
  · cases e
theorem Hp.nx_new (h : Hp) (x : Blk) : (h.new x).nx = h.nx + 1 := by obtain ⟨H, n⟩ := h; simp only [Hp.new, Tr.setK_eq]
theorem Hp.get_empty (b : Nat) : Hp.empty.get b = none := by
  unfold Hp.get
  split
  · exact Tr.get_nil _ _
  · rfl
/-- A heap that says what another says, and may say more. -/
def HpLe (h h' : Hp) : Prop := ∀ b x, h.get b = some x → h'.get b = some x
theorem HpLe.refl (h : Hp) : HpLe h h := fun _ _ e => e
theorem HpLe.new (h : Hp) (x : Blk) : HpLe h (h.new x) := by
  intro b y e
  obtain ⟨H, n⟩ := h
  simp only [Hp.new, Hp.get, Tr.setK_eq] at e ⊢
  split at e
  · rename_i hlt
    have := blt_iff.1 hlt
    rw [blt_iff.2 (show b < n + 1 by omega)]
    simp only
    rw [Tr.get_upd_ne _ _ (by omega)]
    exact e
  · cases e

/-! ### What is handed on -/
theorem forceN_eq {β : Type} (n : Nat) (c : Nat → β) : forceN n c = c n := by cases n <;> rfl
theorem forceI_eq {β : Type} (n : Int) (c : Int → β) : forceI n c = c n := by cases n <;> simp only [forceI, forceN_eq]
theorem forceAV_eq {β : Type} (v : AV) (c : AV → β) : forceAV v c = c v := by
  cases v with
  | bool b => cases b <;> rfl
  | str l => cases l <;> rfl
  | _ => simp only [forceAV, forceN_eq, forceI_eq]
theorem forceH_eq {β : Type} (h : Hp) (c : Hp → β) : forceH h c = c h := by
  obtain ⟨H, n⟩ := h
  simp only [forceH, forceN_eq]

/-! ### Lists -/
theorem nth_eq {α : Type} (l : List α) (k : Nat) : nth l k = l[k]? := by
  induction l generalizing k with
  | nil => rfl
  | cons a l ih => cases k with
    | zero => rfl
    | succ k => exact ih k
theorem dropX_some {α : Type} {n : Nat} {l r : List α} : dropX n l = some r ↔ n ≤ l.length ∧ r = l.drop n := by
  induction n generalizing l with
  | zero =>
    constructor
    · intro h; injection h with h; subst h; simp
    · rintro ⟨_, rfl⟩; rfl
  | succ n ih =>
    cases l with
    | nil =>
      constructor
      · intro h; cases h
      · rintro ⟨h, _⟩; simp at h
    | cons a l =>
      have : dropX (n + 1) (a :: l) = dropX n l := rfl
      rw [this, ih]
      simp
theorem takeX_some {α : Type} {n : Nat} {l r : List α} : takeX n l = some r ↔ n ≤ l.length ∧ r = l.take n := by
  induction n generalizing l r with
  | zero =>
    constructor
    · intro h; injection h with h; subst h; simp
    · rintro ⟨_, rfl⟩; rfl
  | succ n ih =>
    cases l with
    | nil =>
      constructor
      · intro h; cases h
      · rintro ⟨h, _⟩; simp at h
    | cons a l =>
      have e : takeX (n + 1) (a :: l) = match takeX n l with | some t => some (a :: t) | none => none := by
        show (Option.rec (motive := fun _ => Option (List α)) none (fun t => some (a :: t)) (takeX n l)) = _
        cases (takeX n l) <;> rfl
      rw [e]
      constructor
      · intro h
        cases ht : takeX n l with
        | none => rw [ht] at h; cases h
        | some t =>
          rw [ht] at h
          injection h with h
          obtain ⟨h1, rfl⟩ := ih.1 ht
          exact ⟨by simp; omega, by rw [← h]; rfl⟩
      · rintro ⟨h, rfl⟩
        rw [ih.2 ⟨by simp at h; omega, rfl⟩]
        rfl
theorem overX_some {α : Type} {new l r : List α} : overX new l = some r ↔ new.length ≤ l.length ∧ r = new ++ l.drop new.length := by
  induction new generalizing l r with
  | nil =>
    constructor
    · intro h; injection h with h; subst h; simp
    · rintro ⟨_, rfl⟩; rfl
  | cons v new ih =>
    cases l with
    | nil =>
      constructor
      · intro h; cases h
      · rintro ⟨h, _⟩; simp at h
    | cons a l =>
      have e : overX (v :: new) (a :: l) = match overX new l with | some t => some (v :: t) | none => none := by
        show (Option.rec (motive := fun _ => Option (List α)) none (fun t => some (v :: t)) (overX new l)) = _
        cases (overX new l) <;> rfl
      rw [e]
      constructor
      · intro h
        cases ht : overX new l with
        | none => rw [ht] at h; cases h
        | some t =>
          rw [ht] at h
          injection h with h
          obtain ⟨h1, rfl⟩ := ih.1 ht
          exact ⟨by simp; omega, by rw [← h]; rfl⟩
      · rintro ⟨h, rfl⟩
        rw [ih.2 ⟨by simp at h; omega, rfl⟩]
        rfl
theorem putX_some {α : Type} {o : Nat} {new l r : List α} : putX o new l = some r ↔ o + new.length ≤ l.length ∧ r = l.take o ++ new ++ l.drop (o + new.length) := by
  induction o generalizing l r with
  | zero =>
    have : putX 0 new l = overX new l := rfl
    rw [this, overX_some]
    simp
  | succ o ih =>
    cases l with
    | nil =>
      constructor
      · intro h; cases h
      · rintro ⟨h, _⟩; simp at h
    | cons a l =>
      have e : putX (o + 1) new (a :: l) = match putX o new l with | some t => some (a :: t) | none => none := by
        show (Option.rec (motive := fun _ => Option (List α)) none (fun t => some (a :: t)) (putX o new l)) = _
        cases (putX o new l) <;> rfl
      rw [e]
      constructor
      · intro h
        cases ht : putX o new l with
        | none => rw [ht] at h; cases h
        | some t =>
          rw [ht] at h
          injection h with h
          obtain ⟨h1, rfl⟩ := ih.1 ht
          refine ⟨by simp; omega, by rw [← h]; simp [Nat.add_right_comm]⟩
      · rintro ⟨h, rfl⟩
        rw [ih.2 ⟨by simp at h; omega, rfl⟩]
        simp [Nat.add_right_comm]
theorem repX_eq {α : Type} (n : Nat) (z : List α) : repX n z = (List.replicate n z).flatten := by
  induction n with
  | zero => rfl
  | succ n ih => rw [List.replicate_succ, List.flatten_cons, ← ih]; rfl
theorem mapL_eq {α β : Type} (f : α → β) (l : List α) : mapL f l = l.map f := by
  induction l with
  | nil => rfl
  | cons a l ih => rw [List.map_cons, ← ih]; rfl
theorem eqL_eq (a b : List UInt8) : eqL a b = (a == b) := by
  induction a generalizing b with
  | nil => cases b <;> rfl
  | cons x a ih =>
    cases b with
    | nil => rfl
    | cons y b =>
      have e : eqL (x :: a) (y :: b) = match Nat.beq x.toNat y.toNat with | true => eqL a b | false => false := by
        show (Bool.rec (motive := fun _ => Bool) false (eqL a b) (Nat.beq x.toNat y.toNat)) = _
        cases Nat.beq x.toNat y.toNat <;> rfl
      rw [e]
      cases h : Nat.beq x.toNat y.toNat with
      | true =>
        have : x = y := UInt8.toNat_inj.1 (Nat.eq_of_beq_eq_true h)
        subst this
        simp [ih]
      | false =>
        have : x ≠ y := fun e => by subst e; simp at h
        simp [this]
theorem allOne_cons (c : AV) (l : List AV) : allOne (c :: l) = match c.one with | true => allOne l | false => false := by
  show (Bool.rec (motive := fun _ => Bool) false (allOne l) c.one) = _
  cases c.one <;> rfl
theorem allOne_iff {l : List AV} : allOne l = true ↔ ∀ c, c ∈ l → c.one = true := by
  induction l with
  | nil => simp [allOne]
  | cons c l ih =>
    rw [allOne_cons]
    cases h : c.one with
    | true => simp [h, ih]
    | false => simp [h]

/-! ### Numbers -/
theorem keq_eq {k k' : IntKind} (h : keq k k' = true) : k = k' := by
  cases k <;> cases k' <;> first | rfl | (simp [keq] at h)
theorem addI_eq (a b : Int) : addI a b = a + b := by
  unfold addI
  split <;> rfl
theorem subI_eq (a b : Int) : subI a b = a - b := by
  unfold subI
  split
  · rename_i m n
    split
    · rename_i h
      have h := Nat.le_of_ble_eq_true h
      show ((m - n : Nat) : Int) = (m : Int) - (n : Int)
      omega
    · rename_i h
      have h : ¬ n ≤ m := fun e => by rw [Nat.ble_eq_true_of_le e] at h; cases h
      show Int.negSucc (n - m - 1) = (m : Int) - (n : Int)
      omega
  · rfl
theorem mulI_eq (a b : Int) : mulI a b = a * b := by
  unfold mulI
  split
  · rename_i m n
    show ((m * n : Nat) : Int) = (m : Int) * (n : Int)
    simp
  · rfl
theorem eqI_eq (a b : Int) : eqI a b = (a == b) := by
  have e : ∀ (m n : Nat), Nat.beq m n = decide (m = n) := fun m n => by
    cases h : Nat.beq m n with
    | true => simp [Nat.eq_of_beq_eq_true h]
    | false => simp [Nat.ne_of_beq_eq_false h]
  rw [Bool.eq_iff_iff, beq_iff_eq]
  unfold eqI
  split
  · rename_i m n; rw [e, decide_eq_true_iff]; constructor
    · rintro rfl; rfl
    · intro h; injection h
  · rename_i m n; rw [e, decide_eq_true_iff]; constructor
    · rintro rfl; rfl
    · intro h; injection h
  · rename_i h1 h2
    constructor
    · intro h; cases h
    · rintro rfl
      cases a with
      | ofNat m => exact absurd rfl (h1 m m rfl)
      | negSucc m => exact absurd rfl (h2 m m rfl)
theorem ltI_eq (a b : Int) : ltI a b = decide (a < b) := by
  rw [Bool.eq_iff_iff, decide_eq_true_iff]
  unfold ltI
  split
  · rename_i m n; rw [blt_iff]; show m < n ↔ (m : Int) < (n : Int); omega
  · rename_i m n; constructor
    · intro h; cases h
    · intro h; have : (m : Int) < Int.negSucc n := h; omega
  · rename_i m n; constructor
    · intro _; show Int.negSucc m < (n : Int); omega
    · intro _; rfl
  · rename_i m n; rw [blt_iff]; omega
theorem notB_eq (b : Bool) : notB b = !b := by cases b <;> rfl
theorem leI_eq (a b : Int) : notB (ltI b a) = decide (a ≤ b) := by
  rw [notB_eq, ltI_eq, Bool.eq_iff_iff]
  simp
theorem wrapF_eq (k : IntKind) (n : Int) : wrapF k n = k.wrap n := by
  unfold wrapF
  split
  · rename_i m
    split
    · rename_i h
      have h : m < hiB k := blt_iff.1 h
      show (m : Int) = k.wrap (m : Int)
      cases k <;> simp only [hiB] at h <;> simp only [IntKind.wrap, IntKind.bits, IntKind.signed] <;> simp <;> omega
    · rfl
  · rfl
theorem ixOf_some {v : AV} {n : Nat} (h : ixOf v = some n) : ∃ k, v = .int k n := by
  unfold ixOf at h
  split at h
  · split at h
    · rename_i k i m
      injection h with h
      subst h
      exact ⟨k, rfl⟩
    · cases h
  · cases h
end Go.Ab
