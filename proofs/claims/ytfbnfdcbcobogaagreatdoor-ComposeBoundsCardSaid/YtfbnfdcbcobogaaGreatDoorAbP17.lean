/-
  Plain law: a string of at most 2000 bytes leaves one of the first 1000 candidates out.
-/
import Derived.Lib.IndexMore
namespace Go.Ab.P17
open Go

def ch (k : Nat) : UInt8 := UInt8.ofNat (48 + k)
/-- The decimal digits of a number below 1000. -/
def dg (n : Nat) : List UInt8 :=
  match Nat.blt n 10 with
  | true => [ch n]
  | false => match Nat.blt n 100 with
    | true => [ch (n / 10), ch (n % 10)]
    | false => [ch (n / 100), ch (n / 10 % 10), ch (n % 10)]
def cand (n : Nat) : List UInt8 := 45 :: 45 :: 98 :: dg n

theorem blt_true {a b : Nat} (h : a < b) : Nat.blt a b = true := by simp [Nat.blt_eq, h]
theorem blt_false {a b : Nat} (h : b ≤ a) : Nat.blt a b = false := by
  cases hb : Nat.blt a b with
  | false => rfl
  | true => rw [Nat.blt_eq] at hb; omega
theorem dg_len (n : Nat) : 1 ≤ (dg n).length ∧ (dg n).length ≤ 3 := by
  unfold dg
  split
  · simp
  · split <;> simp
theorem dg3 {n : Nat} (h : 100 ≤ n) : dg n = [ch (n / 100), ch (n / 10 % 10), ch (n % 10)] := by
  unfold dg
  rw [blt_false (by omega)]
  simp only
  rw [blt_false (by omega)]
theorem ch_inj {a b : Nat} (ha : a < 10) (hb : b < 10) (h : ch a = ch b) : a = b := by
  have : (ch a).toNat = (ch b).toNat := by rw [h]
  simp [ch] at this
  omega

theorem pigeon (b : Nat) : ∀ (a : Nat) (f : Nat → Nat), (∀ i, i < a → f i < b) → (∀ i j, i < a → j < a → f i = f j → i = j) → a ≤ b := by
  induction b with
  | zero =>
    intro a f h _
    rcases Nat.eq_zero_or_pos a with e | e
    · omega
    · exact absurd (h 0 e) (Nat.not_lt_zero _)
  | succ b ih =>
    intro a f h inj
    by_cases hx : ∃ i, i < a ∧ f i = b
    · obtain ⟨i, hi, hfi⟩ := hx
      have := ih (a - 1) (fun j => if j < i then f j else f (j + 1)) (fun j hj => by
          by_cases e : j < i
          · simp only [e, if_true]
            have h1 := h j (by omega)
            have h2 : f j ≠ b := fun e2 => by have := inj j i (by omega) hi (by rw [e2, hfi]); omega
            omega
          · simp only [e, if_false]
            have h1 := h (j + 1) (by omega)
            have h2 : f (j + 1) ≠ b := fun e2 => by have := inj (j + 1) i (by omega) hi (by rw [e2, hfi]); omega
            omega) (fun j k hj hk e => by
          by_cases e1 : j < i <;> by_cases e2 : k < i <;> simp only [e1, e2, if_true, if_false] at e
          · exact inj j k (by omega) (by omega) e
          · have := inj j (k + 1) (by omega) (by omega) e; omega
          · have := inj (j + 1) k (by omega) (by omega) e; omega
          · have := inj (j + 1) (k + 1) (by omega) (by omega) e; omega)
      omega
    · have := ih a f (fun j hj => by
        have h1 := h j hj
        have h2 : f j ≠ b := fun e => hx ⟨j, hj, e⟩
        omega) inj
      omega

theorem occ_get {l t : List UInt8} {p : Nat} (h : Lib.occAt l t p = true) (i : Nat) (hi : i < t.length) : l[p + i]? = t[i]? := by
  unfold Lib.occAt at h
  obtain ⟨r, hr⟩ := List.isPrefixOf_iff_prefix.1 h
  have : (l.drop p)[i]? = t[i]? := by
    rw [← hr, List.getElem?_append_left hi]
  rw [List.getElem?_drop] at this
  exact this

theorem occ_of_contains {l t : List UInt8} (h : Lib.contains l t = true) : ∃ p, p ≤ l.length ∧ Lib.occAt l t p = true := by
  rcases Lib.index_spec l t with ⟨h1, _⟩ | ⟨i, h1, h2, h3, _⟩
  · unfold Lib.contains at h
    rw [h1] at h
    simp at h
  · exact ⟨i, h2, h3⟩

theorem some_out (l : List UInt8) (hl : l.length ≤ 2000) : ∃ n, n < 1000 ∧ Lib.contains l (cand n) = false := by
  apply Classical.byContradiction
  intro hno
  have all : ∀ n, n < 1000 → ∃ p, p ≤ l.length ∧ Lib.occAt l (cand n) p = true := fun n hn => by
    cases hc : Lib.contains l (cand n) with
    | true => exact occ_of_contains hc
    | false => exact absurd ⟨n, hn, hc⟩ hno
  have choice : ∃ f : Nat → Nat, ∀ n, n < 900 → Lib.occAt l (cand (100 + n)) (f n) = true := by
    refine ⟨fun n => if h : n < 900 then Classical.choose (all (100 + n) (by omega)) else 0, fun n hn => ?_⟩
    simp only [hn, dif_pos]
    exact (Classical.choose_spec (all (100 + n) (by omega))).2
  obtain ⟨f, hf⟩ := choice
  have gets : ∀ n, n < 900 → l[f n]? = some 45 ∧ l[f n + 1]? = some 45 ∧ l[f n + 2]? = some 98 ∧ l[f n + 3]? = some (ch ((100 + n) / 100)) ∧ l[f n + 4]? = some (ch ((100 + n) / 10 % 10)) ∧ l[f n + 5]? = some (ch ((100 + n) % 10)) := fun n hn => by
    have h := hf n hn
    have hc : cand (100 + n) = [45, 45, 98, ch ((100 + n) / 100), ch ((100 + n) / 10 % 10), ch ((100 + n) % 10)] := by
      unfold cand
      rw [dg3 (by omega)]
    rw [hc] at h
    exact ⟨by simpa using occ_get h 0 (by simp), by simpa using occ_get h 1 (by simp), by simpa using occ_get h 2 (by simp), by simpa using occ_get h 3 (by simp), by simpa using occ_get h 4 (by simp), by simpa using occ_get h 5 (by simp)⟩
  have := pigeon 667 900 (fun n => f n / 3) (fun n hn => by
      have h5 := (gets n hn).2.2.2.2.2
      have hlt : f n + 5 < l.length := by
        rcases Nat.lt_or_ge (f n + 5) l.length with e | e
        · exact e
        · rw [List.getElem?_eq_none e] at h5; cases h5
      show f n / 3 < 667
      omega) (fun i j hi hj e => by
      have e : f i / 3 = f j / 3 := e
      obtain ⟨a0, a1, a2, a3, a4, a5⟩ := gets i hi
      obtain ⟨b0, b1, b2, b3, b4, b5⟩ := gets j hj
      have key : f i = f j := by
        rcases Nat.lt_trichotomy (f i) (f j) with h | h | h
        · exfalso
          have h12 : f j = f i + 1 ∨ f j = f i + 2 := by omega
          rcases h12 with h1 | h1
          · rw [h1, Nat.add_assoc] at b1
            rw [a2] at b1
            cases b1
          · rw [h1] at b0
            rw [a2] at b0
            cases b0
        · exact h
        · exfalso
          have h12 : f i = f j + 1 ∨ f i = f j + 2 := by omega
          rcases h12 with h1 | h1
          · rw [h1, Nat.add_assoc] at a1
            rw [b2] at a1
            cases a1
          · rw [h1] at a0
            rw [b2] at a0
            cases a0
      rw [key] at a3 a4 a5
      rw [b3] at a3
      rw [b4] at a4
      rw [b5] at a5
      injection a3 with a3
      injection a4 with a4
      injection a5 with a5
      have c3 := ch_inj (by omega) (by omega) a3
      have c4 := ch_inj (by omega) (by omega) a4
      have c5 := ch_inj (by omega) (by omega) a5
      omega)
  omega

/-- The first candidate that is left out. -/
theorem first_out (l : List UInt8) (hl : l.length ≤ 2000) : ∃ n, n < 1000 ∧ Lib.contains l (cand n) = false ∧ ∀ k, k < n → Lib.contains l (cand k) = true := by
  obtain ⟨m, hm, hc⟩ := some_out l hl
  have : ∀ b, b ≤ m → (∃ n, n ≤ b ∧ Lib.contains l (cand n) = false ∧ ∀ k, k < n → Lib.contains l (cand k) = true) ∨ ∀ k, k ≤ b → Lib.contains l (cand k) = true := by
    intro b
    induction b with
    | zero =>
      intro _
      cases h : Lib.contains l (cand 0) with
      | false => exact .inl ⟨0, Nat.le_refl _, h, fun k hk => absurd hk (Nat.not_lt_zero k)⟩
      | true =>
        refine .inr fun k hk => ?_
        have : k = 0 := by omega
        subst this
        exact h
    | succ b ih =>
      intro hb
      rcases ih (by omega) with ⟨n, h1, h2, h3⟩ | h
      · exact .inl ⟨n, by omega, h2, h3⟩
      · cases hx : Lib.contains l (cand (b + 1)) with
        | false => exact .inl ⟨b + 1, Nat.le_refl _, hx, fun k hk => h k (by omega)⟩
        | true =>
          refine .inr fun k hk => ?_
          by_cases e : k = b + 1
          · rw [e]; exact hx
          · exact h k (by omega)
  rcases this m (Nat.le_refl _) with ⟨n, h1, h2, h3⟩ | h
  · exact ⟨n, by omega, h2, h3⟩
  · rw [h m (Nat.le_refl _)] at hc
    cases hc
end Go.Ab.P17
