/-
  num.Text and num.Parse at the numbers below 1000, each by the abstract machine.
-/
import Derived.Test.YtfbnfdcbcobogaaGreatDoorAbC17
import Derived.Test.YtfbnfdcbcobogaaGreatDoorAbP17
import Derived.KernelRfl
namespace Go.Proofs.YtfbnfdcbcobogaaGreatDoor
open Go Go.Ab Go.Ab.P17

noncomputable def allB (lo n : Nat) (f : Nat → Bool) : Bool := Nat.rec (motive := fun _ => Bool) true (fun k ih => match f (Nat.add lo k) with | true => ih | false => false) n
theorem allB_ok {lo : Nat} {f : Nat → Bool} : ∀ {n : Nat}, allB lo n f = true → ∀ k, k < n → f (lo + k) = true := by
  intro n
  induction n with
  | zero => intro _ k hk; exact absurd hk (Nat.not_lt_zero k)
  | succ n ih =>
    intro h k hk
    have h : (match f (Nat.add lo n) with | true => allB lo n f | false => false) = true := h
    split at h
    · rename_i hf
      by_cases e : k = n
      · subst e; exact hf
      · exact ih h k (by omega)
    · cases h
noncomputable def chT (n : Nat) : Bool := isRes (.str (dg n)) (callN C0 1000 8 [.int .i64 (.ofNat n)] Hp.empty)
noncomputable def chP (n : Nat) : Bool := isRes (.tup [.int .i64 (.ofNat n), .bool true]) (callN C0 1000 6 [.str (dg n), .int .i64 (.ofNat 0), .int .i64 (.ofNat 2000)] Hp.empty)
theorem t0 : allB 0 200 chT = true := by as_aux_lemma => kernel_rfl
theorem t1 : allB 200 200 chT = true := by as_aux_lemma => kernel_rfl
theorem t2 : allB 400 200 chT = true := by as_aux_lemma => kernel_rfl
theorem t3 : allB 600 200 chT = true := by as_aux_lemma => kernel_rfl
theorem t4 : allB 800 200 chT = true := by as_aux_lemma => kernel_rfl
theorem p0 : allB 0 200 chP = true := by as_aux_lemma => kernel_rfl
theorem p1 : allB 200 200 chP = true := by as_aux_lemma => kernel_rfl
theorem p2 : allB 400 200 chP = true := by as_aux_lemma => kernel_rfl
theorem p3 : allB 600 200 chP = true := by as_aux_lemma => kernel_rfl
theorem p4 : allB 800 200 chP = true := by as_aux_lemma => kernel_rfl
theorem all1000 {f : Nat → Bool} (h0 : allB 0 200 f = true) (h1 : allB 200 200 f = true) (h2 : allB 400 200 f = true) (h3 : allB 600 200 f = true) (h4 : allB 800 200 f = true) (n : Nat) (hn : n < 1000) : f n = true := by
  by_cases e0 : n < 200
  · have := allB_ok h0 n e0
    rwa [Nat.zero_add] at this
  by_cases e1 : n < 400
  · have := allB_ok h1 (n - 200) (by omega)
    rwa [show 200 + (n - 200) = n by omega] at this
  by_cases e2 : n < 600
  · have := allB_ok h2 (n - 400) (by omega)
    rwa [show 400 + (n - 400) = n by omega] at this
  by_cases e3 : n < 800
  · have := allB_ok h3 (n - 600) (by omega)
    rwa [show 600 + (n - 600) = n by omega] at this
  have := allB_ok h4 (n - 800) (by omega)
  rwa [show 800 + (n - 800) = n by omega] at this
theorem text_run (n : Nat) (hn : n < 1000) : ∃ h', callN C0 1000 8 [.int .i64 (.ofNat n)] Hp.empty = some (.str (dg n), h') := by
  have h : chT n = true := all1000 t0 t1 t2 t3 t4 n hn
  unfold chT isRes at h
  split at h
  · rename_i v k hv
    exact ⟨k, by rw [hv, eqAV_eq _ _ _ h]⟩
  · cases h
theorem parse_run (n : Nat) (hn : n < 1000) : ∃ h', callN C0 1000 6 [.str (dg n), .int .i64 (.ofNat 0), .int .i64 (.ofNat 2000)] Hp.empty = some (.tup [.int .i64 (.ofNat n), .bool true], h') := by
  have h : chP n = true := all1000 p0 p1 p2 p3 p4 n hn
  unfold chP isRes at h
  split at h
  · rename_i v k hv
    exact ⟨k, by rw [hv, eqAV_eq _ _ _ h]⟩
  · cases h
end Go.Proofs.YtfbnfdcbcobogaaGreatDoor
