/-
  The seat's oracles are the shelf's; what the abstract machine's calls come to, in the world in which the law's call begins.
-/
import Derived.Test.YtfbnfdcbcobogaaGreatDoorAbQ17
import Derived.Test.YtfbnfdcbcobogaaGreatDoorAbOnce
import Derived.Test.YtfbnfdcbcobogaaGreatDoorAbE17
namespace Go.Proofs.YtfbnfdcbcobogaaGreatDoor
open Go Go.Ab Go.RowKit

theorem names : NamesOK Tryz.prog := by
  have h : (Tryz.prog.funcs.toList.all fun fn => fn.name != "runtime.NumGoroutine") = true := by kernel_rfl
  intro f fn hf e
  have hm : fn ∈ Tryz.prog.funcs.toList := by
    obtain ⟨hlt, rfl⟩ := Array.getElem?_eq_some_iff.1 hf
    exact Array.getElem_mem_toList hlt
  have := List.all_eq_true.1 h fn hm
  rw [e] at this
  simp at this

theorem orcJoin_pure {args : List AV} {h k : Hp} {v : AV} (e : orcJoin args h = some (v, k)) : k = h ∧ ∀ h', HpLe h h' → orcJoin args h' = some (v, h') := by
  unfold orcJoin at e ⊢
  split at e
  case h_2 => cases e
  rename_i x sep
  split at e
  case h_2 => cases e
  rename_i n cs h1 h2 h3
  split at e
  case h_2 => cases e
  rename_i l h4 h5
  split at e
  case h_2 => cases e
  rename_i h6 h7
  simp only [Option.some.injEq, Prod.mk.injEq] at e
  obtain ⟨rfl, rfl⟩ := e
  refine ⟨rfl, fun h' L => ?_⟩
  simp only [h1, h2, slCells_up L h3, h4, h5, h6, h7]

theorem orcF_cases {f : FuncId} {g : List AV → Hp → Option (AV × Hp)} (h : orcF f = some g) : (f = 104 ∧ g = orcIndex) ∨ (f = 266 ∧ g = orcRune) ∨ (f = 139 ∧ g = orcRepeat) ∨ (f = 25 ∧ g = orcJoin) ∨ (f = 244 ∧ g = orcReplace) ∨ (f = 150 ∧ g = orcGrow 5) := by
  unfold orcF at h
  split at h
  · rename_i hb; injection h with h; exact .inl ⟨beq_eq hb, h.symm⟩
  split at h
  · rename_i hb; injection h with h; exact .inr (.inl ⟨beq_eq hb, h.symm⟩)
  split at h
  · rename_i hb; injection h with h; exact .inr (.inr (.inl ⟨beq_eq hb, h.symm⟩))
  split at h
  · rename_i hb; injection h with h; exact .inr (.inr (.inr (.inl ⟨beq_eq hb, h.symm⟩)))
  split at h
  · rename_i hb; injection h with h; exact .inr (.inr (.inr (.inr (.inl ⟨beq_eq hb, h.symm⟩))))
  split at h
  · rename_i hb; injection h with h; exact .inr (.inr (.inr (.inr (.inr ⟨beq_eq hb, h.symm⟩))))
  · cases h

theorem orcs {W : World} (hm : ∃ m, W.cell? ⟨2, 0, none⟩ = some (.int .i64 m)) : OrcOK C0 W where
  ok f g h := by
    rcases orcF_cases h with ⟨rfl, rfl⟩ | ⟨rfl, rfl⟩ | ⟨rfl, rfl⟩ | ⟨rfl, rfl⟩ | ⟨rfl, rfl⟩ | ⟨rfl, rfl⟩
    · exact orcIndex_ok (C := C0) hm fun s sub m w h1 h2 => Tryz.stringslite_Index s sub m w h1 h2
    · exact orcRune_ok (C := C0) fun s r w h1 h2 => Tryz.strings_IndexRune_ascii s r w h1 h2
    · exact orcRepeat_ok (C := C0) fun s c w h1 h2 => Tryz.strings_Repeat s c w h1 h2
    · exact orcJoin_ok (C := C0) (fun a c sep w => Tryz.strings_Join_none a c sep w) fun bk o c xs sep w h1 h2 h3 h4 h5 => Tryz.strings_Join bk o c xs sep w h1 h2 h3 h4 h5
    · exact orcReplace_ok (C := C0) hm fun s old new n m w h1 h2 h3 h4 => Tryz.strings_Replace s old new n m w h1 h2 h3 h4
    · exact orcGrow_ok (C := C0) fun b n w h1 h2 h3 => grow_cell Tryz.lays241 Tryz.Builder_Extra_241 b n w h1 h2 h3
  ent f g h := by
    intro args h' r _
    rcases orcF_cases h with ⟨rfl, rfl⟩ | ⟨rfl, rfl⟩ | ⟨rfl, rfl⟩ | ⟨rfl, rfl⟩ | ⟨rfl, rfl⟩ | ⟨rfl, rfl⟩ <;> kernel_rfl
  pure f g h := by
    intro hp args h' v k e
    rcases orcF_cases h with ⟨rfl, rfl⟩ | ⟨rfl, rfl⟩ | ⟨rfl, rfl⟩ | ⟨rfl, rfl⟩ | ⟨rfl, rfl⟩ | ⟨rfl, rfl⟩
    · exact absurd hp (by rw [show C0.pure 104 = false by kernel_rfl]; simp)
    · exact absurd hp (by rw [show C0.pure 266 = false by kernel_rfl]; simp)
    · exact absurd hp (by rw [show C0.pure 139 = false by kernel_rfl]; simp)
    · exact orcJoin_pure e
    · exact absurd hp (by rw [show C0.pure 244 = false by kernel_rfl]; simp)
    · exact absurd hp (by rw [show C0.pure 150 = false by kernel_rfl]; simp)
  rnd := by kernel_rfl
  memo f args r h := by cases h
  once _ call H := onceA_ok (C := C0) rfl H
  onceE _ := by kernel_rfl
  onceP _ := by kernel_rfl

/-- The tables' entries hold. -/
theorem tables {W : World} (G : GOK C0 W) (A : OrcOK C0 W) : ∀ e, e ∈ L2 ++ L1 → EntOK Tryz.prog W e.f e.args e.res := by
  have h1 : ∀ e, e ∈ L1 ++ [] → EntOK C0.P W e.f e.args e.res := level_ok (l := []) (n := 100000) G names A (fun e h => by cases h) fun e h => by
    simp only [L1, List.mem_cons, List.not_mem_nil, or_false] at h
    rcases h with rfl | rfl | rfl | rfl | rfl | rfl | rfl | rfl | rfl | rfl | rfl
    · exact ⟨⟨by kernel_rfl, by decide⟩, h1⟩
    · exact ⟨⟨by kernel_rfl, by decide⟩, h2⟩
    · exact ⟨⟨by kernel_rfl, by decide⟩, h3⟩
    · exact ⟨⟨by kernel_rfl, by decide⟩, h4⟩
    · exact ⟨⟨by kernel_rfl, by decide⟩, h5⟩
    · exact ⟨⟨by kernel_rfl, by decide⟩, h6⟩
    · exact ⟨⟨by kernel_rfl, by decide⟩, h7⟩
    · exact ⟨⟨by kernel_rfl, by decide⟩, h8⟩
    · exact ⟨⟨by kernel_rfl, by decide⟩, h9⟩
    · exact ⟨⟨by kernel_rfl, by decide⟩, h10⟩
    · exact ⟨⟨by kernel_rfl, by decide⟩, h11⟩
  rw [List.append_nil] at h1
  exact level_ok (l := L1) (n := 100000) G names A h1 fun e h => by
    simp only [L2, List.mem_cons, List.not_mem_nil, or_false] at h
    rcases h with rfl | rfl
    · exact ⟨⟨by kernel_rfl, by decide⟩, h12⟩
    · exact ⟨⟨by kernel_rfl, by decide⟩, h13⟩

/-- The example is true. -/
theorem small_calls {W : World} (G : GOK C0 W) (A : OrcOK C0 W) {w : World} (hB : Below W.heap.size W w) :
    Calls Tryz.prog 4 #[] w fun e w' => e = .returned (.bool true) ∧ Below w.heap.size w w' := by
  have h := small_run
  unfold isTrue0 at h
  split at h
  · rename_i k hk
    have H := with_ok G names A (tables G A) 100000
    exact run_plain H (by decide) hk hB (vs := []) rfl rfl
  · cases h
end Go.Proofs.YtfbnfdcbcobogaaGreatDoor
