/-
  (*strings.Builder).grow as the abstract machine takes it; sync.Once.
-/
import Derived.Test.YtfbnfdcbcobogaaGreatDoorAbG
import Derived.Laws.NewBlocks
namespace Go.Ab
open Go.RowKit Go.Shelf

section
variable {C : Ctx} {w0 : World} {ρ : Nat → Option Nat} {O S : Nat → Prop} {h : Hp} {w : World}

theorem orcGrow_ok {f : Nat} {u8 : TypeId}
    (hc : ∀ (b n : Nat) (w : World), w.cell? ⟨b, 1, none⟩ = some (.slice none 0 0) → w.frozen? ⟨b, 1, none⟩ = false → n ≤ 281474976710656 →
      Calls C.P f #[.pointer (some ⟨b, 0, none⟩), .int .i64 n] w fun e w' => e = .returned (.tuple #[]) ∧
        ∃ cs : Array Value, w' = ((w.setCell ⟨b, 1, none⟩ (.slice (some ⟨w.heap.size, 0, none⟩) 0 cs.size)).alloc (.cells cs u8)).drew.drew.drew) : CallOK C w0 f (orcGrow u8) := by
  intro args h r h' e ρ O S w vs I hv
  unfold orcGrow at e
  split at e
  case h_2 => cases e
  rename_i b o n
  split at e
  case h_2 => cases e
  rename_i n
  split at e
  case h_2 => cases e
  split at e
  case h_2 => cases e
  rename_i hn
  have hn := Nat.le_of_ble_eq_true hn
  split at e
  case h_2 => cases e
  rename_i ty cs hg
  split at e
  case h_2 => cases e
  rename_i v hv1
  split at e
  case h_2 => cases e
  rename_i c
  split at e
  case h_2 => cases e
  split at e
  case h_2 => cases e
  rename_i cs' hset
  simp only [Option.some.injEq, Prod.mk.injEq] at e
  obtain ⟨rfl, rfl⟩ := e
  obtain ⟨v1, _, rfl, h1, v2, _, rfl, h2, rfl⟩ := hv
  obtain ⟨cb, hcb, rfl⟩ := h1
  simp only [VR] at h2
  subst h2
  obtain ⟨u, hu, hru⟩ := I.cell hcb hg hv1
  simp only [VR] at hru
  subst hru
  obtain ⟨hO, _⟩ := block_ok I hcb hg
  have hltb := (I.own cb hO).2
  obtain ⟨_, _, hfz⟩ := I.put1 (u := .slice none 0 0) (v := .val (.slice none 0 0)) (cs' := (setX cs 1 (.val (.slice none 0 0))).getD []) hcb hg (by
    obtain ⟨hle, _⟩ := putX_some.1 hset
    have : setX cs 1 (.val (.slice none 0 0)) = some (cs.take 1 ++ [.val (.slice none 0 0)] ++ cs.drop (1 + [AV.val (.slice none 0 0)].length)) := putX_some.2 ⟨by simpa using hle, rfl⟩
    rw [this]
    rfl) rfl
  refine (hc cb n w hu hfz (by omega)).mono ?_
  rintro e w' ⟨rfl, xs, rfl⟩
  obtain ⟨I1, E1⟩ := newCells (w' := w.alloc (.cells xs u8)) (vs := []) (ex := xs.toList) (e := u8) (fr := (0, 0)) (cs := []) I (by show w.heap.push _ = _; simp) rfl rfl rfl noFrozen rfl
  have hcb1 := E1.sub b cb hcb
  have hg1 : (h.new (.cells u8 [])).get b = some (.cells ty cs) := HpLe.new _ _ _ _ hg
  have hsh : (w.alloc (.cells xs u8)).shape? w.heap.size = some (u8, xs.size) := by
    have : (w.alloc (.cells xs u8)).heap[w.heap.size]? = some (.cells xs u8) := by show (w.heap.push _)[_]? = _; simp
    simp only [World.shape?, this]
  obtain ⟨I2, E2, _⟩ := I1.put1 (v := .sl h.nx 0 0 1) (u := .slice (some ⟨w.heap.size, 0, none⟩) 0 xs.size) hcb1 hg1 hset ⟨w.heap.size, ρnew_self _ _ _, .inl ⟨xs.size, u8, xs.size, rfl, Nat.zero_le _, hsh, by omega⟩⟩
  rw [World.setCell_alloc_past _ _ _ _ hltb] at I2 E2
  obtain ⟨I3, E3⟩ := I2.drew
  obtain ⟨I4, E4⟩ := I3.drew
  obtain ⟨I5, E5⟩ := I4.drew
  exact ⟨_, _, _, rfl, I5, ⟨[], rfl, rfl⟩, (((E1.trans E2).trans E3).trans E4).trans E5⟩
end
end Go.Ab
