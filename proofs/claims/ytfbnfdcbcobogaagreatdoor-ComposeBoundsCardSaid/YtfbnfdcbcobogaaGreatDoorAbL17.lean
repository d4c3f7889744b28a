/-
  compose.Bound hands back the first candidate that is left out; the law.
-/
import Derived.Test.YtfbnfdcbcobogaaGreatDoorAbS17
import Derived.Test.YtfbnfdcbcobogaaGreatDoorAbT17
import Derived.Test.YtfbnfdcbcobogaaGreatDoorAbW17
namespace Go.Proofs.YtfbnfdcbcobogaaGreatDoor
open Go Go.Ab Go.Ab.P17 Go.RowKit Go.ChangeAt

def bs (l : List UInt8) : ByteArray := ⟨l.toArray⟩
theorem bs_data (l : List UInt8) : (bs l).data.toList = l := by simp [bs]
theorem bs_size (l : List UInt8) : (bs l).size = l.length := by show l.toArray.size = _; simp

section
variable {W : World} (G : GOK C0 W) (A : OrcOK C0 W)
include G A
theorem text_any (n : Nat) (hn : n < 1000) {w : World} (hB : Below W.heap.size W w) :
    Calls Tryz.prog 8 #[.int .i64 n] w fun e w' => e = .returned (.string (bs (dg n))) ∧ Below w.heap.size w w' := by
  obtain ⟨h', h⟩ := text_run n hn
  exact run_plain (callN_ok G names A 1000) (by decide) h hB (vs := [.int .i64 n]) rfl rfl
theorem parse_any (n : Nat) (hn : n < 1000) {w : World} (hB : Below W.heap.size W w) :
    Calls Tryz.prog 6 #[.string (bs (dg n)), .int .i64 0, .int .i64 2000] w fun e w' => e = .returned (.tuple #[.int .i64 n, .bool true]) ∧ Below w.heap.size w w' := by
  obtain ⟨h', h⟩ := parse_run n hn
  exact run_plain (callN_ok G names A 1000) (by decide) h hB (vs := [.string (bs (dg n)), .int .i64 0, .int .i64 2000]) rfl rfl
end

theorem bs_cat1 (l : List UInt8) : ({ data := #[98] } ++ bs l : ByteArray) = bs (98 :: l) := by
  apply ByteArray.ext
  rw [ByteArray.data_append]
  apply Array.ext'
  simp [bs]
theorem bs_cat2 (l : List UInt8) : ({ data := #[45, 45] } ++ bs l : ByteArray) = bs (45 :: 45 :: l) := by
  apply ByteArray.ext
  rw [ByteArray.data_append]
  apply Array.ext'
  simp [bs]
theorem bs_cat3 (l : List UInt8) : ({ data := #[45, 45, 98] } ++ bs l : ByteArray) = bs (45 :: 45 :: 98 :: l) := by
  apply ByteArray.ext
  rw [ByteArray.data_append]
  apply Array.ext'
  simp [bs]
theorem dg_size (k : Nat) : 1 ≤ (bs (dg k)).size ∧ (bs (dg k)).size ≤ 3 := by rw [bs_size]; exact dg_len k

theorem cont_at {W : World} (hm : ∃ m, W.cell? ⟨2, 0, none⟩ = some (.int .i64 m)) (s : ByteArray) (hs : s.size ≤ 2000) (k : Nat) (b : Bool) (hc : Lib.contains s.data.toList (cand k) = b) {w : World} (hB : Below W.heap.size W w) :
    Calls Tryz.prog 13 #[.string s, .string ({ data := #[45, 45] } ++ ({ data := #[98] } ++ bs (dg k)))] w fun e w' => e = .returned (.bool b) ∧ w' = w := by
  obtain ⟨m, hm⟩ := hm
  have hlt : 2 < W.heap.size := by
    rcases Nat.lt_or_ge 2 W.heap.size with q | q
    · exact q
    · simp [World.cell?, Array.getElem?_eq_none q] at hm
  have hcell : w.cell? ⟨2, 0, none⟩ = some (.int .i64 m) := (hB.cell (p := ⟨2, 0, none⟩) hlt).trans hm
  have h := Tryz.strings_Contains s ({ data := #[45, 45] } ++ ({ data := #[98] } ++ bs (dg k))) m w (by omega) hcell
  rw [bs_cat1, bs_cat2] at h ⊢
  rw [bs_data] at h
  rw [show Lib.contains s.data.toList (45 :: 45 :: 98 :: dg k) = b from hc] at h
  exact h

set_option maxRecDepth 100000 in
set_option maxHeartbeats 1000000 in
theorem bound_any {W : World} (G : GOK C0 W) (A : OrcOK C0 W) (hm : ∃ m, W.cell? ⟨2, 0, none⟩ = some (.int .i64 m)) (s : ByteArray) (hs : s.size ≤ 2000) (n0 : Nat) (hn0 : n0 < 1000)
    (hno : Lib.contains s.data.toList (cand n0) = false) (hyes : ∀ k, k < n0 → Lib.contains s.data.toList (cand k) = true) {w : World} (hB : Below W.heap.size W w) :
    Calls Tryz.prog 5 #[.string s] w fun e w' => e = .returned (.string (bs (98 :: dg n0))) ∧ Below w.heap.size w w' := by
  have HM := Go.Lib.hid hm
  have HN := Go.Lib.hid hno
  have HY := Go.Lib.hid hyes
  clear hno hyes hm
  go_enter Tryz.func5, Tryz.ntmps5
  go_wp2
  go_loopw [3] (fun i w1 => ∃ k : Nat, k ≤ n0 ∧ i = .int .i64 k ∧ Below w.heap.size w w1) (fun i _ => n0 - (intOf i).toNat)
  case atStart => exact ⟨0, Nat.zero_le _, rfl, Below.refl _ _⟩
  case round =>
    obtain ⟨k, hk, rfl, hb⟩ := hrel
    have hBk := hB.trans (hb.mono hB.size)
    have HT := fun {w2 : World} (h : Below W.heap.size W w2) => text_any G A k (by omega) h
    obtain ⟨hsz1, hsz2⟩ := dg_size k
    by_cases hlt : k < n0
    · have HC := fun {w2 : World} (h : Below W.heap.size W w2) => cont_at HM s hs k true (HY k hlt) h
      go_wp2_with (first | (go_at_call 8; refine (HT hBk).mono ?_; rintro e w' ⟨rfl, hb2⟩) | (go_at_call 13; refine (HC (hBk.trans (hb2.mono hBk.size))).mono ?_; rintro e w2 ⟨rfl, rfl⟩))
      go_roundw
      case rel => exact ⟨k + 1, by omega, by go_num, hb.trans (hb2.mono hb.size)⟩
      case measure => simp [intOf]; omega
    · have hk0 : n0 = k := by omega
      subst hk0
      have HC := fun {w2 : World} (h : Below W.heap.size W w2) => cont_at HM s hs n0 false HN h
      go_wp2_with (first | (go_at_call 8; refine (HT hBk).mono ?_; rintro e w' ⟨rfl, hb2⟩) | (go_at_call 13; refine (HC (hBk.trans (hb2.mono hBk.size))).mono ?_; rintro e w2 ⟨rfl, rfl⟩))
      go_ret
      exact ⟨by rw [bs_cat1]; rfl, hb.trans (hb2.mono hb.size)⟩

theorem bs_tail (n : Nat) : (bs (98 :: dg n)).extract 1 (bs (98 :: dg n)).size = bs (dg n) := by
  apply ByteArray.ext
  apply Array.ext'
  have := Lib.extract_to_end (bs (98 :: dg n)) 1
  rw [this, bs_data, bs_data]
  rfl

set_option maxRecDepth 100000 in
set_option maxHeartbeats 2000000 in
theorem law_any {W : World} (G : GOK C0 W) (A : OrcOK C0 W) (hm : ∃ m, W.cell? ⟨2, 0, none⟩ = some (.int .i64 m)) (s : ByteArray) (hs0 : s.size ≤ maxLen) :
    Calls Tryz.prog 3 #[.string s] W fun e w' => e = .returned (.bool true) ∧ Below W.heap.size W w' := by
  unfold maxLen at hs0
  by_cases hs : s.size ≤ 2000
  · obtain ⟨n0, hn0, hno, hyes⟩ := first_out s.data.toList (by simpa using hs)
    have HM := Go.Lib.hid hm
    have HN := Go.Lib.hid hno
    have HY := Go.Lib.hid hyes
    clear hno hyes hm
    have HB := fun {w2 : World} (h : Below W.heap.size W w2) => bound_any G A HM s hs n0 hn0 HN HY h
    have HP := fun {w2 : World} (h : Below W.heap.size W w2) => parse_any G A n0 hn0 h
    have HS := fun {w2 : World} (h : Below W.heap.size W w2) => small_calls G A h
    obtain ⟨hsz1, hsz2⟩ := dg_size n0
    have hbsz : (bs (98 :: dg n0)).size = (bs (dg n0)).size + 1 := by rw [bs_size, bs_size]; rfl
    have HZ := Go.Lib.hid hbsz
    have hb1 : 2 ≤ (bs (98 :: dg n0)).size := by omega
    have hb2 : (bs (98 :: dg n0)).size ≤ 4 := by omega
    clear hbsz
    have he : (bs (98 :: dg n0)).extract (min ((bs (98 :: dg n0)).size : Int) 1).toNat (bs (98 :: dg n0)).size = bs (dg n0) := by
      rw [show (min ((bs (98 :: dg n0)).size : Int) 1).toNat = 1 by omega]
      exact bs_tail n0
    have HP' : ∀ {w2 : World}, Below W.heap.size W w2 → Calls Tryz.prog 6 #[.string ((bs (98 :: dg n0)).extract (min ((bs (98 :: dg n0)).size : Int) 1).toNat (bs (98 :: dg n0)).size), .int .i64 0, .int .i64 2000] w2 fun e w' => e = .returned (.tuple #[.int .i64 n0, .bool true]) ∧ Below w2.heap.size w2 w' := by
      intro w2 h
      rw [he]
      exact HP h
    have HW : ∀ w2 : World, Calls Tryz.prog 7 #[.string s, .string ({ data := #[45, 45] } ++ bs (98 :: dg n0))] w2 fun e w' => e = .returned (.bool false) ∧ w' = w2 := by
      intro w2
      have h := within_any s ({ data := #[45, 45] } ++ bs (98 :: dg n0)) w2 hs (by rw [bs_cat2, bs_size]; have := (dg_len n0).2; simp; omega)
      rw [bs_cat2, bs_data, show Lib.contains s.data.toList (45 :: 45 :: 98 :: dg n0) = false from HN] at h
      rw [bs_cat2]
      exact h
    have HY2 : Hid (∀ (k : Nat) (w2 : World), k < n0 → Calls Tryz.prog 7 #[.string s, .string ({ data := #[45, 45, 98] } ++ bs (dg k))] w2 fun e w' => e = .returned (.bool true) ∧ w' = w2) := by
      intro k w2 hk
      have h := within_any s ({ data := #[45, 45, 98] } ++ bs (dg k)) w2 hs (by rw [bs_cat3, bs_size]; have := (dg_len k).2; simp; omega)
      rw [bs_cat3, bs_data, show Lib.contains s.data.toList (45 :: 45 :: 98 :: dg k) = true from HY k hk] at h
      rw [bs_cat3]
      exact h
    have h0 : (bs (98 :: dg n0))[0]? = some 98 := rfl
    clear he HP
    go_enter Tryz.func3, Tryz.ntmps3
    go_wp2_with (first | (go_at_call 4; refine (HS (Below.refl _ _)).mono ?_; rintro e w1 ⟨rfl, h1⟩) | (go_at_call 5; refine (HB h1).mono ?_; rintro e w2 ⟨rfl, h2⟩) | (go_at_call 6; refine (HP' (h1.trans (h2.mono h1.size))).mono ?_; rintro e w3 ⟨rfl, h3⟩) | (go_at_call 7; refine (HW _).mono ?_; rintro e w4 ⟨rfl, rfl⟩))
    have h123 : Below W.heap.size W w4 := (h1.trans (h2.mono h1.size)).trans (h3.mono (Nat.le_trans h1.size h2.size))
    go_loopw [7] (fun i wr => ∃ k : Nat, k ≤ n0 ∧ i = .int .i64 k ∧ Below W.heap.size W wr) (fun i _ => n0 - (intOf i).toNat)
    case atStart => exact ⟨0, Nat.zero_le _, rfl, h123⟩
    case round =>
      obtain ⟨k, hk, rfl, hb⟩ := hrel
      by_cases hlt : k < n0
      · have HT := fun {w2 : World} (h : Below W.heap.size W w2) => text_any G A k (by omega) h
        obtain ⟨hk1, hk2⟩ := dg_size k
        have HWk := fun (w2 : World) => HY2 k w2 hlt
        go_wp2_with (first | (go_at_call 8; refine (HT hb).mono ?_; rintro e w5 ⟨rfl, h5⟩) | (go_at_call 7; refine (HWk _).mono ?_; rintro e w6 ⟨rfl, rfl⟩))
        go_roundw
        case rel => exact ⟨k + 1, by omega, by go_num, hb.trans (h5.mono hb.size)⟩
        case measure => simp [intOf]; omega
      · obtain rfl : n0 = k := by omega
        go_wp2
        go_ret
        exact ⟨rfl, hb⟩
  · have HS := fun {w2 : World} (h : Below W.heap.size W w2) => small_calls G A h
    go_enter Tryz.func3, Tryz.ntmps3
    go_wp2_with (go_at_call 4; refine (HS (Below.refl _ _)).mono ?_; rintro e w1 ⟨rfl, h1⟩)
    go_ret
    exact ⟨rfl, h1⟩
end Go.Proofs.YtfbnfdcbcobogaaGreatDoor
