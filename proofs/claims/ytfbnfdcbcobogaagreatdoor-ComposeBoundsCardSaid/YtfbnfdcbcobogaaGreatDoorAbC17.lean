/-
  The seat's context: which functions are pure, which are taken from the shelf, what the package-level variables hold.
-/
import Derived.Test.YtfbnfdcbcobogaaGreatDoorProg
import Derived.Test.YtfbnfdcbcobogaaGreatDoorAbK
namespace Go.Proofs.YtfbnfdcbcobogaaGreatDoor
open Go Go.Ab

noncomputable def u8s (l : List Nat) : List AV := mapL (fun n => AV.int .u8 (.ofNat n)) l
noncomputable def first8 : List AV :=
  u8s (repX 128 [240] ++ repX 66 [241] ++ repX 30 [2] ++ [19] ++ repX 12 [3] ++ [35] ++ repX 2 [3] ++ [52] ++ repX 3 [4] ++ [68] ++ repX 11 [241])
noncomputable def accept8 : List AV := u8s ([128, 191, 160, 191, 128, 159, 144, 191, 128, 143] ++ repX 22 [0])
noncomputable def pow10s : List AV := mapL (fun n => AV.int .u64 (.ofNat (Nat.pow 10 n))) [0, 1, 2, 3, 4, 5, 6, 7, 8, 9, 10, 11, 12, 13, 14, 15, 16, 17, 18, 19]
noncomputable def strs8 (l : List (List UInt8)) : List AV := mapL AV.str l
def days8 : List (List UInt8) := [[115, 117, 110], [109, 111, 110], [116, 117, 101], [119, 101, 100], [116, 104, 117], [102, 114, 105], [115, 97, 116]]
def months8 : List (List UInt8) := [[106, 97, 110], [102, 101, 98], [109, 97, 114], [97, 112, 114], [109, 97, 121], [106, 117, 110], [106, 117, 108], [97, 117, 103], [115, 101, 112], [111, 99, 116], [110, 111, 118], [100, 101, 99]]
def entK : List (List UInt8) := [[97, 109, 112], [97, 112, 111, 115], [103, 116], [108, 116], [110, 98, 115, 112], [113, 117, 111, 116]]
def entV : List Nat := [38, 39, 62, 60, 32, 34]
noncomputable def entM : AV := .mtree true (mapL (fun l => Value.string ⟨l.toArray⟩) entK) (mapL (fun n => AV.int .i32 (.ofNat n)) entV)

noncomputable def glob (g : Nat) : Option AV :=
  match Nat.beq g 0 with
  | true => some (.tptr true (strs8 days8))
  | false => match Nat.beq g 1 with
    | true => some (.tptr true (strs8 months8))
    | false => match Nat.beq g 5 with
      | true => some (.tptr true first8)
      | false => match Nat.beq g 6 with
        | true => some (.tptr true accept8)
        | false => match Nat.beq g 7 with
          | true => some (.tptr true pow10s)
          | false => none
def mask : Nat := 8148143905337944347282341584636204164505384527680296648089185934919131868236380044099597344
def pureF (f : FuncId) : Bool := Nat.beq (Nat.mod (Nat.shiftRight mask f) 2) 1
noncomputable def orcF (f : FuncId) : Option (List AV → Hp → Option (AV × Hp)) :=
  match Nat.beq f 104 with
  | true => some orcIndex
  | false => match Nat.beq f 266 with
    | true => some orcRune
    | false => match Nat.beq f 139 with
      | true => some orcRepeat
      | false => match Nat.beq f 25 with
        | true => some orcJoin
        | false => match Nat.beq f 244 with
          | true => some orcReplace
          | false => match Nat.beq f 150 with
            | true => some (orcGrow 5)
            | false => none
noncomputable def C0 : Ctx := { P := Tryz.prog, D := 4, G := glob, pure := pureF, orc := orcF, dyn := false, same := fun f => Nat.beq f 206, inr := false, once := 207, memo := fun _ _ => none }
noncomputable def run0 (f : FuncId) (args : List AV) : Option (AV × Hp) := callN C0 100000 f args Hp.empty
def isTrue0 : Option (AV × Hp) → Bool
  | some (.bool true, _) => true
  | _ => false
end Go.Proofs.YtfbnfdcbcobogaaGreatDoor
