/-
  The abstract machine: a call of a Go function run on trees of data (no addresses, no world), with fuel. Definitions alone. Its soundness against the model is proved in the texts Ab2, Ab3, ...
-/
import Derived.Orders
import Derived.LoopN
import Derived.RangeFuncLeaves
import Derived.OrdersIn
import Derived.LoopNIn
import Derived.Below
namespace Go.Ab

/-- Values of the abstract machine: 'lst' a slice whose memory nobody writes any more ('q': lent by the caller), 'tptr' a pointer to such memory; 'ptr', 'sl', 'mapr' name blocks of the machine's own heap. -/
inductive AV where
  | undef
  | int (k : IntKind) (n : Int)
  | bool (b : Bool)
  | str (l : List UInt8)
  | val (v : Value)
  | agg (cs : List AV)
  | tup (vs : List AV)
  | lst (q : Bool) (z n : Nat) (cs : List AV)
  | tptr (q : Bool) (cs : List AV)
  | ptr (b o : Nat)
  | sl (b o n z : Nat)
  | fn (f : FuncId) (caps : List AV)
  | mv (f : FuncId) (first : List AV)
  | mapr (b : Nat)
  | mtree (q : Bool) (ks : List Value) (vs : List AV)
  | iface (t : TypeId) (v : AV)
  | rnd (b : Nat)
  deriving Inhabited

/-- A function, boxed: the kernel evaluates a box once, however often it is opened. -/
structure Bx (α : Type) where
  f : α

/-! Small functions, written by recursors: the kernel runs them. -/

/-- A digit of a key. -/
inductive Qd where
  | a | b | c | d
  deriving DecidableEq
inductive Tr (α : Type) where
  | nil
  | leaf (v : α)
  | node (a b c d : Tr α)

def qd : Nat → Qd
  | 0 => .a
  | 1 => .b
  | 2 => .c
  | _ => .d
noncomputable def digits (n : Nat) : Nat → List Qd :=
  Nat.rec (motive := fun _ => Nat → List Qd) (fun _ => []) (fun _ ih k => qd (Nat.mod k 4) :: ih (Nat.div k 4)) n
noncomputable def path (n k : Nat) : Option (List Qd) := match Nat.blt k (Nat.pow 4 n) with
  | true => some (digits n k)
  | false => none
noncomputable def Tr.getP {α : Type} (p : List Qd) : Bx (Tr α → Option α) :=
  List.rec (motive := fun _ => Bx (Tr α → Option α)) (.mk fun t => Tr.rec (motive := fun _ => Option α) none (fun v => some v) (fun _ _ _ _ _ _ _ _ => none) t)
    (fun q _ ih => Qd.rec (motive := fun _ => Bx (Tr α → Option α))
      (.mk fun t => Tr.rec (motive := fun _ => Option α) none (fun _ => none) (fun a _ _ _ _ _ _ _ => ih.f a) t)
      (.mk fun t => Tr.rec (motive := fun _ => Option α) none (fun _ => none) (fun _ b _ _ _ _ _ _ => ih.f b) t)
      (.mk fun t => Tr.rec (motive := fun _ => Option α) none (fun _ => none) (fun _ _ c _ _ _ _ _ => ih.f c) t)
      (.mk fun t => Tr.rec (motive := fun _ => Option α) none (fun _ => none) (fun _ _ _ d _ _ _ _ => ih.f d) t) q) p
/-- The tree with v laid at a path, evaluated along it, handed on. -/
noncomputable def Tr.setP {α β : Type} (p : List Qd) : Bx (Tr α → α → (Tr α → β) → β) :=
  List.rec (motive := fun _ => Bx (Tr α → α → (Tr α → β) → β)) (.mk fun _ v c => c (.leaf v))
    (fun q _ ih => Qd.rec (motive := fun _ => Bx (Tr α → α → (Tr α → β) → β))
      (.mk fun t v k => Tr.rec (motive := fun _ => β) (ih.f .nil v fun x => k (.node x .nil .nil .nil)) (fun _ => ih.f .nil v fun x => k (.node x .nil .nil .nil)) (fun a b c d _ _ _ _ => ih.f a v fun x => k (.node x b c d)) t)
      (.mk fun t v k => Tr.rec (motive := fun _ => β) (ih.f .nil v fun x => k (.node .nil x .nil .nil)) (fun _ => ih.f .nil v fun x => k (.node .nil x .nil .nil)) (fun a b c d _ _ _ _ => ih.f b v fun x => k (.node a x c d)) t)
      (.mk fun t v k => Tr.rec (motive := fun _ => β) (ih.f .nil v fun x => k (.node .nil .nil x .nil)) (fun _ => ih.f .nil v fun x => k (.node .nil .nil x .nil)) (fun a b c d _ _ _ _ => ih.f c v fun x => k (.node a b x d)) t)
      (.mk fun t v k => Tr.rec (motive := fun _ => β) (ih.f .nil v fun x => k (.node .nil .nil .nil x)) (fun _ => ih.f .nil v fun x => k (.node .nil .nil .nil x)) (fun a b c d _ _ _ _ => ih.f d v fun x => k (.node a b c x)) t) q) p
/-- 'n': how many digits a key has -/
noncomputable def Tr.getB {α : Type} (n k : Nat) : Bx (Tr α → Option α) := match path n k with
  | some p => Tr.getP p
  | none => .mk fun _ => none
noncomputable def Tr.get {α : Type} (n k : Nat) : Tr α → Option α := (Tr.getB n k).f
noncomputable def Tr.setB {α β : Type} (n k : Nat) : Bx (Tr α → α → (Tr α → β) → β) := match path n k with
  | some p => Tr.setP p
  | none => .mk fun t _ c => c t
noncomputable def Tr.setK {α β : Type} (n k : Nat) : Tr α → α → (Tr α → β) → β := (Tr.setB n k).f

noncomputable def nth {α : Type} (l : List α) : Nat → Option α :=
  List.rec (motive := fun _ => Nat → Option α) (fun _ => none) (fun a _ ih k => Nat.rec (some a) (fun k _ => ih k) k) l
/-- the list without its first n; none where it has fewer -/
noncomputable def dropX {α : Type} (n : Nat) : List α → Option (List α) :=
  Nat.rec (motive := fun _ => List α → Option (List α)) (fun l => some l) (fun _ ih l => List.casesOn l none (fun _ r => ih r)) n
/-- its first n; none where it has fewer -/
noncomputable def takeX {α : Type} (n : Nat) : List α → Option (List α) :=
  Nat.rec (motive := fun _ => List α → Option (List α)) (fun _ => some []) (fun _ ih l => List.casesOn l none (fun a r => Option.rec none (fun t => some (a :: t)) (ih r))) n
noncomputable def overX {α : Type} (new : List α) : List α → Option (List α) :=
  List.rec (motive := fun _ => List α → Option (List α)) (fun l => some l) (fun v _ ih l => List.casesOn l none (fun _ r => Option.rec none (fun t => some (v :: t)) (ih r))) new
/-- 'new' laid over the list from place o on; none where it does not fit -/
noncomputable def putX {α : Type} (o : Nat) (new : List α) : List α → Option (List α) :=
  Nat.rec (motive := fun _ => List α → Option (List α)) (fun l => overX new l) (fun _ ih l => List.casesOn l none (fun a r => Option.rec none (fun t => some (a :: t)) (ih r))) o
noncomputable def repX {α : Type} (n : Nat) (z : List α) : List α :=
  Nat.rec (motive := fun _ => List α) [] (fun _ ih => z ++ ih) n
noncomputable def eqL (a : List UInt8) : List UInt8 → Bool :=
  List.rec (motive := fun _ => List UInt8 → Bool) (fun b => List.casesOn b true (fun _ _ => false))
    (fun x _ ih b => List.casesOn b false (fun y r => Bool.rec false (ih r) (Nat.beq x.toNat y.toNat))) a

def keq : IntKind → IntKind → Bool
  | .i8, .i8 | .i16, .i16 | .i32, .i32 | .i64, .i64 | .u8, .u8 | .u16, .u16 | .u32, .u32 | .u64, .u64 => true
  | _, _ => false
def hiB : IntKind → Nat
  | .i8 => 128 | .i16 => 32768 | .i32 => 2147483648 | .i64 => 9223372036854775808
  | .u8 => 256 | .u16 => 65536 | .u32 => 4294967296 | .u64 => 18446744073709551616
def wrapF (k : IntKind) (n : Int) : Int :=
  match n with
  | .ofNat m => match Nat.blt m (hiB k) with
    | true => .ofNat m
    | false => k.wrap (.ofNat m)
  | .negSucc m => k.wrap (.negSucc m)
def addI : Int → Int → Int
  | .ofNat m, .ofNat n => .ofNat (Nat.add m n)
  | a, b => a + b
def subI : Int → Int → Int
  | .ofNat m, .ofNat n => match Nat.ble n m with
    | true => .ofNat (Nat.sub m n)
    | false => .negSucc (Nat.sub (Nat.sub n m) 1)
  | a, b => a - b
def mulI : Int → Int → Int
  | .ofNat m, .ofNat n => .ofNat (Nat.mul m n)
  | a, b => a * b
def eqI : Int → Int → Bool
  | .ofNat m, .ofNat n => Nat.beq m n
  | .negSucc m, .negSucc n => Nat.beq m n
  | _, _ => false
def ltI : Int → Int → Bool
  | .ofNat m, .ofNat n => Nat.blt m n
  | .ofNat _, .negSucc _ => false
  | .negSucc _, .ofNat _ => true
  | .negSucc m, .negSucc n => Nat.blt n m
def notB : Bool → Bool
  | true => false
  | false => true

/-- How a range over a function stands: a round may begin; a round is at work; a round has left. -/
inductive LS where
  | ready | busy | done

inductive Blk where
  | cells (e : TypeId) (cs : List AV)
  | map (clock : Nat) (es : List (Value × Nat × AV))
  | iter (pos : Nat) (all rest : List UInt8)
  | loop (st : LS) (pe : Option Exit) (T : Tr AV) (N D : Nat) (ps : List Tmp) (assign body : Code)
  | dead

structure Hp where
  H : Tr Blk
  nx : Nat

/-- digits of a block's number -/
def hD : Nat := 9

def Hp.empty : Hp := { H := .nil, nx := 0 }
noncomputable def Hp.get (h : Hp) (b : Nat) : Option Blk := match Nat.blt b h.nx with
  | true => Tr.get hD b h.H
  | false => none
noncomputable def Hp.set (h : Hp) (b : Nat) (x : Blk) : Hp := match h with
  | ⟨H, n⟩ => Tr.setK hD b H x fun H => ⟨H, n⟩
noncomputable def Hp.new (h : Hp) (x : Blk) : Hp := match h with
  | ⟨H, n⟩ => Tr.setK hD n H x fun H => ⟨H, Nat.succ n⟩

/-! What is handed on, evaluated: each is the identity ahead of its continuation. -/
noncomputable def forceN {β : Type} (n : Nat) (c : Nat → β) : β := Nat.rec (motive := fun _ => β) (c 0) (fun m _ => c (Nat.succ m)) n
noncomputable def forceI {β : Type} (i : Int) (c : Int → β) : β := match i with
  | .ofNat n => forceN n fun n => c (.ofNat n)
  | .negSucc n => forceN n fun n => c (.negSucc n)
noncomputable def forceAV {β : Type} (v : AV) (c : AV → β) : β := match v with
  | .int k n => forceI n fun n => c (.int k n)
  | .bool b => match b with
    | true => c (.bool true)
    | false => c (.bool false)
  | .str l => match l with
    | [] => c (.str [])
    | a :: l => c (.str (a :: l))
  | .ptr b o => forceN b fun b => forceN o fun o => c (.ptr b o)
  | .sl b o n z => forceN b fun b => forceN o fun o => forceN n fun n => forceN z fun z => c (.sl b o n z)
  | .lst q z n cs => forceN n fun n => c (.lst q z n cs)
  | v => c v
noncomputable def forceH {β : Type} (h : Hp) (c : Hp → β) : β := match h with
  | ⟨H, n⟩ => forceN n fun n => c ⟨H, n⟩

structure St where
  T : Tr AV
  h : Hp
  N : Nat

structure Ctx where
  P : Program
  /-- digits of a slot's number -/
  D : Nat
  G : Nat → Option AV
  pure : FuncId → Bool
  orc : FuncId → Option (List AV → Hp → Option (AV × Hp))
  /-- in a region that draws: what a function value holds must be pure -/
  dyn : Bool
  /-- functions without a text that hand back their one argument -/
  same : FuncId → Bool
  /-- within a round of a range over a function -/
  inr : Bool
  /-- what pure functions are known to come to -/
  memo : FuncId → List AV → Option AV
  /-- (*sync.Once).Do: its number -/
  once : Nat

/-- What a Sem that touches no memory comes to. -/
def pv {α : Type} (P : Program) : Sem α → Option α
  | .pure a => some a
  | .program k => pv P (k P)
  | .mark _ k => pv P k
  | _ => none

def ofV1 : Value → AV
  | .int k n => .int k n
  | .bool b => .bool b
  | .string s => .str s.data.toList
  | .agg cs => .val (.agg cs)
  | .tuple cs => .val (.tuple cs)
  | v => .val v
def ofV2 : Value → AV
  | .agg cs => .agg (cs.toList.map ofV1)
  | v => ofV1 v
def ofV : Value → AV
  | .tuple vs => match vs.toList with
    | [] => .val (.tuple #[])
    | l => .tup (l.map ofV2)
  | v => ofV2 v

mutual
def toV : AV → Option Value
  | .int k n => some (.int k n)
  | .bool b => some (.bool b)
  | .str l => some (.string ⟨l.toArray⟩)
  | .val v => some v
  | .agg cs => match toVs cs with | some vs => some (.agg vs.toArray) | none => none
  | .tup vs => match toVs vs with | some vs => some (.tuple vs.toArray) | none => none
  | .fn f [] => some (.func (.func f) #[] #[])
  | .iface t v => match toV v with | some v => some (.iface t v) | none => none
  | _ => none
def toVs : List AV → Option (List Value)
  | [] => some []
  | c :: cs => match toV c with
    | some v => match toVs cs with | some vs => some (v :: vs) | none => none
    | none => none
end

noncomputable def evB (C : Ctx) (x : Operand) : Bx (St → AV) := match x with
  | .tmp t => .mk fun s => match Tr.get C.D t s.T with | some v => v | none => .undef
  | .const v => .mk fun _ => ofV v
  | .global g => .mk fun _ => match C.G g with | some v => v | none => .undef
  | .func f => .mk fun _ => .fn f []
noncomputable def ev (C : Ctx) (x : Operand) : St → AV := (evB C x).f

noncomputable def evsB (C : Ctx) (xs : List Operand) : Bx (St → List AV) :=
  List.rec (motive := fun _ => Bx (St → List AV)) (.mk fun _ => []) (fun x _ ih => .mk fun s => ev C x s :: ih.f s) xs
noncomputable def evs (C : Ctx) (xs : List Operand) : St → List AV := (evsB C xs).f

def isAggT (P : Program) (t : TypeId) : Option Bool :=
  match P.underlying t with
  | some d => some (match d with | .struct _ => true | .array _ _ => true | _ => false)
  | none => none
def szT (P : Program) (t : TypeId) : Option Nat :=
  match P.info? t with
  | some i => some i.size
  | none => none

/-- A value of type t out of the cells from its first on. -/
noncomputable def rdCells (P : Program) (t : TypeId) (cs : List AV) : Option AV :=
  match isAggT P t with
  | some b => match b with
    | true => match szT P t with
      | some n => match takeX n cs with | some r => some (.agg r) | none => none
      | none => none
    | false => match cs with | c :: _ => some c | [] => none
  | none => none

def oneV : Value → Bool
  | .agg _ | .tuple _ => false
  | _ => true
def AV.one : AV → Bool
  | .undef | .agg _ | .tup _ => false
  | .val v => oneV v
  | _ => true
noncomputable def allOne (l : List AV) : Bool :=
  List.rec (motive := fun _ => Bool) true (fun c _ ih => Bool.rec false ih c.one) l

/-- The cells of a value that is stored. -/
noncomputable def AV.cells : AV → Option (List AV)
  | .agg cs => match allOne cs with | true => some cs | false => none
  | v => match v.one with | true => some [v] | false => none

def zeroCells (P : Program) (t : TypeId) : Option (List AV) :=
  match P.info? t with
  | some i => match i.zero with
    | some z => some (z.cells.toList.map ofV1)
    | none => none
  | none => none

def fieldOf (P : Program) (s : TypeId) (i : Nat) : Option Field :=
  match P.underlying s with
  | some (.struct fs) => fs[i]?
  | _ => none

def elemOf (P : Program) (t : TypeId) : Option TypeId :=
  match P.underlying t with
  | some (.slice e) => some e
  | _ => none

/-- What lies where a pointer points: the cells from there on. -/
noncomputable def look (h : Hp) : AV → Option (List AV)
  | .ptr b o => match h.get b with
    | some (.cells _ cs) => dropX o cs
    | _ => none
  | .tptr _ cs => some cs
  | _ => none

def ixOf : AV → Option Nat
  | .int _ i => match i with | .ofNat n => some n | .negSucc _ => none
  | _ => none

def ixI : AV → Option Nat
  | .int .i64 i => match i with | .ofNat n => some n | .negSucc _ => none
  | _ => none

noncomputable def fillA (z : Nat) (ps : List (Nat × AV)) : List AV → Option (List AV) :=
  List.rec (motive := fun _ => List AV → Option (List AV)) (fun cs => some cs)
    (fun p _ ih cs => match p.2.cells with
      | some new => match Nat.beq new.length z with
        | true => match putX (Nat.mul p.1 z) new cs with
          | some cs => ih cs
          | none => none
        | false => none
      | none => none) ps
noncomputable def fillF (P : Program) (fs : Array Field) (ps : List (Nat × AV)) : List AV → Option (List AV) :=
  List.rec (motive := fun _ => List AV → Option (List AV)) (fun cs => some cs)
    (fun p _ ih cs => match fs[p.1]? with
      | some f => match p.2.cells, szT P f.type with
        | some new, some z => match Nat.beq new.length z with
          | true => match putX f.offset new cs with
            | some cs => ih cs
            | none => none
          | false => none
        | _, _ => none
      | none => none) ps

def byteAV (b : UInt8) : AV := .int .u8 (.ofNat b.toNat)
noncomputable def mapL {α β : Type} (f : α → β) (l : List α) : List β :=
  List.rec (motive := fun _ => List β) [] (fun a _ ih => f a :: ih) l

/-- Is it a slice? -/
def isSl : AV → Bool
  | .sl .. => true
  | .lst .. => true
  | .val (.slice none 0 0) => true
  | _ => false
/-- The cells of a slice. -/
noncomputable def slCells (h : Hp) : AV → Option (List AV)
  | .sl b o n z => match h.get b with
    | some (.cells _ cs) => match dropX o cs with | some cs => takeX (Nat.mul n z) cs | none => none
    | _ => none
  | .lst _ z n cs => takeX (Nat.mul n z) cs
  | .val (.slice none 0 0) => some []
  | .str l => some (mapL byteAV l)
  | _ => none
def slLen : AV → Option Nat
  | .sl _ _ n _ => some n
  | .lst _ _ n _ => some n
  | .val (.slice none 0 0) => some 0
  | .str l => some l.length
  | _ => none

noncomputable def bytesOf (l : List AV) : Option (List UInt8) :=
  List.rec (motive := fun _ => Option (List UInt8)) (some []) (fun c _ ih => match c with
    | .int .u8 n => Option.rec none (fun r => some (UInt8.ofNat n.toNat :: r)) ih
    | _ => none) l

def byteX : AV → Option UInt8
  | .int .u8 (.ofNat m) => match Nat.blt m 256 with
    | true => some (UInt8.ofNat m)
    | false => none
  | _ => none
noncomputable def bytesS (l : List AV) : Option (List UInt8) :=
  List.rec (motive := fun _ => Option (List UInt8)) (some []) (fun c _ ih => match byteX c with
    | some b => Option.rec none (fun r => some (b :: r)) ih
    | none => none) l

def bnd : Option AV → Nat → Option Nat
  | none, d => some d
  | some v, d => match ixOf v with
    | some n => match Nat.ble n d with | true => some n | false => none
    | none => none

noncomputable def appendB (C : Ctx) (t : TypeId) : Bx (Hp → AV → AV → Option (AV × Hp)) :=
  match elemOf C.P t with
  | none => .mk fun _ _ _ => none
  | some e => match C.P.info? e with
    | none => .mk fun _ _ _ => none
    | some i => match i.zero with
      | none => .mk fun _ _ _ => none
      | some zv => match Nat.beq zv.cells.size i.size, Nat.ble 1 i.bytes with
        | true, true => .mk fun h s x => match slCells h x with
          | some new => match slLen x with
            | some m => match Nat.beq new.length (Nat.mul m i.size), allOne new, isSl s with
              | true, true, true => match m with
                | 0 => some (s, h)
                | Nat.succ _ => match s with
                  | .val _ => match Nat.ble (Nat.mul m i.bytes) 140737488355328 with
                    | true => some (.sl h.nx 0 m i.size, h.new (.cells e new))
                    | false => none
                  | .sl b o n z => match h.get b with
                    | some (.cells e' cs) => match takeX (Nat.mul n z) cs with
                      | some old => match Nat.beq z i.size, Nat.beq e e', Nat.ble (Nat.mul (Nat.add n m) i.bytes) 140737488355328, Nat.beq o 0 with
                        | true, true, true, true => some (.sl h.nx 0 (Nat.add n m) z, (h.set b .dead).new (.cells e (old ++ new)))
                        | _, _, _, _ => none
                      | none => none
                    | _ => none
                  | _ => none
              | _, _, _ => none
            | none => none
          | none => none
        | _, _ => .mk fun _ _ _ => none
noncomputable def appendA (C : Ctx) (t : TypeId) : Hp → AV → AV → Option (AV × Hp) := (appendB C t).f

/-- An operand that is plain data, as the model's value. -/
noncomputable def opVal (C : Ctx) (s : St) (x : Operand) : Value := match toV (ev C x s) with | some v => v | none => .tuple #[]
noncomputable def pureOp (C : Ctx) (o : Oper) (xs : List Operand) (s : St) : Option AV :=
  match toVs (evs C xs s) with
  | none => none
  | some _ => match pv C.P (execOp (opVal C s) o) with
    | some r => match r with
      | .value v => some (ofV v)
      | _ => none
    | none => none

/-! Maps: the entries in their order, with the model's stamps. -/
/-- Are two keys the same? none: not known. -/
noncomputable def keyEqB (P : Program) (t : TypeId) : Bx (Value → Value → Option Bool) :=
  match P.underlying t with
  | some d => match d with
    | .int _ => .mk fun k e => match k, e with
      | .int j a, .int j' b => match keq j j' with | true => some (eqI a b) | false => none
      | _, _ => none
    | .string => .mk fun k e => match k, e with
      | .string a, .string b => some (eqL a.data.toList b.data.toList)
      | _, _ => none
    | .bool => .mk fun k e => match k, e with
      | .bool a, .bool b => some (match a, b with | true, true => true | false, false => true | _, _ => false)
      | _, _ => none
    | .struct _ => .mk fun k e => pv P (Op.equal t k e)
    | _ => .mk fun _ _ => none
  | none => .mk fun _ _ => none
noncomputable def keyEq (P : Program) (t : TypeId) : Value → Value → Option Bool := (keyEqB P t).f
/-- May it be a key? -/
def keyOKB (P : Program) (t : TypeId) : Bx (Bool → Value → Bool) :=
  match P.underlying t with
  | some d => match d with
    | .int _ => .mk fun _ k => match k with | .int _ _ => true | _ => false
    | .string => .mk fun _ k => match k with | .string _ => true | _ => false
    | .bool => .mk fun _ k => match k with | .bool _ => true | _ => false
    | .struct _ => .mk fun e k => match pv P (Instr.checkKey e 10000 t k) with | some _ => true | none => false
    | _ => .mk fun _ _ => false
  | none => .mk fun _ _ => false
noncomputable def keyOK (P : Program) (t : TypeId) : Bool → Value → Bool := (keyOKB P t).f
/-- May the new key take the old one's place? (They are the same.) -/
def keySameB (P : Program) (t : TypeId) : Bx (Value → Value → Bool) :=
  match P.underlying t with
  | some (.struct _) => .mk fun k e => Instr.sameBits 10000 e k
  | _ => .mk fun _ _ => true
noncomputable def keySame (P : Program) (t : TypeId) : Value → Value → Bool := (keySameB P t).f
/-- Where the key lies. -/
noncomputable def findA (eq : Value → Option Bool) (ks : List Value) : Nat → Option (Option Nat) :=
  List.rec (motive := fun _ => Nat → Option (Option Nat)) (fun _ => some none) (fun k _ ih i => match eq k with
    | some b => match b with
      | true => some (some i)
      | false => ih (Nat.succ i)
    | none => none) ks
noncomputable def modX {α : Type} (f : α → α) (l : List α) : Nat → List α :=
  List.rec (motive := fun _ => Nat → List α) (fun _ => []) (fun a r ih i => Nat.rec (f a :: r) (fun i _ => a :: ih i) i) l
noncomputable def stampX (l : List (Value × Nat × AV)) (n : Int) : Option Nat :=
  List.rec (motive := fun _ => Nat → Option Nat) (fun _ => none) (fun a _ ih i => match eqI (.ofNat a.2.1) n with
    | true => some i
    | false => ih (Nat.succ i)) l 0
/-- A map's entries. -/
noncomputable def mapOf (h : Hp) : AV → Option (List (Value × AV))
  | .mapr b => match h.get b with
    | some (.map _ es) => some (mapL (fun e => (e.1, e.2.2)) es)
    | _ => none
  | .mtree _ ks vs => some (ks.zip vs)
  | .val (.map none) => some []
  | _ => none
def isNil {α : Type} : List α → Bool
  | [] => true
  | _ => false
noncomputable def makeMapB (C : Ctx) (t : TypeId) (r : Option Operand) : Bx (St → Option (AV × Hp)) := match C.P.underlying t with
  | some (.map _ _) => match r with
    | none => .mk fun s => some (.mapr s.h.nx, s.h.new (.map 0 []))
    | some x => .mk fun s => match ev C x s with
      | .int _ _ => some (.mapr s.h.nx, s.h.new (.map 0 []))
      | _ => none
  | _ => .mk fun _ => none
noncomputable def zeroAV (P : Program) (t : TypeId) : Option AV := match P.info? t with
  | some i => match i.zero with
    | some z => some (ofV2 z)
    | none => none
  | none => none
noncomputable def lookupB (C : Ctx) (t : TypeId) (x ix : Operand) (ok : Bool) : Bx (St → Option (AV × Hp)) := match C.P.underlying t with
  | some (.map kt et) => match zeroAV C.P et with
    | some z => .mk fun s => match toV (ev C ix s) with
      | some k => match mapOf s.h (ev C x s) with
        | some es => match keyOK C.P kt (isNil es) k with
          | true => match findA (keyEq C.P kt k) (mapL Prod.fst es) 0 with
            | some r => match r with
              | some i => match nth es i with
                | some e => match ok with
                  | true => some (.tup [e.2, .bool true], s.h)
                  | false => some (e.2, s.h)
                | none => none
              | none => match ok with
                | true => some (.tup [z, .bool false], s.h)
                | false => some (z, s.h)
            | none => none
          | false => none
        | none => none
      | none => none
    | none => .mk fun _ => none
  | _ => .mk fun _ => none
noncomputable def updateB (C : Ctx) (t : TypeId) (m k x : Operand) : Bx (St → Option (AV × Hp)) := match C.P.underlying t with
  | some (.map kt _) => .mk fun s => match ev C m s, toV (ev C k s) with
    | .mapr b, some k => match s.h.get b with
      | some (.map c es) => match keyOK C.P kt false k with
        | true => match findA (keyEq C.P kt k) (mapL Prod.fst es) 0 with
          | some r => match r with
            | some i => match nth es i with
              | some e => match keySame C.P kt k e.1 with
                | true => some (.tup [], s.h.set b (.map c (modX (fun e => (k, e.2.1, ev C x s)) es i)))
                | false => none
              | none => none
            | none => some (.tup [], s.h.set b (.map (Nat.succ c) (es ++ [(k, c, ev C x s)])))
          | none => none
        | false => none
      | _ => none
    | _, _ => none
  | _ => .mk fun _ => none
noncomputable def entryB (C : Ctx) (t : TypeId) (m k : Operand) : Bx (St → Option (AV × Hp)) := match C.P.underlying t with
  | some (.map kt et) => match zeroAV C.P et with
    | some z => .mk fun s => match ev C m s, toV (ev C k s) with
      | .mapr b, some k => match s.h.get b with
        | some (.map c es) => match keyOK C.P kt false k with
          | true => match findA (keyEq C.P kt k) (mapL Prod.fst es) 0 with
            | some r => match r with
              | some i => match nth es i with
                | some e => match keySame C.P kt k e.1 with
                  | true => some (.tup [e.2.2, .int .i64 (.ofNat e.2.1)], s.h.set b (.map c (modX (fun e => (k, e.2.1, e.2.2)) es i)))
                  | false => none
                | none => none
              | none => some (.tup [z, .int .i64 (.ofNat c)], s.h.set b (.map (Nat.succ c) (es ++ [(k, c, z)])))
            | none => none
          | false => none
        | _ => none
      | _, _ => none
    | none => .mk fun _ => none
  | _ => .mk fun _ => none
noncomputable def entryStoreB (C : Ctx) (m st x : Operand) : Bx (St → Option (AV × Hp)) := .mk fun s => match ev C m s, ev C st s with
  | .mapr b, .int _ n => match s.h.get b with
    | some (.map c es) => match stampX es n with
      | some i => some (.tup [], s.h.set b (.map c (modX (fun e => (e.1, e.2.1, ev C x s)) es i)))
      | none => none
    | _ => none
  | _, _ => none

/-- Operations on two integers of one kind. -/
def intOp (op : BinOp) : Option (IntKind → Int → Int → AV) :=
  match op with
  | .add => some fun k a b => .int k (wrapF k (addI a b))
  | .sub => some fun k a b => .int k (wrapF k (subI a b))
  | .mul => some fun k a b => .int k (wrapF k (mulI a b))
  | .eql => some fun _ a b => .bool (eqI a b)
  | .neq => some fun _ a b => .bool (notB (eqI a b))
  | .lss => some fun _ a b => .bool (ltI a b)
  | .leq => some fun _ a b => .bool (notB (ltI b a))
  | .gtr => some fun _ a b => .bool (ltI b a)
  | .geq => some fun _ a b => .bool (notB (ltI a b))
  | _ => none
/-- A value of a kind that has a nil, and is not nil; its kind's nil. -/
def someOf : TypeDesc → AV → Bool
  | .slice _, .lst .. | .slice _, .sl .. | .pointer _, .ptr .. | .pointer _, .tptr .. | .func .., .fn .. | .func .., .mv .. | .map .., .mapr _ | .map .., .mtree .. | .interface _, .iface .. => true
  | _, _ => false
def nilOf : TypeDesc → AV → Bool
  | .slice _, .val (.slice none _ _) | .pointer _, .val (.pointer none) | .func .., .val .nilFunc | .map .., .val (.map none) | .interface _, .val .nilIface => true
  | _, _ => false
def eqNil (d : TypeDesc) (neg : Bool) (u v : AV) : Option AV :=
  match someOf d u, nilOf d v with
  | true, true => some (.bool neg)
  | _, _ => match nilOf d u, someOf d v with
    | true, true => some (.bool neg)
    | _, _ => none
/-- Two pointers into one block. -/
def eqPtr (P : Program) (d : TypeDesc) (yes : Bool) (u v : AV) : Option AV :=
  match d with
  | .pointer t => match szT P t with
    | some z => match z with
      | 0 => none
      | _ => match u, v with
        | .ptr b o, .ptr b' o' => match Nat.beq b b' with
          | true => match yes with
            | true => some (.bool (Nat.beq o o'))
            | false => some (.bool (notB (Nat.beq o o')))
          | false => none
        | _, _ => none
    | none => none
  | _ => none
noncomputable def intB (C : Ctx) (o : Oper) (op : BinOp) (x y : Operand) : Bx (IntKind → Int → IntKind → Int → St → Option AV) :=
  match intOp op with
  | some f => .mk fun k a k' b s => match keq k k' with
    | true => some (f k a b)
    | false => pureOp C o [x, y] s
  | none => .mk fun _ _ _ _ s => pureOp C o [x, y] s
noncomputable def intA (C : Ctx) (o : Oper) (op : BinOp) (x y : Operand) : IntKind → Int → IntKind → Int → St → Option AV := (intB C o op x y).f

noncomputable def strB (C : Ctx) (o : Oper) (op : BinOp) (x y : Operand) : Bx (List UInt8 → List UInt8 → St → Option AV) :=
  match op with
  | .add => .mk fun a b _ => match Nat.ble (Nat.add a.length b.length) 9223372036854775807 with
    | true => some (.str (a ++ b))
    | false => none
  | .eql => .mk fun a b _ => some (.bool (eqL a b))
  | .neq => .mk fun a b _ => some (.bool (notB (eqL a b)))
  | _ => .mk fun _ _ s => pureOp C o [x, y] s
noncomputable def strA (C : Ctx) (o : Oper) (op : BinOp) (x y : Operand) : List UInt8 → List UInt8 → St → Option AV := (strB C o op x y).f

noncomputable def anyB (C : Ctx) (o : Oper) (op : BinOp) (t : TypeId) (x y : Operand) : Bx (AV → AV → St → Option AV) :=
  match op, C.P.underlying t with
  | .eql, some d => .mk fun u v s => match pureOp C o [x, y] s with
    | some r => some r
    | none => match eqNil d false u v with
      | some r => some r
      | none => eqPtr C.P d true u v
  | .neq, some d => .mk fun u v s => match pureOp C o [x, y] s with
    | some r => some r
    | none => match eqNil d true u v with
      | some r => some r
      | none => eqPtr C.P d false u v
  | _, _ => .mk fun _ _ s => pureOp C o [x, y] s
noncomputable def anyA (C : Ctx) (o : Oper) (op : BinOp) (t : TypeId) (x y : Operand) : AV → AV → St → Option AV := (anyB C o op t x y).f

noncomputable def binA (C : Ctx) (o : Oper) (op : BinOp) (t : TypeId) (x y : Operand) (s : St) : Option AV :=
  match ev C x s with
  | .int k a => match ev C y s with
    | .int k' b => intA C o op x y k a k' b s
    | v => anyA C o op t x y (.int k a) v s
  | .str a => match ev C y s with
    | .str b => strA C o op x y a b s
    | v => anyA C o op t x y (.str a) v s
  | u => anyA C o op t x y u (ev C y s) s

noncomputable def keep (h : Hp) : Option AV → Option (AV × Hp)
  | some v => some (v, h)
  | none => none

noncomputable def lenB (C : Ctx) (o : Oper) (args : List Operand) (ts : List TypeId) : Bx (St → Option (AV × Hp)) :=
  match args, ts with
  | [x], [t] => match C.P.underlying t with
    | some .string => .mk fun s => match ev C x s with
      | .str l => some (.int .i64 (.ofNat l.length), s.h)
      | _ => none
    | some (.slice _) => .mk fun s => match ev C x s with
      | .sl _ _ n _ => some (.int .i64 (.ofNat n), s.h)
      | .lst _ _ n _ => some (.int .i64 (.ofNat n), s.h)
      | _ => keep s.h (pureOp C o args s)
    | some (.map _ _) => .mk fun s => match mapOf s.h (ev C x s) with
      | some es => some (.int .i64 (.ofNat es.length), s.h)
      | none => none
    | _ => .mk fun s => keep s.h (pureOp C o args s)
  | _, _ => .mk fun _ => none
noncomputable def lenA (C : Ctx) (o : Oper) (args : List Operand) (ts : List TypeId) : St → Option (AV × Hp) := (lenB C o args ts).f

/-- The first k of a slice or a string. -/
noncomputable def truncA (x : AV) (k : Nat) : Option AV := match x with
  | .str l => match takeX k l with | some r => some (.str r) | none => none
  | .sl b o n z => match Nat.ble k n with | true => some (.sl b o k z) | false => none
  | .lst q z n cs => match Nat.ble k n with
    | true => match takeX (Nat.mul k z) cs with | some r => some (.lst q z k r) | none => none
    | false => none
  | .val (.slice none 0 0) => match k with | 0 => some (.val (.slice none 0 0)) | _ => none
  | _ => none
def minN (a b : Nat) : Nat := match Nat.ble a b with | true => a | false => b
noncomputable def copyB (C : Ctx) (t : TypeId) (x y : Operand) : Bx (St → Option (AV × Hp)) := match elemOf C.P t with
  | some e => match szT C.P e with
    | some z' => .mk fun s => match ev C x s with
      | .sl b o n z => match slLen (ev C y s) with
        | some m => match truncA (ev C y s) (minN m n) with
          | some src => match slCells s.h src with
            | some new => match Nat.beq new.length (Nat.mul (minN m n) z'), Nat.beq z z', allOne new with
              | true, true, true => match s.h.get b with
                | some (.cells e' cs) => match putX o new cs with
                  | some cs => some (.int .i64 (.ofNat (minN m n)), s.h.set b (.cells e' cs))
                  | none => none
                | _ => none
              | _, _, _ => none
            | none => none
          | none => none
        | none => none
      | _ => none
    | none => .mk fun _ => none
  | none => .mk fun _ => none

/-- 'append(nil, make([]T, n)..)'. -/
noncomputable def appZeroB (C : Ctx) (t : TypeId) (x y : Operand) : Bx (St → Option (AV × Hp)) := match elemOf C.P t with
  | some e => match C.P.info? e with
    | some i => match i.zero with
      | some zv => match Nat.ble 1 i.size, Nat.ble 1 i.bytes, Nat.beq zv.cells.size i.size with
        | true, true, true => match zv.cells.toList.map ofV1 with
          | zs => match allOne zs with
            | true => .mk fun s => match ev C x s with
              | .val v => match v with
                | .slice none 0 0 => match ev C y s with
                  | .int _ k => match k with
                    | .ofNat n => match n with
                      | 0 => none
                      | Nat.succ m => match Nat.ble (Nat.mul (Nat.succ m) i.bytes) 140737488355328 with
                        | true => some (.sl s.h.nx 0 (Nat.succ m) i.size, s.h.new (.cells e (repX (Nat.succ m) zs)))
                        | false => none
                    | .negSucc _ => none
                  | _ => none
                | _ => none
              | _ => none
            | false => .mk fun _ => none
        | _, _, _ => .mk fun _ => none
      | none => .mk fun _ => none
    | none => .mk fun _ => none
  | none => .mk fun _ => none
noncomputable def builtinB (C : Ctx) (o : Oper) (b : Builtin) (args : Array Operand) (ts : Array TypeId) : Bx (St → Option (AV × Hp)) :=
  match b with
  | .append => match args.toList, ts.toList with
    | [x, y], [t, u] => match C.P.underlying u with
        | some (.int _) => appZeroB C t x y
        | some _ => .mk fun s => appendA C t s.h (ev C x s) (ev C y s)
        | none => .mk fun _ => none
    | _, _ => .mk fun _ => none
  | .len => lenB C o args.toList ts.toList
  | .copy => match args.toList, ts.toList with
    | [x, y], [t, _] => copyB C t x y
    | _, _ => .mk fun _ => none
  | .unsafeSliceData => match args.toList with
    | [x] => .mk fun s => match ev C x s with
      | .sl b o n _ => match n with
        | 0 => none
        | _ => some (.ptr b o, s.h)
      | .val (.slice none _ _) => some (.val (.pointer none), s.h)
      | _ => none
    | _ => .mk fun _ => none
  | .unsafeString => match args.toList, ts.toList with
    | [x, y], [t, _] => match C.P.underlying t with
      | some (.pointer e) => match Nat.beq (C.P.cellsOf e) 1 with
        | true => .mk fun s => match ixI (ev C y s) with
          | some n => match n with
            | 0 => match ev C x s with
              | .val (.pointer _) => some (.str [], s.h)
              | .ptr _ _ => some (.str [], s.h)
              | _ => none
            | _ => match ev C x s with
              | .ptr b k => match k with
                | 0 => match s.h.get b with
                  | some (.cells e' cs) => match Nat.beq e e', takeX n cs, Nat.ble n 9223372036854775807 with
                    | true, some l, true => match bytesS l with
                      | some l => some (.str l, s.h.set b .dead)
                      | none => none
                    | _, _, _ => none
                  | _ => none
                | _ => none
              | _ => none
          | none => none
        | false => .mk fun _ => none
      | _ => .mk fun _ => none
    | _, _ => .mk fun _ => none
  | .min => .mk fun s => keep s.h (pureOp C o args.toList s)
  | .max => .mk fun s => keep s.h (pureOp C o args.toList s)
  | .cap => .mk fun s => keep s.h (pureOp C o args.toList s)
  | _ => .mk fun _ => none
noncomputable def builtinA (C : Ctx) (o : Oper) (b : Builtin) (args : Array Operand) (ts : Array TypeId) : St → Option (AV × Hp) := (builtinB C o b args ts).f

/-- The byte at a place, as a number; 0 beyond the end. -/
noncomputable def byteN (l : List UInt8) (k : Nat) : Nat := match nth l k with | some b => b.toNat | none => 0
/-- Is the byte at a place there, and a continuation byte? -/
noncomputable def contN (l : List UInt8) (k : Nat) : Bool := match nth l k with | some b => Nat.beq (Nat.div b.toNat 64) 2 | none => false
/-- The rune at the list's head and its width: as the model's decode. -/
noncomputable def decodeL (l : List UInt8) : Nat × Nat :=
  if byteN l 0 < 0x80 then (byteN l 0, 1)
  else if (byteN l 0 / 32 == 6 && contN l 1) = true then
    if (byteN l 0 % 32) * 64 + byteN l 1 % 64 ≥ 0x80 then ((byteN l 0 % 32) * 64 + byteN l 1 % 64, 2) else (Utf8.runeError, 1)
  else if (byteN l 0 / 16 == 14 && contN l 1 && contN l 2) = true then
    if ((byteN l 0 % 16) * 4096 + (byteN l 1 % 64) * 64 + byteN l 2 % 64 ≥ 0x800 && Utf8.valid (((byteN l 0 % 16) * 4096 + (byteN l 1 % 64) * 64 + byteN l 2 % 64 : Nat) : Int)) = true then ((byteN l 0 % 16) * 4096 + (byteN l 1 % 64) * 64 + byteN l 2 % 64, 3) else (Utf8.runeError, 1)
  else if (byteN l 0 / 8 == 30 && contN l 1 && contN l 2 && contN l 3) = true then
    if ((byteN l 0 % 8) * 262144 + (byteN l 1 % 64) * 4096 + (byteN l 2 % 64) * 64 + byteN l 3 % 64 ≥ 0x10000 && Utf8.valid (((byteN l 0 % 8) * 262144 + (byteN l 1 % 64) * 4096 + (byteN l 2 % 64) * 64 + byteN l 3 % 64 : Nat) : Int)) = true then ((byteN l 0 % 8) * 262144 + (byteN l 1 % 64) * 4096 + (byteN l 2 % 64) * 64 + byteN l 3 % 64, 4) else (Utf8.runeError, 1)
  else (Utf8.runeError, 1)

noncomputable def indexAddrB (C : Ctx) (t : TypeId) : Bx (Hp → AV → Nat → Option (AV × Hp)) :=
  match C.P.underlying t with
  | some (.slice e) => match szT C.P e with
    | some z' => .mk fun h x i => match x with
      | .sl b k n z => match Nat.blt i n, Nat.beq z z' with
        | true, true => some (.ptr b (Nat.add k (Nat.mul i z)), h)
        | _, _ => none
      | .lst q z n cs => match Nat.blt i n, Nat.beq z z' with
        | true, true => match dropX (Nat.mul i z) cs with | some r => some (.tptr q r, h) | none => none
        | _, _ => none
      | _ => none
    | none => .mk fun _ _ _ => none
  | some (.array n e) => match szT C.P e with
    | some z => .mk fun h x i => match x with
      | .ptr b k => match Nat.blt i n with
        | true => some (.ptr b (Nat.add k (Nat.mul i z)), h)
        | false => none
      | .tptr q cs => match Nat.blt i n with
        | true => match dropX (Nat.mul i z) cs with | some r => some (.tptr q r, h) | none => none
        | false => none
      | _ => none
    | none => .mk fun _ _ _ => none
  | _ => .mk fun _ _ _ => none
noncomputable def indexAddrA (C : Ctx) (t : TypeId) : Hp → AV → Nat → Option (AV × Hp) := (indexAddrB C t).f

/-- A slice's bounds: low and high, below len. -/
noncomputable def loB (C : Ctx) (lo : Option Operand) : Bx (St → Option Nat) := match lo with
  | none => .mk fun _ => some 0
  | some x => .mk fun s => ixOf (ev C x s)
noncomputable def loA (C : Ctx) (lo : Option Operand) : St → Option Nat := (loB C lo).f

noncomputable def bndsB (C : Ctx) (lo hi : Option Operand) : Bx (Nat → St → Option (Nat × Nat)) := match hi with
  | none => .mk fun n s => match loA C lo s with
    | some l => match Nat.ble l n with | true => some (l, n) | false => none
    | none => none
  | some y => .mk fun n s => match ixOf (ev C y s) with
    | some h => match Nat.ble h n with
      | true => match loA C lo s with
        | some l => match Nat.ble l h with | true => some (l, h) | false => none
        | none => none
      | false => none
    | none => none
noncomputable def bndsA (C : Ctx) (lo hi : Option Operand) : Nat → St → Option (Nat × Nat) := (bndsB C lo hi).f

noncomputable def sliceStrB (C : Ctx) (lo hi : Option Operand) : Bx (List UInt8 → St → Option (List UInt8)) := match hi with
  | none => .mk fun l s => match loA C lo s with
    | some a => dropX a l
    | none => none
  | some y => .mk fun l s => match ixOf (ev C y s) with
    | some b => match loA C lo s with
      | some a => match Nat.ble a b with
        | true => match dropX a l with
          | some r => takeX (Nat.sub b a) r
          | none => none
        | false => none
      | none => none
    | none => none
noncomputable def sliceStr (C : Ctx) (lo hi : Option Operand) : List UInt8 → St → Option (List UInt8) := (sliceStrB C lo hi).f

noncomputable def sliceB (C : Ctx) (o : Oper) (t : TypeId) (x : Operand) (lo hi : Option Operand) : Bx (St → Option (AV × Hp)) :=
  match C.P.underlying t with
  | some .string => .mk fun s => match ev C x s with
    | .str l => match sliceStr C lo hi l s with
      | some r => some (.str r, s.h)
      | none => none
    | _ => none
  | some (.slice e) => match szT C.P e with
    | some z' => .mk fun s => match ev C x s with
      | .sl b k n z => match bndsA C lo hi n s, Nat.beq z z' with
        | some (l, h), true => some (.sl b (Nat.add k (Nat.mul l z)) (Nat.sub h l) z, s.h)
        | _, _ => none
      | .lst q z n cs => match bndsA C lo hi n s, Nat.beq z z' with
        | some (l, h), true => match dropX (Nat.mul l z) cs with
          | some r => match takeX (Nat.mul (Nat.sub h l) z) r with
            | some r => some (.lst q z (Nat.sub h l) r, s.h)
            | none => none
          | none => none
        | _, _ => none
      | _ => keep s.h (pureOp C o (x :: (lo.toList ++ hi.toList)) s)
    | none => .mk fun _ => none
  | some (.array n e) => match szT C.P e with
    | some z => .mk fun s => match ev C x s with
      | .ptr b k => match bndsA C lo hi n s with
        | some (l, h) => match s.h.get b with
          | some (.cells _ cs) => match Nat.ble (Nat.add k (Nat.mul n z)) cs.length with
            | true => some (.sl b (Nat.add k (Nat.mul l z)) (Nat.sub h l) z, s.h)
            | false => none
          | _ => none
        | none => none
      | .tptr q cs => match bndsA C lo hi n s with
        | some (l, h) => match dropX (Nat.mul l z) cs with
          | some r => match takeX (Nat.mul (Nat.sub h l) z) r with
            | some r => some (.lst q z (Nat.sub h l) r, s.h)
            | none => none
          | none => none
        | none => none
      | _ => none
    | none => .mk fun _ => none
  | _ => .mk fun _ => none
noncomputable def sliceA (C : Ctx) (o : Oper) (t : TypeId) (x : Operand) (lo hi : Option Operand) : St → Option (AV × Hp) := (sliceB C o t x lo hi).f

/-- May a row of one be seen as one of the other? -/
def seenAs (P : Program) (e u : TypeId) : Bool := match P.cellsOf e, P.depth with
  | Nat.succ _, Nat.succ _ => sameLayout P P.depth e u
  | _, _ => false

noncomputable def convertB (C : Ctx) (o : Oper) (src dst : TypeId) (x : Operand) : Bx (St → Option (AV × Hp)) :=
  match C.P.underlying dst, C.P.underlying src with
  | some (.slice e), some .string => match C.P.underlying e with
    | some (.int .u8) => .mk fun s => match ev C x s with
      | .str t => some (.sl s.h.nx 0 t.length 1, s.h.new (.cells e (mapL byteAV t)))
      | _ => none
    | _ => .mk fun _ => none
  | some .string, some (.slice e) => match C.P.underlying e with
    | some (.int .u8) => .mk fun s => match slCells s.h (ev C x s) with
      | some cs => match slLen (ev C x s) with
        | some m => match Nat.beq cs.length m, isSl (ev C x s) with
          | true, true => match bytesOf cs with
            | some l => some (.str l, s.h)
            | none => none
          | _, _ => none
        | none => none
      | none => none
    | _ => .mk fun _ => none
  | some .string, some .string => .mk fun s => match ev C x s with
    | .str l => some (.str l, s.h)
    | _ => none
  | some (.int k), some (.int _) => .mk fun s => match ev C x s with
    | .int _ n => some (.int k (wrapF k n), s.h)
    | _ => none
  | some .string, some (.int _) => .mk fun s => keep s.h (pureOp C o [x] s)
  | some .unsafePointer, some (.pointer t) => match szT C.P t with
    | some z => match z with
      | 0 => .mk fun _ => none
      | _ => .mk fun s => match ev C x s with
        | .ptr b k => match s.h.get b with
          | some (.cells _ cs) => match Nat.blt k cs.length with
            | true => some (.ptr b k, s.h)
            | false => none
          | _ => none
        | _ => none
    | none => .mk fun _ => none
  | some (.pointer u), some .unsafePointer => match szT C.P u with
    | some _ => .mk fun s => match ev C x s with
      | .ptr b k => match k with
        | 0 => match s.h.get b with
          | some (.cells e cs) => match seenAs C.P e u, Nat.ble (C.P.cellsOf e) cs.length with
            | true, true => some (.ptr b 0, s.h)
            | _, _ => none
          | _ => none
        | _ => none
      | _ => none
    | none => .mk fun _ => none
  | _, _ => .mk fun _ => none
noncomputable def convertA (C : Ctx) (o : Oper) (src dst : TypeId) (x : Operand) : St → Option (AV × Hp) := (convertB C o src dst x).f

noncomputable def partsB (C : Ctx) (ps : List (Nat × Operand)) : Bx (St → List (Nat × AV)) :=
  List.rec (motive := fun _ => Bx (St → List (Nat × AV))) (.mk fun _ => []) (fun p _ ih => .mk fun s => (p.1, ev C p.2 s) :: ih.f s) ps
noncomputable def partsA (C : Ctx) (ps : List (Nat × Operand)) : St → List (Nat × AV) := (partsB C ps).f

noncomputable def pickA (C : Ctx) (c a b : Operand) (s : St) : Option (AV × Hp) := match ev C c s with
  | .bool t => match t with | true => some (ev C a s, s.h) | false => some (ev C b s, s.h)
  | _ => none
noncomputable def extractA (C : Ctx) (x : Operand) (i : Nat) (s : St) : Option (AV × Hp) := match ev C x s with
  | .tup vs => keep s.h (nth vs i)
  | _ => none
noncomputable def allocB (C : Ctx) (e : TypeId) : Bx (St → Option (AV × Hp)) := match zeroCells C.P e with
  | some cs => match allOne cs with
    | true => .mk fun s => some (.ptr s.h.nx 0, s.h.new (.cells e cs))
    | false => .mk fun _ => none
  | none => .mk fun _ => none
noncomputable def allocA (C : Ctx) (e : TypeId) : St → Option (AV × Hp) := (allocB C e).f

noncomputable def boxA (C : Ctx) (e : TypeId) (x : Operand) (s : St) : Option (AV × Hp) := match (ev C x s).cells with
  | some cs => some (.ptr s.h.nx 0, s.h.new (.cells e cs))
  | none => none
noncomputable def loadA (C : Ctx) (t : TypeId) (x : Operand) (s : St) : Option (AV × Hp) := match look s.h (ev C x s) with
  | some cs => keep s.h (rdCells C.P t cs)
  | none => none
noncomputable def storeB (C : Ctx) (t : TypeId) (a x : Operand) : Bx (St → Option (AV × Hp)) := match szT C.P t with
  | some z => .mk fun s => match ev C a s with
    | .ptr b k => match (ev C x s).cells with
      | some new => match Nat.beq new.length z with
        | true => match s.h.get b with
          | some (.cells e cs) => match putX k new cs with
            | some cs => some (.tup [], s.h.set b (.cells e cs))
            | none => none
          | _ => none
        | false => none
      | none => none
    | _ => none
  | none => .mk fun _ => none
noncomputable def storeA (C : Ctx) (t : TypeId) (a x : Operand) : St → Option (AV × Hp) := (storeB C t a x).f

noncomputable def fieldAddrB (C : Ctx) (t : TypeId) (x : Operand) (i : Nat) : Bx (St → Option (AV × Hp)) := match fieldOf C.P t i with
  | some f => match szT C.P f.type with
    | some z => match z with
      | 0 => .mk fun _ => none
      | _ => match f.offset with
        | off => .mk fun s => match ev C x s with
          | .ptr b k => some (.ptr b (Nat.add k off), s.h)
          | .tptr q cs => match dropX off cs with | some r => some (.tptr q r, s.h) | none => none
          | _ => none
    | none => .mk fun _ => none
  | none => .mk fun _ => none
noncomputable def fieldAddrA (C : Ctx) (t : TypeId) (x : Operand) (i : Nat) : St → Option (AV × Hp) := (fieldAddrB C t x i).f

noncomputable def fieldB (C : Ctx) (t : TypeId) (x : Operand) (i : Nat) : Bx (St → Option (AV × Hp)) := match fieldOf C.P t i with
  | some f => .mk fun s => match ev C x s with
    | .agg cs => match dropX f.offset cs with | some cs => keep s.h (rdCells C.P f.type cs) | none => none
    | _ => none
  | none => .mk fun _ => none
noncomputable def fieldA (C : Ctx) (t : TypeId) (x : Operand) (i : Nat) : St → Option (AV × Hp) := (fieldB C t x i).f

noncomputable def idxB (C : Ctx) (t : TypeId) (x ix : Operand) : Bx (St → Option (AV × Hp)) :=
  match C.P.underlying t with
  | some .string => .mk fun s => match ev C x s with
    | .str l => match ixOf (ev C ix s) with
      | some i => match nth l i with | some b => some (byteAV b, s.h) | none => none
      | none => none
    | _ => none
  | some (.array n e) => match szT C.P e with
    | some z => .mk fun s => match ev C x s with
      | .agg cs => match ixOf (ev C ix s) with
        | some i => match Nat.blt i n with
          | true => match dropX (Nat.mul i z) cs with | some cs => keep s.h (rdCells C.P e cs) | none => none
          | false => none
        | none => none
      | _ => none
    | none => .mk fun _ => none
  | _ => .mk fun _ => none
noncomputable def idxA (C : Ctx) (t : TypeId) (x ix : Operand) : St → Option (AV × Hp) := (idxB C t x ix).f

noncomputable def ifaceB (C : Ctx) (t : TypeId) (x : Operand) : Bx (St → Option (AV × Hp)) := match C.P.underlying t with
  | some (.interface _) => .mk fun _ => none
  | some _ => .mk fun s => some (.iface t (ev C x s), s.h)
  | none => .mk fun _ => none
noncomputable def ifaceA (C : Ctx) (t : TypeId) (x : Operand) : St → Option (AV × Hp) := (ifaceB C t x).f

noncomputable def makeSliceB (C : Ctx) (t : TypeId) (l c : Operand) : Bx (St → Option (AV × Hp)) := match elemOf C.P t with
  | some e => match C.P.info? e, zeroCells C.P e with
    | some i, some z => match Nat.beq z.length i.size with
      | true => .mk fun s => match ixOf (ev C l s), ixOf (ev C c s) with
        | some l, some c => match Nat.ble l c, Nat.ble (Nat.mul c i.bytes) 140737488355328, Nat.ble c 4611686018427387904 with
          | true, true, true => some (.sl s.h.nx 0 l i.size, s.h.new (.cells e (repX c z)))
          | _, _, _ => none
        | _, _ => none
      | false => .mk fun _ => none
    | _, _ => .mk fun _ => none
  | none => .mk fun _ => none
noncomputable def makeSliceA (C : Ctx) (t : TypeId) (l c : Operand) : St → Option (AV × Hp) := (makeSliceB C t l c).f

mutual
/-- Does a value name no block of the heap? -/
def isTree : AV → Bool
  | .int .. | .bool _ | .str _ | .val _ | .lst .. | .tptr .. | .mtree .. => true
  | .agg cs => allTree cs
  | .tup cs => allTree cs
  | .fn _ cs => allTree cs
  | .mv _ cs => allTree cs
  | .iface _ v => isTree v
  | _ => false
def allTree : List AV → Bool
  | [] => true
  | c :: cs => match isTree c with
    | true => allTree cs
    | false => false
end
noncomputable def buildSliceB (C : Ctx) (t : TypeId) (len : Nat) (parts : List (Nat × Operand)) : Bx (St → Option (AV × Hp)) := match elemOf C.P t with
  | some e => match szT C.P e, zeroCells C.P e with
    | some z, some zc => match Nat.ble (Nat.mul len z) 16777216, allOne zc, Nat.beq zc.length z with
      | true, true, true => match C.dyn with
        | false => .mk fun s => match fillA z (partsA C parts s) (repX len zc) with
          | some cs => some (.sl s.h.nx 0 len z, s.h.new (.cells e cs))
          | none => none
        | true => .mk fun s => match fillA z (partsA C parts s) (repX len zc) with
          | some cs => match allTree cs with
            | true => some (.lst false z len cs, s.h)
            | false => none
          | none => none
      | _, _, _ => .mk fun _ => none
    | _, _ => .mk fun _ => none
  | none => .mk fun _ => none
noncomputable def buildSliceA (C : Ctx) (t : TypeId) (len : Nat) (parts : List (Nat × Operand)) : St → Option (AV × Hp) := (buildSliceB C t len parts).f

/-- Where a struct's fields lie. -/
def placesOf (P : Program) (fs : Array Field) : Option (List (Nat × Nat)) := fs.toList.mapM fun f => (P.info? f.type).map fun i => (f.offset, i.size)
noncomputable def buildB (C : Ctx) (t : TypeId) (parts : List (Nat × Operand)) : Bx (St → Option (AV × Hp)) := match zeroCells C.P t with
  | some zc => match C.P.underlying t with
    | some (.struct fs) => match placesOf C.P fs with
      | some _ => .mk fun s => match fillF C.P fs (partsA C parts s) zc with
        | some cs => some (.agg cs, s.h)
        | none => none
      | none => .mk fun _ => none
    | some (.array _ e) => match szT C.P e with
      | some z => .mk fun s => match fillA z (partsA C parts s) zc with
        | some cs => some (.agg cs, s.h)
        | none => none
      | none => .mk fun _ => none
    | _ => .mk fun _ => none
  | none => .mk fun _ => none
noncomputable def buildA (C : Ctx) (t : TypeId) (parts : List (Nat × Operand)) : St → Option (AV × Hp) := (buildB C t parts).f

noncomputable def nilCheckA (C : Ctx) (x : Operand) (s : St) : Option (AV × Hp) := match ev C x s with
  | .ptr b k => some (.ptr b k, s.h)
  | .tptr q cs => some (.tptr q cs, s.h)
  | .fn f caps => some (.fn f caps, s.h)
  | .mv f fs => some (.mv f fs, s.h)
  | _ => none
noncomputable def rangeB (C : Ctx) (t : TypeId) (x : Operand) : Bx (St → Option (AV × Hp)) := match C.P.underlying t with
  | some .string => .mk fun s => match ev C x s with
    | .str l => some (.ptr s.h.nx 0, s.h.new (.iter 0 l l))
    | _ => none
  | _ => .mk fun _ => none
noncomputable def rangeA (C : Ctx) (t : TypeId) (x : Operand) : St → Option (AV × Hp) := (rangeB C t x).f

noncomputable def nextB (C : Ctx) (x : Operand) (isS : Bool) : Bx (St → Option (AV × Hp)) := match isS with
  | true => .mk fun s => match ev C x s with
    | .ptr b o => match o with
      | 0 => match s.h.get b with
        | some (.iter pos all rest) => match rest with
          | _ :: _ => match decodeL rest with
            | (c, w) => match dropX w rest with
              | some r => some (.tup [.bool true, .int .i64 (.ofNat pos), .int .i32 (.ofNat c)], s.h.set b (.iter (Nat.add pos w) all r))
              | none => none
          | [] => some (.tup [.bool false], s.h)
        | _ => none
      | _ => none
    | _ => none
  | false => .mk fun _ => none
noncomputable def nextA (C : Ctx) (x : Operand) (isS : Bool) : St → Option (AV × Hp) := (nextB C x isS).f

/-- The number under which a round of a range over a function is called: no function's. -/
def rndF : FuncId := 1000000007
/-- A function without a text, which the model makes itself. -/
def extOf (P : Program) (f : FuncId) : Option (Array Value → Sem Value) :=
  match P.funcs[f]? with
  | some fn => match fn.body with
    | some _ => none
    | none => match fn.name == "runtime.NumGoroutine", Extern.findNext fn with
      | false, none => Extern.find fn
      | _, _ => none
  | none => none
def extA (C : Ctx) (e : Array Value → Sem Value) (args : List AV) : Option AV :=
  match toVs args with
  | some vs => match pv C.P (e vs.toArray) with
    | some v => some (ofV v)
    | none => none
  | none => none
/-- A method of a pointer type's own, with a pointer receiver. -/
def methOf (P : Program) (t : TypeId) (name : String) : Option FuncId :=
  match P.info? t with
  | some i => match i.methods.find? (·.name == name) with
    | some m => match m.path.size, m.func, P.underlying t with
      | 0, some (f, true), some (.pointer _) => some f
      | _, _, _ => none
    | none => none
  | none => none
noncomputable def callFB (C : Ctx) (call : FuncId → List AV → Hp → Option (AV × Hp)) (f : FuncId) (args : List Operand) : Bx (St → Option (AV × Hp)) := match C.same f with
  | true => match args with
    | [x] => .mk fun s => some (ev C x s, s.h)
    | _ => .mk fun _ => none
  | false => match extOf C.P f with
    | some e => .mk fun s => keep s.h (extA C e (evs C args s))
    | none => match Nat.beq f rndF with
      | true => .mk fun _ => none
      | false => .mk fun s => call f (evs C args s) s.h
noncomputable def callB (C : Ctx) (call : FuncId → List AV → Hp → Option (AV × Hp)) (o : Oper) (c : Call) : Bx (St → Option (AV × Hp)) := match c.callee with
  | .builtin b => builtinB C o b c.args c.argTypes
  | .value f => match f with
    | .func f => callFB C call f c.args.toList
    | f => match C.dyn with
      | false => .mk fun s => match ev C f s with
        | .fn f caps => match Nat.beq f rndF with
          | true => none
          | false => call f (evs C c.args.toList s ++ caps) s.h
        | .mv f fs => match Nat.beq f rndF with
          | true => none
          | false => call f (fs ++ evs C c.args.toList s) s.h
        | .rnd b => call rndF (.rnd b :: evs C c.args.toList s) s.h
        | _ => none
      | true => .mk fun s => match ev C f s with
        | .fn f caps => match C.pure f with
          | true => match Nat.beq f rndF with
            | true => none
            | false => call f (evs C c.args.toList s ++ caps) s.h
          | false => none
        | .mv f fs => match C.pure f with
          | true => match Nat.beq f rndF with
            | true => none
            | false => call f (fs ++ evs C c.args.toList s) s.h
          | false => none
        | _ => none
  | .invoke r name => match C.dyn with
    | true => .mk fun _ => none
    | false => .mk fun s => match ev C r s with
      | .iface t v => match methOf C.P t name with
        | some f => match Nat.beq f rndF with
          | true => none
          | false => call f (v :: evs C c.args.toList s) s.h
        | none => none
      | _ => none
noncomputable def callA (C : Ctx) (call : FuncId → List AV → Hp → Option (AV × Hp)) (o : Oper) (c : Call) : St → Option (AV × Hp) := (callB C call o c).f

noncomputable def stepOpB (C : Ctx) (call : FuncId → List AV → Hp → Option (AV × Hp)) (o : Oper) : Bx (St → Option (AV × Hp)) :=
  match o.op with
  | .move x => .mk fun s => some (ev C x s, s.h)
  | .assign x => .mk fun s => some (ev C x s, s.h)
  | .pick c a b => .mk (pickA C c a b)
  | .extract x i => .mk (extractA C x i)
  | .alloc e => allocB C e
  | .box e x => .mk (boxA C e x)
  | .load t x => .mk (loadA C t x)
  | .store t a x => storeB C t a x
  | .fieldAddr t x i => fieldAddrB C t x i
  | .field t x i => fieldB C t x i
  | .indexAddr t x ix => .mk fun s => match ixOf (ev C ix s) with
    | none => none
    | some i => indexAddrA C t s.h (ev C x s) i
  | .index t x ix => idxB C t x ix
  | .slice t x lo hi mx => match mx with
    | some _ => .mk fun _ => none
    | none => sliceB C o t x lo hi
  | .binOp op t x y _ => .mk fun s => keep s.h (binA C o op t x y s)
  | .unOp _ _ x => .mk fun s => keep s.h (pureOp C o [x] s)
  | .convert src dst x => convertB C o src dst x
  | .makeInterface t x => ifaceB C t x
  | .makeFunc fn first caps => match fn with
    | .func f => match first.toList with
      | [] => .mk fun s => some (.fn f (evs C caps.toList s), s.h)
      | _ => match caps.toList with
        | [] => .mk fun s => some (.mv f (evs C first.toList s), s.h)
        | _ => .mk fun _ => none
    | _ => .mk fun _ => none
  | .makeSlice t l c => makeSliceB C t l c
  | .buildSlice t len parts => buildSliceB C t len parts.toList
  | .build t parts => buildB C t parts.toList
  | .nilCheck x => .mk (nilCheckA C x)
  | .range t x => rangeB C t x
  | .next x isS => nextB C x isS
  | .call c => callB C call o c
  | .makeMap t r => makeMapB C t r
  | .lookup t x ix ok => lookupB C t x ix ok
  | .mapUpdate t m k x => updateB C t m k x
  | .insert t m k x => updateB C t m k x
  | .mapEntry t m k => entryB C t m k
  | .entryStore _ m st x => entryStoreB C m st x
  | _ => .mk fun _ => none
noncomputable def stepOp (C : Ctx) (call : FuncId → List AV → Hp → Option (AV × Hp)) (o : Oper) : St → Option (AV × Hp) := (stepOpB C call o).f

/-- The state with a value laid into a slot, and the heap as it is now. -/
noncomputable def putB (C : Ctx) (dst : Option Tmp) : Bx (St → Hp → AV → St) := match dst with
  | some t => .mk fun s h v => match s with
    | ⟨T, _, N⟩ => forceH h fun h => match Nat.blt t N with
      | true => forceAV v fun v => Tr.setK C.D t T v fun T => ⟨T, h, N⟩
      | false => ⟨T, h, N⟩
  | none => .mk fun s h _ => match s with
    | ⟨T, _, N⟩ => forceH h fun h => ⟨T, h, N⟩
noncomputable def putK (C : Ctx) (dst : Option Tmp) : St → Hp → AV → St := (putB C dst).f

/-- Is the operation wanted? none: not known. -/
noncomputable def wantedB (C : Ctx) (ops : Array Oper) (o : Oper) : Bx (St → Option Bool) :=
  match o.guard with
  | none => .mk fun _ => some true
  | some (j, want) => match nth ops.toList j with
    | none => .mk fun _ => none
    | some p => match p.dst with
      | none => .mk fun _ => none
      | some t => .mk fun s => match Tr.get C.D t s.T with
        | none => none
        | some v => match v with
          | .bool b => some (match b, want with | true, true => true | false, false => true | _, _ => false)
          | .tup vs => match vs with
            | [] => some false
            | _ => none
          | _ => none
noncomputable def wantedA (C : Ctx) (ops : Array Oper) (o : Oper) : St → Option Bool := (wantedB C ops o).f

noncomputable def stepperB (C : Ctx) (call : FuncId → List AV → Hp → Option (AV × Hp)) (ops : Array Oper) (o : Oper) : Bx (St → Option St) :=
  match o.guard with
  | none => .mk fun s => match stepOp C call o s with
    | some (v, h) => some (putK C o.dst s h v)
    | none => none
  | some _ => .mk fun s => match wantedA C ops o s with
    | some b => match b with
      | true => match stepOp C call o s with
        | some (v, h) => some (putK C o.dst s h v)
        | none => none
      | false => some (putK C o.dst s s.h (.tup []))
    | none => none
noncomputable def stepOper (C : Ctx) (call : FuncId → List AV → Hp → Option (AV × Hp)) (ops : Array Oper) (o : Oper) : St → Option St := (stepperB C call ops o).f

noncomputable def runB (C : Ctx) (call : FuncId → List AV → Hp → Option (AV × Hp)) (ops : Array Oper) (l : List Oper) : Bx (St → Option St) :=
  List.rec (motive := fun _ => Bx (St → Option St)) (.mk fun s => some s) (fun o _ ih => .mk fun s => match stepOper C call ops o s with | some s => ih.f s | none => none) l
noncomputable def runOps (C : Ctx) (call : FuncId → List AV → Hp → Option (AV × Hp)) (ops : Array Oper) (l : List Oper) : St → Option St := (runB C call ops l).f

/-- 0: reads and writes slots alone; 1: reads memory; 3: makes memory; 2: anything else. -/
def opClass (C : Ctx) (o : Oper) : Nat :=
  match o.op with
  | .move _ | .assign _ | .pick .. | .extract .. | .fieldAddr .. | .field .. | .indexAddr .. | .index .. | .binOp .. | .unOp .. | .makeInterface .. | .nilCheck _ | .build .. => 0
  | .makeFunc .. => 0
  | .load .. | .lookup .. => 1
  | .alloc .. | .box .. | .makeSlice .. | .makeMap .. => 3
  | .buildSlice .. => match C.dyn with | true => 0 | false => 3
  | .slice t .. => match C.P.underlying t with
    | some (.array ..) => 1
    | _ => 0
  | .convert _ dst _ => match C.P.underlying dst with
    | some (.slice _) => 3
    | some .string => 1
    | some .unsafePointer => 1
    | some (.pointer _) => 1
    | _ => 0
  | .call c => match c.callee with
    | .builtin .len => match c.argTypes.toList with
      | [t] => match C.P.underlying t with
        | some (.map _ _) => 1
        | _ => 0
      | _ => 0
    | .builtin .min | .builtin .max | .builtin .cap | .builtin .unsafeSliceData => 0
    | .value (.func f) => match C.same f with
      | true => 0
      | false => match extOf C.P f with
        | some _ => 0
        | none => match C.pure f with | true => 1 | false => 2
    | .value _ => match C.dyn with | true => 1 | false => 2
    | _ => 2
  | _ => 2

def indep (C : Ctx) (ops : Array Oper) (x y : Oper) : Bool :=
  match x.apart ops y with
  | true => match opClass C x, opClass C y with
    | 0, _ => true
    | _, 0 => true
    | 1, 1 => true
    | 1, 3 => true
    | _, _ => false
  | false => false

/-- the numbers that stand ahead of an operation, by its edges, as far as the masks of those ahead are known -/
def maskOf (ms : List Nat) (o : Oper) : Nat :=
  o.after.toList.foldl (fun m e => match Region.binds .any e with | true => m ||| 2 ^ e.on ||| (ms[e.on]?.getD 0) | false => m) 0
def masksFrom : List Oper → List Nat → List Nat
  | [], ms => ms
  | o :: r, ms => masksFrom r (ms ++ [maskOf ms o])
def masks (l : List Oper) : List Nat := masksFrom l []

def okAgainst (C : Ctx) (ops : Array Oper) (m : Nat) (y : Oper) : List Oper → Nat → Bool
  | [], _ => true
  | x :: r, i => match m.testBit i with
    | true => okAgainst C ops m y r (i + 1)
    | false => match indep C ops x y with
      | true => okAgainst C ops m y r (i + 1)
      | false => false
/-- every edge that binds points back -/
def backOK (y : Oper) (k : Nat) : Bool := y.after.toList.all fun e => !Region.binds .any e || Nat.blt e.on k
def drawOKFrom (C : Ctx) (ops : Array Oper) : List Oper → List Oper → List Nat → Bool
  | _, [], _ => true
  | _, _ :: _, [] => false
  | seen, y :: r, m :: ms => match okAgainst C ops m y seen 0, backOK y seen.length with
    | true, true => drawOKFrom C ops (seen ++ [y]) r ms
    | _, _ => false
def drawOK (C : Ctx) (ops : Array Oper) : Bool := match C.P.follows .mixedOrders with
  | true => drawOKFrom C ops [] ops.toList (masks ops.toList)
  | false => false

def Ctx.strict (C : Ctx) : Ctx := { P := C.P, D := C.D, G := C.G, pure := C.pure, orc := C.orc, dyn := true, same := C.same, inr := C.inr, once := C.once, memo := C.memo }

noncomputable def loopN (body : St → Option (Exit × St)) (n : Nat) : St → Option (Exit × St) :=
  Nat.rec (motive := fun _ => St → Option (Exit × St)) (fun _ => none)
    (fun _ ih s => match body s with
      | some (e, s) => match e with
        | .normal => ih s
        | e => some (e, s)
      | none => none) n

noncomputable def execB (C : Ctx) (call : FuncId → List AV → Hp → Option (AV × Hp)) (n : Nat) (c : Code) : Bx (St → Option (Exit × St)) :=
  Code.rec (motive := fun _ => Bx (St → Option (Exit × St)))
    (.mk fun s => some (.normal, s))
    (fun _ ops draw => match draw with
      | false => .mk fun s => match runOps C call ops ops.toList s with
        | some s => some (.normal, s)
        | none => none
      | true => match drawOK C ops with
        | true => .mk fun s => match runOps C call ops ops.toList s with
          | some s => some (.normal, s)
          | none => none
        | false => match drawOK C.strict ops with
          | true => .mk fun s => match runOps C.strict call ops ops.toList s with
            | some s => some (.normal, s)
            | none => none
          | false => .mk fun _ => none)
    (fun _ _ iha ihb => .mk fun s => match iha.f s with
      | some (e, s) => match e with
        | .normal => ihb.f s
        | e => some (e, s)
      | none => none)
    (fun c _ _ ihx ihy => .mk fun s => match ev C c s with
      | .bool t => match t with
        | true => ihx.f s
        | false => ihy.f s
      | _ => none)
    (fun id _ ih => .mk fun s => match ih.f s with
      | some (e, s) => match e with
        | .exit id' => match Nat.beq id' id with
          | true => some (.normal, s)
          | false => some (.exit id', s)
        | e => some (e, s)
      | none => none)
    (fun _ ih => .mk fun s => loopN ih.f n s)
    (fun g ps assign body _ _ => match C.inr with
      | true => .mk fun _ => none
      | false => .mk fun s => match ev C g s with
        | .fn gf caps => match Nat.beq gf rndF with
          | true => none
          | false => match call gf (.rnd s.h.nx :: caps) (s.h.new (.loop .ready none s.T s.N C.D ps.toList assign body)) with
            | some (_, h) => match h.get s.h.nx with
              | some (.loop st pe _ _ _ _ _ _) => match st with
                | .busy => none
                | _ => match pe with
                  | none => some (.normal, ⟨s.T, h.set s.h.nx .dead, s.N⟩)
                  | some e => some (e, ⟨s.T, h.set s.h.nx .dead, s.N⟩)
              | _ => none
            | none => none
        | _ => none)
    (fun id => .mk fun s => some (.exit id, s))
    (fun _ ih => .mk fun s => match ih.f s with
      | some (e, s) => match e with
        | .goto _ => none
        | e => some (e, s)
      | none => none)
    (fun _ => .mk fun s => some (.normal, s))
    (fun _ => .mk fun _ => none)
    (.mk fun s => some (.ret, s))
    (fun _ => .mk fun _ => none)
    c
noncomputable def exec (C : Ctx) (call : FuncId → List AV → Hp → Option (AV × Hp)) (n : Nat) (c : Code) : St → Option (Exit × St) := (execB C call n c).f

mutual
/-- What a callee is handed: the caller's own slices as trees, lent. -/
noncomputable def lendAV (h : Hp) : Nat → AV → Option AV
  | 0, _ => none
  | d + 1, v => match v with
    | .int k n => some (.int k n)
    | .bool b => some (.bool b)
    | .str l => some (.str l)
    | .val v => some (.val v)
    | .agg cs => match lendAVs h d cs with | some r => some (.agg r) | none => none
    | .tup cs => match lendAVs h d cs with | some r => some (.tup r) | none => none
    | .lst q z n cs => some (.lst q z n cs)
    | .tptr q cs => some (.tptr q cs)
    | .sl b o n z => match h.get b with
      | some (.cells _ cs) => match dropX o cs with
        | some cs => match takeX (Nat.mul n z) cs with
          | some cs => match lendAVs h d cs with | some r => some (.lst true z n r) | none => none
          | none => none
        | none => none
      | _ => none
    | .mtree q ks vs => some (.mtree q ks vs)
    | .mapr b => match h.get b with
      | some (.map _ es) => match lendAVs h d (mapL (fun e => e.2.2) es) with | some r => some (.mtree true (mapL (fun e => e.1) es) r) | none => none
      | _ => none
    | .fn f caps => match lendAVs h d caps with | some r => some (.fn f r) | none => none
    | .mv f caps => match lendAVs h d caps with | some r => some (.mv f r) | none => none
    | .iface t v => match lendAV h d v with | some r => some (.iface t r) | none => none
    | _ => none
noncomputable def lendAVs (h : Hp) : Nat → List AV → Option (List AV)
  | 0, _ => none
  | _ + 1, [] => some []
  | d + 1, c :: cs => match lendAV h d c with
    | some r => match lendAVs h d cs with | some rs => some (r :: rs) | none => none
    | none => none
end
mutual
/-- What a callee hands back: its own slices as trees; nothing that was lent. -/
noncomputable def giveAV (h : Hp) : Nat → AV → Option AV
  | 0, _ => none
  | d + 1, v => match v with
    | .int k n => some (.int k n)
    | .bool b => some (.bool b)
    | .str l => some (.str l)
    | .val v => some (.val v)
    | .agg cs => match giveAVs h d cs with | some r => some (.agg r) | none => none
    | .tup cs => match giveAVs h d cs with | some r => some (.tup r) | none => none
    | .lst q z n cs => match q with
      | false => match giveAVs h d cs with
        | some r => some (.lst false z n r)
        | none => none
      | true => match cs with
        | [] => some (.lst true z n [])
        | _ :: _ => none
    | .sl b o n z => match h.get b with
      | some (.cells _ cs) => match dropX o cs with
        | some cs => match takeX (Nat.mul n z) cs with
          | some cs => match giveAVs h d cs with | some r => some (.lst false z n r) | none => none
          | none => none
        | none => none
      | _ => none
    | .mtree q ks vs => match q with
      | false => match giveAVs h d vs with | some r => some (.mtree false ks r) | none => none
      | true => none
    | .mapr b => match h.get b with
      | some (.map _ es) => match giveAVs h d (mapL (fun e => e.2.2) es) with | some r => some (.mtree false (mapL (fun e => e.1) es) r) | none => none
      | _ => none
    | .fn f caps => match giveAVs h d caps with | some r => some (.fn f r) | none => none
    | .mv f caps => match giveAVs h d caps with | some r => some (.mv f r) | none => none
    | .iface t v => match giveAV h d v with | some r => some (.iface t r) | none => none
    | _ => none
noncomputable def giveAVs (h : Hp) : Nat → List AV → Option (List AV)
  | 0, _ => none
  | _ + 1, [] => some []
  | d + 1, c :: cs => match giveAV h d c with
    | some r => match giveAVs h d cs with | some rs => some (r :: rs) | none => none
    | none => none
end

def lendD : Nat := 100000

/-! Are two trees the same? -/
def eqB : Bool → Bool → Bool
  | true, true => true
  | false, false => true
  | _, _ => false
noncomputable def eqVal : Value → Value → Bool
  | .int k n, .int k' n' => match keq k k' with | true => eqI n n' | false => false
  | .string s, .string t => eqL s.data.toList t.data.toList
  | .slice none n c, .slice none n' c' => match Nat.beq n n' with | true => Nat.beq c c' | false => false
  | .pointer none, .pointer none => true
  | .map none, .map none => true
  | .nilIface, .nilIface => true
  | .nilFunc, .nilFunc => true
  | _, _ => false
noncomputable def eqVals : List Value → List Value → Bool
  | [], [] => true
  | v :: vs, u :: us => match eqVal v u with | true => eqVals vs us | false => false
  | _, _ => false
mutual
noncomputable def eqAV : Nat → AV → AV → Bool
  | 0, _, _ => false
  | d + 1, a, b => match a with
    | .int k n => match b with | .int k' n' => (match keq k k' with | true => eqI n n' | false => false) | _ => false
    | .bool x => match b with | .bool y => eqB x y | _ => false
    | .str l => match b with | .str r => eqL l r | _ => false
    | .val v => match b with | .val u => eqVal v u | _ => false
    | .agg cs => match b with | .agg es => eqAVs d cs es | _ => false
    | .tup cs => match b with | .tup es => eqAVs d cs es | _ => false
    | .lst q z n cs => match b with | .lst q' z' n' es => (match eqB q q', Nat.beq z z', Nat.beq n n' with | true, true, true => eqAVs d cs es | _, _, _ => false) | _ => false
    | .tptr q cs => match b with | .tptr q' es => (match eqB q q' with | true => eqAVs d cs es | false => false) | _ => false
    | .mtree q ks vs => match b with | .mtree q' ks' us => (match eqB q q', eqVals ks ks' with | true, true => eqAVs d vs us | _, _ => false) | _ => false
    | .fn f cs => match b with | .fn g es => (match Nat.beq f g with | true => eqAVs d cs es | false => false) | _ => false
    | .mv f cs => match b with | .mv g es => (match Nat.beq f g with | true => eqAVs d cs es | false => false) | _ => false
    | .iface t v => match b with | .iface t' u => (match Nat.beq t t' with | true => eqAV d v u | false => false) | _ => false
    | _ => false
noncomputable def eqAVs : Nat → List AV → List AV → Bool
  | 0, _, _ => false
  | d + 1, xs, ys => match xs with
    | [] => match ys with | [] => true | _ :: _ => false
    | x :: xs => match ys with | y :: ys => (match eqAV d x y with | true => eqAVs d xs ys | false => false) | [] => false
end
structure MemoE where
  f : FuncId
  args : List AV
  res : AV
/-- What a table knows of a call. -/
noncomputable def lookM (l : List MemoE) (f : FuncId) (args : List AV) : Option AV :=
  List.rec (motive := fun _ => Option AV) none (fun e _ ih => match Nat.beq e.f f with
    | true => match eqAVs lendD args e.args with
      | true => some e.res
      | false => ih
    | false => ih) l
/-- Did a call come to just this? -/
noncomputable def isRes (r : AV) : Option (AV × Hp) → Bool
  | some (v, _) => eqAV lendD v r
  | none => false

/-- What the result variables hold. -/
noncomputable def resVal (C : Ctx) (s : St) : ResultVar → Option AV
  | .tmp t => Tr.get C.D t s.T
  | .cell a t => match Tr.get C.D a s.T with
    | some v => match look s.h v with
      | some cs => rdCells C.P t cs
      | none => none
    | none => none
noncomputable def resVals (C : Ctx) (s : St) (l : List ResultVar) : Option (List AV) :=
  List.rec (motive := fun _ => Option (List AV)) (some [])
    (fun x _ ih => match resVal C s x with
      | some v => match ih with | some vs => some (v :: vs) | none => none
      | none => none) l
noncomputable def resAV (C : Ctx) (s : St) (l : List ResultVar) : Option AV :=
  match resVals C s l with
  | some vs => match vs with
    | [v] => some v
    | vs => some (.tup vs)
  | none => none

noncomputable def enterT (C : Ctx) (l : List AV) : Nat → Tr AV → (Tr AV → St) → St :=
  List.rec (motive := fun _ => Nat → Tr AV → (Tr AV → St) → St) (fun _ t c => c t) (fun v _ ih k t c => forceAV v fun v => Tr.setK C.D k t v fun t => ih (Nat.succ k) t c) l
noncomputable def enter (C : Ctx) (n : Nat) (args : List AV) (h : Hp) : St :=
  enterT C args 0 .nil fun T => ⟨T, h, n⟩

def leaves : Exit → Bool
  | .normal | .ret => true
  | _ => false

/-- As many digits as a function's slots want. -/
def digitsFor (n : Nat) : Nat := match Nat.ble n 16 with
  | true => 2
  | false => match Nat.ble n 64 with
    | true => 3
    | false => match Nat.ble n 256 with
      | true => 4
      | false => 6
def Ctx.at (C : Ctx) (fn : Func) : Ctx := { P := C.P, D := digitsFor fn.ntmps, G := C.G, pure := C.pure, orc := C.orc, dyn := C.dyn, same := C.same, inr := false, once := C.once, memo := C.memo }
/-- in a round of a loop whose function's slots have D digits -/
def Ctx.round (C : Ctx) (D : Nat) : Ctx := { P := C.P, D := D, G := C.G, pure := C.pure, orc := C.orc, dyn := C.dyn, same := C.same, inr := true, once := C.once, memo := C.memo }

/-- Values laid into slots, one behind the other. -/
noncomputable def layK (D N : Nat) {β : Type} (c : Tr AV → Option β) : List Tmp → List AV → Tr AV → Option β :=
  List.rec (motive := fun _ => List AV → Tr AV → Option β) (fun vs T => match vs with
      | [] => c T
      | _ => none)
    (fun p _ ih vs T => match vs with
      | [] => none
      | v :: vs => match Nat.blt p N with
        | true => forceAV v fun v => Tr.setK D p T v fun T => ih vs T
        | false => none)
/-- A round: what the call of its function's argument comes to. -/
noncomputable def roundA (C : Ctx) (call : FuncId → List AV → Hp → Option (AV × Hp)) (n : Nat) : List AV → Hp → Option (AV × Hp) := fun args h => match args with
  | .rnd b :: vs => match h.get b with
    | some (.loop st _ T N D ps assign body) => match st with
      | .ready => layK D N (fun T' => match exec (C.round D) call n assign ⟨T', h, N⟩ with
        | some (e1, s1) => match e1 with
          | .normal => match s1.h.get b with
            | some (.loop st1 pe1 T1 N1 D1 ps1 as1 bd1) => match st1 with
              | .ready => match exec (C.round D) call n body ⟨s1.T, s1.h.set b (.loop .busy pe1 T1 N1 D1 ps1 as1 bd1), s1.N⟩ with
                | some (e2, s2) => match s2.h.get b with
                  | some (.loop _ _ T2 N2 D2 ps2 as2 bd2) => match e2 with
                    | .normal => some (.bool true, s2.h.set b (.loop .ready none T2 N2 D2 ps2 as2 bd2))
                    | .ret => some (.bool false, s2.h.set b (.loop .done (some .ret) T2 N2 D2 ps2 as2 bd2))
                    | .exit id => some (.bool false, s2.h.set b (.loop .done (some (.exit id)) T2 N2 D2 ps2 as2 bd2))
                    | _ => none
                  | _ => none
                | none => none
              | _ => none
            | _ => none
          | _ => none
        | none => none) ps vs T
      | _ => none
    | _ => none
  | _ => none

/-- One cell of a list turned. -/
noncomputable def setX {α : Type} (l : List α) (k : Nat) (v : α) : Option (List α) := putX k [v] l
def isI32 : AV → Nat → Bool
  | .int k n, m => match k with
    | .i32 => eqI n (.ofNat m)
    | _ => false
  | _, _ => false
def isU32 : AV → Nat → Bool
  | .int k n, m => match k with
    | .u32 => eqI n (.ofNat m)
    | _ => false
  | _, _ => false
/-- '(*sync.Once).Do' of a Once that has not been done: its cells: done, the lock's state, the lock's semaphore. -/
noncomputable def onceA (call : FuncId → List AV → Hp → Option (AV × Hp)) : List AV → Hp → Option (AV × Hp) := fun args h => match args with
  | [.ptr b o, fv] => match h.get b with
    | some (.cells e cs) => match nth cs o, nth cs (Nat.succ o) with
      | some d, some l => match isU32 d 0, isI32 l 0 with
        | true, true => match setX cs (Nat.succ o) (.int .i32 (.ofNat 1)) with
          | some cs1 => match (match fv with
            | .fn g caps => match Nat.beq g rndF with
              | true => none
              | false => call g caps (h.set b (.cells e cs1))
            | .mv g fs => match Nat.beq g rndF with
              | true => none
              | false => call g fs (h.set b (.cells e cs1))
            | _ => none : Option (AV × Hp)) with
            | some (_, h2) => match h2.get b with
              | some (.cells e2 cs2) => match nth cs2 (Nat.succ o) with
                | some l2 => match isI32 l2 1 with
                  | true => match setX cs2 o (.int .u32 (.ofNat 1)) with
                    | some cs3 => match setX cs3 (Nat.succ o) (.int .i32 (.ofNat 0)) with
                      | some cs4 => some (.tup [], (h2.set b (.cells e2 cs3)).set b (.cells e2 cs4))
                      | none => none
                    | none => none
                  | false => none
                | none => none
              | _ => none
            | none => none
          | none => none
        | _, _ => none
      | _, _ => none
    | _ => none
  | _ => none

noncomputable def funB (C : Ctx) (call : FuncId → List AV → Hp → Option (AV × Hp)) (n : Nat) (f : FuncId) : Bx (List AV → Hp → Option (AV × Hp)) :=
  match Nat.beq f rndF with
  | true => .mk (roundA C call n)
  | false => match Nat.beq f C.once with
  | true => .mk (onceA call)
  | false => match C.orc f with
  | some g => .mk g
  | none => match C.P.funcs[f]? with
    | none => .mk fun _ _ => none
    | some fn => match fn.body with
      | none => .mk fun _ _ => none
      | some c => match C.pure f with
        | true => .mk fun args h => match Nat.ble args.length fn.ntmps with
          | false => none
          | true => match lendAVs h lendD args with
            | none => none
            | some args => match C.memo f args with
              | some r => keep h (giveAV Hp.empty lendD r)
              | none => match exec (C.at fn) call n c (enter (C.at fn) fn.ntmps args Hp.empty) with
                | some (e, s) => match leaves e with
                  | true => match resAV (C.at fn) s fn.results.toList with
                    | some r => keep h (giveAV s.h lendD r)
                    | none => none
                  | false => none
                | none => none
        | false => .mk fun args h => match Nat.ble args.length fn.ntmps with
          | false => none
          | true => match exec (C.at fn) call n c (enter (C.at fn) fn.ntmps args h) with
            | some (e, s) => match leaves e with
              | true => keep s.h (resAV (C.at fn) s fn.results.toList)
              | false => none
            | none => none

noncomputable def callN (C : Ctx) (n : Nat) : FuncId → List AV → Hp → Option (AV × Hp) :=
  Nat.rec (motive := fun _ => FuncId → List AV → Hp → Option (AV × Hp)) (fun _ _ _ => none) (fun n ih f => (funB C ih n f).f) n
end Go.Ab
