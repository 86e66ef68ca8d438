/-
What is proved: 'midrangetop.TopTextsRefused' returns true for every input, and its arguments read behind the call as they read before (the tied card of the statement 'TopTextsRefused').
  Its conditions: the row's own: the ten listed package-level variables start as the program's text lays them (the card ties them to that text); nothing else is asked.
  Part 1 of 15.
-/
import Derived.Calls
import Derived.Laws.AppendOwn
import Derived.Tactics
import Derived.Below
import Derived.Orders
import Derived.Laws.MakeOwn
import Derived.WalkKit
import Derived.Deep.MidRow
set_option linter.unusedSectionVars false
set_option linter.unusedVariables false
set_option linter.unusedSimpArgs false
section
namespace Go.Eng
open Go
inductive Tr (α : Type) where
  | ret (a : α)
  | ask (b : Bool) (t f : Tr α)
  | need (p : Prop) (k : Tr α)
  | fail
structure Ob (p : Prop) : Prop where
  out : p
namespace Tr
def bind {α β : Type} : Tr α → (α → Tr β) → Tr β
  | ret a, g => g a
  | ask b t f, g => ask b (t.bind g) (f.bind g)
  | need p k, g => need p (k.bind g)
  | fail, _ => fail
def wp {α : Type} : Tr α → (α → Prop) → Prop
  | ret a, Q => Q a
  | ask b t f, Q => (b = true → t.wp Q) ∧ (b = false → f.wp Q)
  | need p k, Q => Ob p ∧ k.wp Q
  | fail, _ => False
def wpG {α : Type} (g : Prop) : Tr α → (α → Prop) → Prop
  | ret a, Q => Q a
  | ask b t f, Q => (b = true → t.wpG g Q) ∧ (b = false → f.wpG g Q)
  | need p k, Q => Ob (g → p) ∧ k.wpG g Q
  | fail, _ => False
open Classical in
noncomputable def run {α : Type} : Tr α → Option α
  | ret a => some a
  | ask b t f => if b then t.run else f.run
  | need p k => if p then k.run else none
  | fail => none
end Tr
inductive AV where
  | any | undef
  | int (k : IntKind) (n : Int)
  | bool (b : Bool)
  | prop (b : Bool)
  | str (s : List UInt8)
  | nilS
  | sl (full : Bool) (sz n : Nat) (f : Nat → List AV)
  | row (k : Nat)
  | ptr (k o : Nat)
  | rp (k sz i o : Nat)
  | rd (cs : List AV)
  | rda (sz n : Nat) (f : Nat → List AV)
  | agg (l : List AV)
  | tup (l : List AV)
  | clo (f : Nat) (cap : List AV)
  | nilI
  | ifc (t : Nat) (v : AV)
  | nilP
  | nilF
  | fresh (e sz : Nat) (els : List (List AV))
  | ifp (g : Nat) (w : Bool) (v : AV)
  | ifS
instance : Inhabited AV := ⟨.any⟩
inductive Blk where
  | box (cells : List AV) (fz : Bool)
  | row (e sz : Nat) (els : List (List AV)) (pin : Bool)
  | full (e sz : Nat) (els : List (List AV))
  | dead
structure St where
  slot : Nat → AV
  H : Nat → Option Blk
def upd {α : Type} (f : Nat → α) (k : Nat) (v : α) : Nat → α := fun j => bif Nat.beq j k then v else f j
def putO (s : Nat → AV) (d : Option Nat) (v : AV) : Nat → AV := match d with | some d => upd s d v | none => s
def abs1 : Value → AV
  | .bool b => .bool b
  | .int k n => .int k n
  | .string s => .str s.data.toList
  | .slice none 0 0 => .nilS
  | .nilIface => .nilI
  | .pointer none => .nilP
  | .nilFunc => .nilF
  | _ => .any
def absV : Value → AV
  | .agg cs => bif cs.toList.all (·.oneCell') then .agg (cs.toList.map abs1) else .any
  | v => abs1 v
def pers1 : AV → Bool
  | .int .. | .bool _ | .prop _ | .str _ | .nilS | .sl .. | .rd _ | .rda .. | .nilI | .nilP | .nilF | .ifS => true
  | _ => false
def pers : AV → Bool
  | .agg l => l.all pers1
  | .clo _ cap => cap.all pers1
  | .ifc _ v => pers1 v
  | v => pers1 v
def persA1 : AV → Bool
  | .any => true
  | v => pers1 v
def persA : AV → Bool
  | .agg l => l.all persA1
  | .clo _ cap => cap.all persA1
  | .ifc _ v => persA1 v
  | v => persA1 v
def persT : AV → Bool
  | .tup l => l.all persA
  | v => persA v
def scal1 : AV → Bool
  | .any | .int .. | .bool _ | .prop _ | .str _ | .nilS | .nilI | .nilP | .nilF | .ifS => true
  | _ => false
def scal : AV → Bool
  | .agg l => l.all scal1
  | v => scal1 v
def scalT : AV → Bool
  | .tup l => l.all scal
  | v => scal v
def asSl (sz : Nat) (els : List (List AV)) : AV := .sl false sz els.length (fun i => els.getD i [])
def view1 (H : Nat → Option Blk) : AV → AV
  | .row k => match H k with | some (.row _ sz els _) => asSl sz els | _ => .any
  | v => v
def view (H : Nat → Option Blk) : AV → AV
  | .agg l => .agg (l.map (view1 H))
  | v => view1 H v
def keys1 : AV → List Nat
  | .row k | .ptr k _ | .rp k _ _ _ => [k]
  | _ => []
def keys : AV → List Nat
  | .agg l => l.flatMap keys1
  | .clo _ cap => cap.flatMap keys1
  | .ifc _ v => keys1 v
  | v => keys1 v
def keysT : AV → List Nat
  | .tup l => l.flatMap keys
  | v => keys v
def pinned (H : Nat → Option Blk) (k : Nat) : Bool := match H k with | some (.row _ _ _ p) => p | some (.box _ fz) => fz | _ => false
abbrev Con := List AV → Tr AV
universe u
def look {α : Type u} (f : Nat) : List (Nat × α) → Option α
  | [] => none
  | (g, c) :: r => bif Nat.beq g f then some c else look f r
inductive TK where
  | int (k : IntKind) | bool | string
  | slice (e : Nat) (esz : Nat)
  | struct (fs : List (Nat × Nat × Bool))
  | array (n e : Nat) (esz : Nat)
  | iface | other
structure TI where
  k : TK
  size : Nat
  zero : List AV
structure Env where
  P : Program
  T : List (Nat × TI)
  Γ : List (Nat × Con)
  G : Nat → AV
  EQ : List (Nat × List Bool)
def szP (P : Program) (t : Nat) : Nat := match P.info? t with | some i => i.size | none => 0
def isAgP (P : Program) (t : Nat) : Bool := match P.underlying t with | some (.struct _) | some (.array _ _) => true | _ => false
def tkOf (P : Program) : TypeDesc → TK
  | .int k => .int k
  | .bool => .bool
  | .string => .string
  | .slice e => .slice e (szP P e)
  | .struct fs => .struct (fs.toList.map fun f => (f.offset, szP P f.type, isAgP P f.type))
  | .array n e => .array n e (szP P e)
  | .interface _ => .iface
  | _ => .other
def zeroP (i : TypeInfo) : List AV := match i.zero with | some v => (match absV v with | .agg l => l | x => [x]) | none => []
def zeroOkP (i : TypeInfo) : Bool := match i.zero with | some v => v.cells.all (·.oneCell') | none => false
def fieldsOkP (P : Program) : TypeDesc → Bool | .struct fs => fs.toList.all (fun f => (P.underlying f.type).isSome) | _ => true
def tiOf (P : Program) (t : Nat) : Option TI := match P.info? t, P.underlying t with
  | some i, some d => if (zeroOkP i && fieldsOkP P d && Nat.ble i.bytes 1048576) = true then some { k := tkOf P d, size := i.size, zero := zeroP i } else none
  | _, _ => none
def Env.ti (E : Env) (t : Nat) : Option TI := look t E.T
def Env.sz (E : Env) (t : Nat) : Nat := match E.ti t with | some i => i.size | none => 0
def TK.ag : TK → Bool | .struct _ | .array .. => true | _ => false
def Env.ag (E : Env) (t : Nat) : Bool := match E.ti t with | some i => i.k.ag | none => false
def Env.kind (E : Env) (t : Nat) : TK := match E.ti t with | some i => i.k | none => .other
def Env.zero (E : Env) (t : Nat) : List AV := match E.ti t with | some i => i.zero | none => []
def cellsOf : AV → List AV
  | .agg l => l
  | v => [v]
def isCell : AV → Bool
  | .int .. | .bool _ | .prop _ | .str _ | .nilS | .sl .. | .row _ | .ptr .. | .rp .. | .rd _ | .rda .. | .nilI | .nilP | .nilF | .ifS => true
  | _ => false
def cellsOk : AV → Bool
  | .agg _ => true
  | v => isCell v
def ofCells (ag : Bool) (cs : List AV) : Tr AV := match ag, cs with
  | true, cs => .ret (.agg cs)
  | false, c :: _ => .ret c
  | false, [] => .fail
def inI64 (n : Int) : Prop := -9223372036854775808 ≤ n ∧ n ≤ 9223372036854775807
def arith (k : IntKind) (n : Int) : Tr AV := match k with
  | .i64 => .need (inI64 n) (.ret (.int .i64 n))
  | k => .ret (.int k (k.wrap n))
def eqCells : List AV → List AV → Option Bool
  | [], [] => some true
  | .int k a :: r, .int k' b :: r' => if k = k' then (eqCells r r').map (decide (a = b) && ·) else none
  | .str a :: r, .str b :: r' => (eqCells r r').map (decide (a = b) && ·)
  | _, _ => none
def shapeIs : List Bool → List AV → Bool
  | [], [] => true
  | true :: r, .int .i64 _ :: l => shapeIs r l
  | false :: r, .str _ :: l => shapeIs r l
  | _, _ => false
def bin (E : Env) (op : BinOp) (t : Nat) : AV → AV → Tr AV
  | .int k a, .int k' b =>
    match op with
    | .add => if k = k' then arith k (a + b) else .fail
    | .sub => if k = k' then arith k (a - b) else .fail
    | .mul => if k = k' then arith k (a * b) else .fail
    | .quo => if k = k' then .need (b ≠ 0) (arith k (a.tdiv b)) else .fail
    | .rem => if k = k' then .need (b ≠ 0) (.ret (.int k (a.tmod b))) else .fail
    | .eql => if k = k' then .ret (.prop (decide (a = b))) else .fail
    | .neq => if k = k' then .ret (.prop (!decide (a = b))) else .fail
    | .lss => if k = k' then .ret (.prop (decide (a < b))) else .fail
    | .leq => if k = k' then .ret (.prop (decide (a ≤ b))) else .fail
    | .gtr => if k = k' then .ret (.prop (decide (b < a))) else .fail
    | .geq => if k = k' then .ret (.prop (decide (b ≤ a))) else .fail
    | .and => if k = k' then .ret (.int k (k.wrap (BitVec.ofInt k.bits a &&& BitVec.ofInt k.bits b).toNat)) else .fail
    | .or => if k = k' then .ret (.int k (k.wrap (BitVec.ofInt k.bits a ||| BitVec.ofInt k.bits b).toNat)) else .fail
    | .shl => .need (0 ≤ b) (.ret (.int k (k.wrap (a * 2 ^ (min b.toNat k.bits)))))
    | .shr => .need (0 ≤ b) (.ret (.int k (a.fdiv (2 ^ (min b.toNat k.bits)))))
    | _ => .fail
  | .str a, .str b =>
    match op with
    | .add => .need (a.length + b.length ≤ 9223372036854775807) (.ret (.str (a ++ b)))
    | .eql => .ret (.prop (decide (a = b)))
    | .neq => .ret (.prop (!decide (a = b)))
    | .lss => .ret (.prop (Op.bytesLess a b))
    | _ => .fail
  | .agg a, .agg b =>
    match look t E.EQ with
    | some sh => bif shapeIs sh a && shapeIs sh b then
      match op, eqCells a b with
      | .eql, some r => .ret (.prop r)
      | .neq, some r => .ret (.prop (!r))
      | _, _ => .fail
      else .fail
    | none => .fail
  | .nilI, .nilI => match op, E.kind t with | .eql, .iface => .ret (.bool true) | .neq, .iface => .ret (.bool false) | _, _ => .fail
  | .nilI, .ifS => match op, E.kind t with | .eql, .iface => .ret (.bool false) | .neq, .iface => .ret (.bool true) | _, _ => .fail
  | .ifS, .nilI => match op, E.kind t with | .eql, .iface => .ret (.bool false) | .neq, .iface => .ret (.bool true) | _, _ => .fail
  | .nilI, .ifc _ _ => match op, E.kind t with | .eql, .iface => .ret (.bool false) | .neq, .iface => .ret (.bool true) | _, _ => .fail
  | .ifc _ _, .nilI => match op, E.kind t with | .eql, .iface => .ret (.bool false) | .neq, .iface => .ret (.bool true) | _, _ => .fail
  | .prop a, .prop b => match op, E.kind t with | .eql, .bool => .ret (.prop (a == b)) | .neq, .bool => .ret (.prop (a != b)) | _, _ => .fail
  | _, _ => .fail
def un (op : UnOp) : AV → Tr AV
  | .bool b => match op with | .not => .ret (.bool (!b)) | _ => .fail
  | .prop b => match op with | .not => .ret (.prop (!b)) | _ => .fail
  | .int k a => match op with | .neg => arith k (0 - a) | _ => .fail
  | _ => .fail
def asProp : AV → AV
  | .bool b => .prop b
  | v => v
def pickV (c a b : AV) : Tr AV := match c with
  | .bool t => bif t then .ret a else .ret b
  | .prop t => .ask t (.ret (asProp a)) (.ret (asProp b))
  | _ => .fail
def fieldOff (E : Env) (t i : Nat) : Option (Nat × Nat × Bool) := match E.kind t with
  | .struct fs => fs[i]?
  | _ => none
def setRange (l : List AV) (o : Nat) (v : List AV) : List AV := l.take o ++ v ++ l.drop (o + v.length)
def fill (place : Nat → Option (Nat × Nat)) (cells : List AV) : List (Nat × AV) → Option (List AV)
  | [] => some cells
  | (i, v) :: r => match place i with
    | none => none
    | some (o, sz) => bif Nat.beq (cellsOf v).length sz && Nat.ble (o + sz) cells.length then fill place (setRange cells o (cellsOf v)) r else none
def rep (n : Nat) (z : List AV) : List AV := match n with | 0 => [] | n + 1 => z ++ rep n z
def chunk (sz : Nat) : Nat → List AV → List (List AV)
  | 0, _ => []
  | n + 1, l => l.take sz :: chunk sz n (l.drop sz)
def bnd (ρ : Operand → AV) (lo hi : Option Operand) (n : Nat) (k : Nat → Nat → Tr AV) : Tr AV :=
  match hi.map ρ with
  | none => (match lo.map ρ with
    | none => k 0 n
    | some (.int _ l) => .need (0 ≤ l ∧ l ≤ n) (k l.toNat n)
    | _ => .fail)
  | some (.int _ h) => .need (0 ≤ h ∧ h ≤ n) (match lo.map ρ with
    | none => k 0 h.toNat
    | some (.int _ l) => .need (0 ≤ l ∧ l ≤ h) (k l.toNat h.toNat)
    | _ => .fail)
  | _ => .fail
def cst : Operand → Bool | .const _ => true | _ => false
def isNilI : AV → Bool | .nilI => true | _ => false
def pureOp (E : Env) (ρ : Operand → AV) : Op → Tr AV
  | .move x | .assign x => .ret (ρ x)
  | .pick c a b => pickV (ρ c) (ρ a) (ρ b)
  | .binOp op t x y _ => bif isNilI (ρ x) && isNilI (ρ y) && !(cst x || cst y) then .fail else bin E op t (ρ x) (ρ y)
  | .unOp op _ x => un op (ρ x)
  | .convert s d x => match ρ x, E.kind d, E.kind s with
    | .int _ n, .int k, .int _ => .ret (.int k (k.wrap n))
    | _, _, _ => .fail
  | .fieldAddr t x i => match fieldOff E t i, ρ x with
    | some (o, fs, _), .ptr k o' => bif Nat.beq fs 0 then .fail else .ret (.ptr k (o' + o))
    | some (o, fs, _), .rp k sz i o' => bif Nat.beq fs 0 then .fail else .ret (.rp k sz i (o' + o))
    | some (o, fs, _), .rd cs => bif Nat.beq fs 0 then .fail else .ret (.rd (cs.drop o))
    | _, _ => .fail
  | .field t x i => match fieldOff E t i, ρ x with
    | some (o, fs, ag), .agg l => bif Nat.beq fs 0 then .fail else ofCells ag ((l.drop o).take fs)
    | _, _ => .fail
  | .extract x i => match ρ x with | .tup l => (match l[i]? with | some v => .ret v | none => .fail) | _ => .fail
  | .index t x i => match ρ x, ρ i, E.kind t with
    | .str s, .int _ n, .string => .need (0 ≤ n ∧ n < s.length) (.ret (.int .u8 (s.getD n.toNat 0).toNat))
    | _, _, _ => .fail
  | .indexAddr t x i => match ρ x, ρ i, E.kind t with
    | .sl _ sz n f, .int _ j, .slice _ esz => bif Nat.beq sz esz && !(Nat.beq esz 0) then .need (0 ≤ j ∧ j < n) (.ret (.rd (f j.toNat))) else .fail
    | .rda sz n f, .int _ j, .array m _ esz => bif Nat.beq sz esz && Nat.beq n m && !(Nat.beq esz 0) then .need (0 ≤ j ∧ j < n) (.ret (.rd (f j.toNat))) else .fail
    | _, _, _ => .fail
  | .slice t x lo hi none => match ρ x, E.kind t with
    | .str s, .string => bnd ρ lo hi s.length fun l h => .ret (.str ((s.drop l).take (h - l)))
    | .sl _ sz n f, .slice _ esz => bif Nat.beq sz esz && !(Nat.beq esz 0) then bnd ρ lo hi n fun l h => .ret (.sl false sz (h - l) (fun i => f (l + i))) else .fail
    | .rda sz n f, .array m _ esz => (match lo, hi with
      | none, none => bif Nat.beq sz esz && !(Nat.beq esz 0) && Nat.beq n m && !(Nat.beq n 0) && Nat.ble n 1048576 then .ret (.sl false sz n f) else .fail
      | _, _ => .fail)
    | _, _ => .fail
  | .build t parts => match E.kind t with
    | .struct fs => bif parts.toList.all (fun p => cellsOk (ρ p.2)) && fs.all (fun f => !(Nat.beq f.2.1 0)) then
      (match fill (fun i => (fs[i]?).map fun f => (f.1, f.2.1)) (E.zero t) (parts.toList.map fun p => (p.1, ρ p.2)) with
      | some l => .ret (.agg l) | none => .fail) else .fail
    | .array _ _ sz => bif parts.toList.all (fun p => cellsOk (ρ p.2)) && !(Nat.beq sz 0) then
      (match fill (fun i => some (i * sz, sz)) (E.zero t) (parts.toList.map fun p => (p.1, ρ p.2)) with
      | some l => .ret (.agg l) | none => .fail) else .fail
    | _ => .fail
  | .makeInterface t x => match E.ti t with | some { k := .iface, .. } => .fail | some _ => bif pers1 (ρ x) then .ret (.ifc t (ρ x)) else .fail | none => .fail
  | .nilCheck x => match ρ x with
    | .ptr k o => .ret (.ptr k o) | .rd cs => .ret (.rd cs) | .rp k sz i o => .ret (.rp k sz i o) | .rda sz n f => .ret (.rda sz n f)
    | .clo f c => .ret (.clo f c) | .ifc t v => .ret (.ifc t v) | _ => .fail
  | .call { callee := .builtin .len, args, argTypes } => match (args[0]?).map ρ, (argTypes[0]?).map E.kind with
    | some (.str s), some .string => .ret (.int .i64 s.length)
    | some (.sl _ _ n _), some (.slice ..) => .ret (.int .i64 n)
    | some .nilS, some (.slice ..) => .ret (.int .i64 0)
    | some _, some (.array n ..) => .ret (.int .i64 n)
    | _, _ => .fail
  | .call { callee := .builtin .max, args, .. } => match args.toList.map ρ with
    | [.int .i64 a, .int .i64 b] => .ret (.int .i64 (max a b)) | _ => .fail
  | .call { callee := .builtin .min, args, .. } => match args.toList.map ρ with
    | [.int .i64 a, .int .i64 b] => .ret (.int .i64 (min a b)) | _ => .fail
  | _ => .fail
structure Fp where
  uses : List Nat
  dst : Option Nat
  kr : List Nat
  kw : List Nat
def opnd (E : Env) (s : Nat → AV) : Operand → AV
  | .tmp t => s t
  | .const v => absV v
  | .global g => E.G g
  | .func f => .clo f []
structure Out where
  v : AV
  w : List (Nat × Blk)
  kr : List Nat
def bytesV (els : List (List AV)) : List UInt8 := els.map fun | [.int _ n] => UInt8.ofNat n.toNat | _ => 0
def isByte : List AV → Prop
  | [.int .u8 n] => 0 ≤ n ∧ n < 256
  | _ => False
def strSl (s : List UInt8) : Nat → List AV := fun i => [.int .u8 (s.getD i 0).toNat]
def elsOf (n : Nat) (f : Nat → List AV) : List (List AV) := (List.range n).map f
def freshKey (H : Nat → Option Blk) (d : Nat) : Bool := match H d with | none => true | some _ => false
def rdCells (cs : List AV) (o sz : Nat) : List AV := (cs.drop o).take sz
def force1 {β : Type} (v : AV) (k : AV → β) : β := match v with
  | .any => k .any | .undef => k .undef | .int a b => k (.int a b) | .bool b => k (.bool b) | .prop b => k (.prop b) | .str s => k (.str s)
  | .nilS => k .nilS | .sl true b c d => k (.sl true b c d) | .sl false b c d => k (.sl false b c d) | .row a => k (.row a) | .ptr a b => k (.ptr a b) | .rp a b c d => k (.rp a b c d)
  | .rd a => k (.rd a) | .rda a b c => k (.rda a b c) | .agg l => k (.agg l) | .tup l => k (.tup l) | .clo a b => k (.clo a b)
  | .nilI => k .nilI | .ifc a b => k (.ifc a b) | .nilP => k .nilP | .nilF => k .nilF | .fresh a b c => k (.fresh a b c)
  | .ifp a b c => k (.ifp a b c) | .ifS => k .ifS
def forceL {β : Type} : List AV → (List AV → β) → β
  | [], k => k []
  | v :: r, k => force1 v fun v => forceL r fun r => k (v :: r)
def force2 {β : Type} (v : AV) (k : AV → β) : β := match v with
  | .agg l => forceL l fun l => k (.agg l)
  | .rd l => forceL l fun l => k (.rd l)
  | .clo f l => forceL l fun l => k (.clo f l)
  | v => force1 v k
def forceLL {β : Type} : List AV → (List AV → β) → β
  | [], k => k []
  | v :: r, k => force2 v fun v => forceLL r fun r => k (v :: r)
def forceV {β : Type} (v : AV) (k : AV → β) : β := match v with
  | .tup l => forceLL l fun l => k (.tup l)
  | v => force2 v k
def forceB {β : Type} (b : Blk) (k : Blk → β) : β := match b with
  | .box cs fz => forceL cs fun cs => (match fz with | true => k (.box cs true) | false => k (.box cs false))
  | .row e sz els p => (match p with | true => k (.row e sz els true) | false => k (.row e sz els false))
  | .full e sz els => k (.full e sz els)
  | .dead => k .dead
def forceW {β : Type} : List (Nat × Blk) → (List (Nat × Blk) → β) → β
  | [], k => k []
  | (n, b) :: r, k => forceB b fun b => forceW r fun r => k ((n, b) :: r)
theorem force1_eq {β : Type} (v : AV) (k : AV → β) : force1 v k = k v := by
  cases v with
  | sl a b c d => cases a <;> rfl
  | _ => rfl
theorem forceL_eq {β : Type} (l : List AV) (k : List AV → β) : forceL l k = k l := by
  induction l generalizing k with
  | nil => rfl
  | cons v r ih => simp only [forceL, force1_eq, ih]
theorem force2_eq {β : Type} (v : AV) (k : AV → β) : force2 v k = k v := by cases v <;> simp only [force2, forceL_eq, force1_eq]
theorem forceLL_eq {β : Type} (l : List AV) (k : List AV → β) : forceLL l k = k l := by
  induction l generalizing k with
  | nil => rfl
  | cons v r ih => simp only [forceLL, force2_eq, ih]
theorem forceV_eq {β : Type} (v : AV) (k : AV → β) : forceV v k = k v := by cases v <;> simp only [forceV, forceLL_eq, force2_eq]
theorem forceB_eq {β : Type} (b : Blk) (k : Blk → β) : forceB b k = k b := by
  cases b with
  | box cs fz => cases fz <;> simp only [forceB, forceL_eq]
  | row e sz els p => cases p <;> rfl
  | full e sz els => rfl
  | dead => rfl
theorem forceW_eq {β : Type} (l : List (Nat × Blk)) (k : List (Nat × Blk) → β) : forceW l k = k l := by
  induction l generalizing k with
  | nil => rfl
  | cons v r ih => obtain ⟨n, b⟩ := v; simp only [forceW, forceB_eq, ih]
def capt (H : Nat → Option Blk) (c : AV) (r : Option (List AV × List (Nat × Blk) × List Nat)) : Option (List AV × List (Nat × Blk) × List Nat) := match c, r with
  | .ptr k 0, some (vs, w, kr) => (match H k with
    | some (.box cells fz) => bif cells.all pers1 then some (AV.rd cells :: vs, (bif fz then w else (k, Blk.box cells true) :: w), k :: kr) else none
    | _ => none)
  | c, some (vs, w, kr) => bif pers1 c then some (c :: vs, w, kr) else none
  | _, none => none
def viewK (H : Nat → Option Blk) (k : Nat) : AV → AV
  | .row k' => bif Nat.beq k' k then (match H k with | some (.row _ sz els _) => asSl sz els | _ => .any) else .any
  | v => v
def pinOf (H : Nat → Option Blk) (k : Nat) : Option (Nat × Blk) := match H k with | some (.row e sz els false) => some (k, .row e sz els true) | _ => none
def srcOf (H : Nat → Option Blk) (esz : Nat) : AV → TK → Option (List (List AV) × List Nat)
  | .sl _ sz n f, .slice _ _ => bif Nat.beq sz esz then some (elsOf n f, []) else none
  | .nilS, .slice _ _ => some ([], [])
  | .row k, .slice _ _ => (match H k with
    | some (.row _ sz els _) => bif Nat.beq sz esz then some (els, [k]) else none
    | some (.full _ sz els) => bif Nat.beq sz esz then some (els, [k]) else none
    | _ => none)
  | .str s, .string => bif Nat.beq esz 1 then some (s.map fun b => [.int .u8 b.toNat], []) else none
  | _, _ => none
def avInt : AV → Int | .int _ n => n | _ => 0
def avStr : AV → List UInt8 | .str s => s | _ => []
def hdAV : List AV → AV | v :: _ => v | [] => .any
def like1 (z c : AV) : AV := match z with
  | .int k _ => .int k (avInt c)
  | .str _ => .str (avStr c)
  | _ => c
def likes : List AV → List AV → List AV
  | [], _ => []
  | z :: zs, cs => like1 z (hdAV cs) :: likes zs cs.tail
def askIdx {α : Type} (j : Int) : Nat → (Nat → Tr α) → Tr α
  | 0, _ => .fail
  | n + 1, f => .ask (decide (j = (n : Int))) (f n) (askIdx j n f)
def viewC1 (E : Env) (H : Nat → Option Blk) : AV → AV
  | .row k => match H k with | some (.row e sz els _) => .sl false sz els.length (fun i => likes (E.zero e) (els.getD i [])) | _ => .any
  | v => v
def viewC (E : Env) (H : Nat → Option Blk) : AV → AV
  | .agg l => .agg (l.map (viewC1 E H))
  | v => viewC1 E H v
def needC {α : Type} (E : Env) (H : Nat → Option Blk) : List Nat → Tr α → Tr α
  | [], t => t
  | k :: r, t => match H k with
    | some (.row e _ els _) => .need (∀ i, i < els.length → likes (E.zero e) (els.getD i []) = els.getD i []) (needC E H r t)
    | _ => .fail
def isRowK (H : Nat → Option Blk) (k : Nat) : Bool := match H k with | some (.row _ _ _ _) => true | _ => false
def memOp (E : Env) (H : Nat → Option Blk) (ρ : Operand → AV) (d : Nat) : Op → Tr Out
  | .load t x => match ρ x with
    | .rd cs => bif Nat.ble (E.sz t) cs.length then (ofCells (E.ag t) (cs.take (E.sz t))).bind fun v => .ret ⟨v, [], []⟩ else .fail
    | .ptr k o => (match H k with
      | some (.box cs _) => bif Nat.ble (o + E.sz t) cs.length then (ofCells (E.ag t) (rdCells cs o (E.sz t))).bind fun v => .ret ⟨v, [], [k]⟩ else .fail
      | _ => .fail)
    | .rp k sz i o => (match H k with
      | some (.row _ sz' els _) => bif Nat.beq sz sz' && Nat.ble (o + E.sz t) sz then .need (i < els.length) (.need (likes (E.zero t) (rdCells (els.getD i []) o (E.sz t)) = rdCells (els.getD i []) o (E.sz t)) ((ofCells (E.ag t) (likes (E.zero t) (rdCells (els.getD i []) o (E.sz t)))).bind fun v => .ret ⟨v, [], [k]⟩)) else .fail
      | _ => .fail)
    | _ => .fail
  | .store t x y => match ρ x with
    | .ptr k o => (match H k with
      | some (.box cs false) =>
        bif cellsOk (ρ y) && Nat.beq (cellsOf (ρ y)).length (E.sz t) && !(Nat.beq (E.sz t) 0) && Nat.ble (o + E.sz t) cs.length then .ret ⟨.undef, [(k, .box (setRange cs o (cellsOf (ρ y))) false)], [k]⟩ else .fail
      | _ => .fail)
    | .rp k sz i o => (match H k with
      | some (.row e sz' els false) =>
        bif cellsOk (ρ y) && Nat.beq sz sz' && Nat.beq (cellsOf (ρ y)).length (E.sz t) && !(Nat.beq (E.sz t) 0) && Nat.ble (o + E.sz t) sz && (cellsOf (ρ y)).all pers1 then .need (i < els.length) (forceL (cellsOf (ρ y)) fun ys => .ret ⟨.undef, [(k, .row e sz (els.set i (setRange (els.getD i []) o ys)) false)], [k]⟩) else .fail
      | _ => .fail)
    | _ => .fail
  | .alloc t => bif freshKey H d && !(Nat.beq (E.sz t) 0) then .ret ⟨.ptr d 0, [(d, .box (E.zero t) false)], []⟩ else .fail
  | .box t x => bif freshKey H d && cellsOk (ρ x) && Nat.beq (cellsOf (ρ x)).length (E.sz t) && !(Nat.beq (E.sz t) 0) then .ret ⟨.ptr d 0, [(d, .box (cellsOf (ρ x)) false)], []⟩ else .fail
  | .buildSlice t n parts => match E.kind t with
    | .slice e sz =>
      let ks := parts.toList.flatMap fun p => keys (ρ p.2)
      let vs := parts.toList.map fun p => (p.1, viewC E H (ρ p.2))
      bif !(Nat.beq sz 0) && Nat.ble (n * sz) 16777216 && !(Nat.beq n 0) && Nat.beq (E.zero e).length sz && vs.all (fun p => cellsOk p.2) && ks.all (isRowK H) then
        match fill (fun i => some (i * sz, sz)) (rep n (E.zero e)) vs with
        | some cs => bif cs.all pers1 then (match E.kind e with
          | .int .u8 => bif freshKey H d && Nat.beq sz 1 && ks.isEmpty then forceL cs fun cs => .ret ⟨.row d, [(d, .full e 1 (cs.map fun c => [c]))], []⟩ else .fail
          | _ => needC E H ks (forceL cs fun cs => .ret ⟨.sl true sz n (fun i => (cs.drop (i * sz)).take sz), ks.filterMap (pinOf H), ks⟩)) else .fail
        | none => .fail
      else .fail
    | _ => .fail
  | .makeSlice t l c => match E.kind t, ρ l, ρ c with
    | .slice e esz, .int .i64 n, .int .i64 m =>
      bif freshKey H d && !(Nat.beq esz 0) && Nat.ble esz 16 && Nat.beq (E.zero e).length esz && (E.zero e).all pers1 then .need (0 ≤ n ∧ n ≤ m ∧ m ≤ 1048576) (.ret ⟨.row d, [(d, .row e esz (List.replicate n.toNat (E.zero e)) false)], []⟩) else .fail
    | _, _, _ => .fail
  | .makeFunc (.func f) first cap =>
    let cs := cap.toList.map ρ
    bif Nat.beq first.size 0 then
      match cs.foldr (capt H) (some ([], [], [])) with
      | some (vs, w, kr) => .ret ⟨.clo f vs, w, kr⟩
      | none => .fail
    else .fail
  | .makeFunc _ _ _ => .fail
  | .indexAddr t x i => match ρ x, ρ i with
    | .row k, .int _ j => (match H k, E.kind t with
      | some (.row _ sz els _), .slice _ esz => bif Nat.beq sz esz && !(Nat.beq esz 0) then .need (0 ≤ j ∧ j < els.length) (.ret ⟨.rp k sz j.toNat 0, [], [k]⟩) else .fail
      | _, _ => .fail)
    | .ptr k o, .int _ j => (match E.kind t with
      | .array n _ esz => bif Nat.beq esz 0 then .fail else .need (0 ≤ j ∧ j < n) (bif Nat.ble n 4 then askIdx j n (fun c => .ret ⟨.ptr k (o + c * esz), [], []⟩) else .ret ⟨.ptr k (o + j.toNat * esz), [], []⟩)
      | _ => .fail)
    | _, _ => (pureOp E ρ (.indexAddr t x i)).bind fun v => .ret ⟨v, [], []⟩
  | .slice t x lo hi none => match ρ x with
    | .row k => (match H k with
      | some (.row _ _ _ true) => (pureOp E (fun y => viewK H k (ρ y)) (.slice t x lo hi none)).bind fun v => .ret ⟨v, [], [k]⟩
      | some (.row e sz els false) => (pureOp E (fun y => viewK H k (ρ y)) (.slice t x lo hi none)).bind fun v => .ret ⟨v, [(k, .row e sz els true)], [k]⟩
      | _ => .fail)
    | _ => (pureOp E ρ (.slice t x lo hi none)).bind fun v => .ret ⟨v, [], []⟩
  | .convert s t x => match ρ x, E.kind s, E.kind t with
    | .str b, .string, .slice e _ => (match E.kind e with
      | .int .u8 => .need (b.length ≤ 1048576) (.ret ⟨.sl false 1 b.length (strSl b), [], []⟩)
      | _ => .fail)
    | .sl _ 1 n f, .slice e _, .string => (match E.kind e with
      | .int .u8 => .need (∀ i, i < n → isByte (f i)) (.ret ⟨.str (bytesV (elsOf n f)), [], []⟩)
      | _ => .fail)
    | .nilS, .slice e _, .string => (match E.kind e with
      | .int .u8 => .ret ⟨.str [], [], []⟩
      | _ => .fail)
    | .row k, .slice e _, .string => (match E.kind e, H k with
      | .int .u8, some (.row _ 1 els _) => .need (∀ x ∈ els, isByte x) (.ret ⟨.str (bytesV els), [], [k]⟩)
      | .int .u8, some (.full _ 1 els) => .need (∀ x ∈ els, isByte x) (.ret ⟨.str (bytesV els), [], [k]⟩)
      | _, _ => .fail)
    | .row k, .slice _ _, .slice e' _ => (match E.kind e', H k with
      | .int .u8, some (.full _ sz els) => bif Nat.beq s t then .ret ⟨.sl true sz els.length (fun i => els.getD i []), [(k, .dead)], [k]⟩ else .fail
      | _, _ => .fail)
    | _, _, _ => (pureOp E ρ (.convert s t x)).bind fun v => .ret ⟨v, [], []⟩
  | .call { callee := .builtin .append, args, argTypes } => match args.toList, argTypes.toList with
    | [x, y], [t0, t1] => (match E.kind t0 with
      | .slice e esz =>
        bif !(Nat.beq esz 0) && freshKey H d && Nat.beq (E.zero e).length esz then
          match srcOf H esz (ρ y) (E.kind t1), ρ x with
          | some (news, kr), .nilS => .need (news.length ≤ 1048576) (.ret ⟨.row d, [(d, .row e esz news false)], kr⟩)
          | some (news, kr), .sl true sz n f => bif Nat.beq sz esz then .need (0 < news.length ∧ n + news.length ≤ 1048576) (.ret ⟨.row d, [(d, .row e esz (elsOf n f ++ news) false)], kr⟩) else .fail
          | some (news, kr), .row k => (match H k with
            | some (.row e' sz els p) => bif !(Nat.beq sz esz) || !(Nat.beq e' e) || kr.contains k then .fail else
              .need (els.length + news.length ≤ 1048576) (.ret ⟨.row d, [(k, .dead), (d, .row e esz (els ++ news) p)], k :: kr⟩)
            | _ => .fail)
          | _, _ => .fail
        else .fail
      | _ => .fail)
    | _, _ => .fail
  | .call { callee := .builtin .len, args, argTypes } => match (args[0]?).map ρ, (argTypes[0]?).map E.kind with
    | some (.row k), some (.slice ..) => (match H k with | some (.row _ _ els _) => .ret ⟨.int .i64 els.length, [], [k]⟩ | _ => .fail)
    | _, _ => (pureOp E ρ (.call { callee := .builtin .len, args, argTypes })).bind fun v => .ret ⟨v, [], []⟩
  | .call { callee := .value g, args, .. } => match ρ g with
    | .clo f cap =>
      let as := args.toList.map fun a => view H (ρ a)
      let ks := args.toList.flatMap fun a => keys (ρ a)
      (match look f E.Γ with
      | some c => bif (as ++ cap).all pers then (forceLL (as ++ cap) c).bind fun r =>
          bif scalT r || ks.all (pinned H) then
            (match r with
            | .fresh e sz els => bif freshKey H d then .ret ⟨.row d, [(d, .row e sz els false)], ks⟩ else .fail
            | r => bif persT r then .ret ⟨r, [], ks⟩ else .fail)
          else bif persT r then .ret ⟨r, ks.filterMap (pinOf H), ks⟩ else .fail
        else .fail
      | none => .fail)
    | _ => .fail
  | o => (pureOp E ρ o).bind fun v => .ret ⟨v, [], []⟩
def applyW (H : Nat → Option Blk) : List (Nat × Blk) → (Nat → Option Blk)
  | [] => H
  | (k, b) :: r => applyW (upd H k (some b)) r
def exec1 (E : Env) (o : Oper) (S : St) : Tr (St × Fp) :=
  (memOp E S.H (opnd E S.slot) (o.dst.getD 0) o.op).bind fun r =>
    .ret (⟨putO S.slot o.dst r.v, applyW S.H r.w⟩, ⟨[], o.dst, r.kr, r.w.map (·.1)⟩)
def skip1 (o : Oper) (S : St) : St × Fp := (⟨putO S.slot o.dst .undef, S.H⟩, ⟨[], o.dst, [], []⟩)
def guardSlot (ops : List Oper) (j : Nat) : Option Nat := (ops[j]?).bind (·.dst)
def slotsOfG (ops : List Oper) (o : Oper) : List Nat :=
  (o.op.operands.toList.filterMap fun | .tmp t => some t | _ => none) ++ (match o.guard with | some (j, _) => (guardSlot ops j).toList | none => [])
def step1 (E : Env) (ops : List Oper) (o : Oper) (S : St) : Tr (St × Fp) :=
  match o.guard with
  | none => exec1 E o S
  | some (j, want) => match guardSlot ops j with
    | none => .fail
    | some t => match S.slot t with
      | .bool b => bif b == want then exec1 E o S else .ret (skip1 o S)
      | .prop b => bif b == want then exec1 E o S else .ret (skip1 o S)
      | .undef => .ret (skip1 o S)
      | _ => .fail
def disj (a b : List Nat) : Bool := a.all fun x => !(b.any (Nat.beq x))
def Fp.apart (a b : Fp) : Bool :=
  disj a.dst.toList b.uses && disj b.dst.toList a.uses && disj a.dst.toList b.dst.toList &&
  disj a.kw (b.kr ++ b.kw) && disj b.kw (a.kr ++ a.kw)
def applyK {β : Type} (H : Nat → Option Blk) : List (Nat × Blk) → ((Nat → Option Blk) → β) → β
  | [], k => k H
  | (n, b) :: r, k => applyK (upd H n (some b)) r k
def strip (ch : List (Nat × Bool)) : AV → AV
  | .ifp g w v => bif ch.any (fun p => Nat.beq p.1 g && p.2 == w) then v else .any
  | v => v
def opndG (E : Env) (ch : List (Nat × Bool)) (s : Nat → AV) : Operand → AV
  | .tmp t => strip ch (s t)
  | .const v => absV v
  | .global g => E.G g
  | .func f => .clo f []
def chain : Nat → (Nat → AV) → Nat → Bool → Option (List (Nat × Bool) × Prop)
  | 0, _, _, _ => none
  | n + 1, s, g, w => match s g with
    | .prop b => some ([(g, w)], b = w)
    | .ifp g' w' (.prop b) => (match chain n s g' w' with
      | some (l, p) => some ((g, w) :: l, p ∧ b = w)
      | none => none)
    | .ifp g' w' (.bool b) => (match chain n s g' w' with
      | some (l, p) => some ((g, w) :: l, p ∧ b = w)
      | none => none)
    | _ => none
abbrev Slots := Nat → AV
abbrev Heap := Nat → Option Blk
abbrev Cont := Slots → Heap → List (List Nat × List Nat) → Prop
def boolOf? : AV → Option Bool
  | .bool b => some b
  | .prop b => some b
  | _ => none
def cleanG (ch : List (Nat × Bool)) (s : Nat → AV) : Operand → Bool
  | .tmp t => (match s t with | .ifp g w _ => ch.any (fun p => Nat.beq p.1 g && p.2 == w) | _ => true)
  | _ => true
def retC (E : Env) (ch : List (Nat × Bool)) (s : Nat → AV) (a : Operand) : Tr AV := bif cleanG ch s a then .ret (asProp (opndG E ch s a)) else .fail
def addCh (c : Operand) (t : Bool) (ch : List (Nat × Bool)) : List (Nat × Bool) := match c with | .tmp tc => (tc, t) :: ch | _ => ch
def pickS (E : Env) (ch : List (Nat × Bool)) (s : Slots) (c a b : Operand) : Tr AV :=
  match (bif cleanG ch s c then opndG E ch s c else .any) with
  | .prop t =>
    (match boolOf? (opndG E (addCh c true ch) s a), boolOf? (opndG E (addCh c false ch) s b) with
    | some x, some y => bif cleanG (addCh c true ch) s a && cleanG (addCh c false ch) s b then .ret (.prop (bif t then x else y)) else .fail
    | _, _ => .ask t (retC E (addCh c true ch) s a) (retC E (addCh c false ch) s b))
  | .bool true => bif cleanG ch s a then .ret (opndG E ch s a) else .fail
  | .bool false => bif cleanG ch s b then .ret (opndG E ch s b) else .fail
  | _ => .fail
def symOp (E : Env) (ch : List (Nat × Bool)) (s : Slots) (H : Heap) (d : Nat) : Op → Tr Out
  | .pick c a b => (pickS E ch s c a b).bind fun v => .ret ⟨v, [], []⟩
  | op => bif op.operands.toList.all (cleanG ch s) then memOp E H (opndG E ch s) d op else .fail
def isIfp : AV → Bool | .ifp _ _ _ => true | _ => false
def execW (E : Env) (op : Op) (dst : Option Nat) (s : Slots) (H : Heap) (lg : List (List Nat × List Nat)) (K : Cont) : Prop :=
  match dst with
  | some d => (symOp E [] s H d op).wp fun r => forceV r.v fun v => bif isIfp v then False else forceW r.w fun w => applyK H w fun H => K (upd s d v) H ((r.kr, w.map (·.1)) :: lg)
  | none => (symOp E [] s H 0 op).wp fun r => forceW r.w fun w => applyK H w fun H => K s H ((r.kr, w.map (·.1)) :: lg)
def guessW (E : Env) (op : Op) (dst : Option Nat) (g : Nat) (want : Bool) (s : Slots) (H : Heap) (lg : List (List Nat × List Nat)) (K : Cont) : Prop :=
  match dst, chain 6 s g want with
  | some d, some (ch, p) => (symOp E ch s H d op).wpG p fun r => match r.w with
    | [] => forceV r.v fun v => K (upd s d (.ifp g want v)) H ((r.kr, []) :: lg)
    | _ => False
  | _, _ => False
def skipW (dst : Option Nat) (s : Slots) (H : Heap) (lg : List (List Nat × List Nat)) (K : Cont) : Prop :=
  match dst with | some d => K (upd s d .undef) H (([], []) :: lg) | none => K s H (([], []) :: lg)
def guardW (E : Env) (op : Op) (dst : Option Nat) (t : Nat) (want : Bool) (s : Slots) (H : Heap) (lg : List (List Nat × List Nat)) (K : Cont) : Prop :=
  match s t, want with
  | .bool true, true | .bool false, false => execW E op dst s H lg K
  | .bool false, true | .bool true, false => skipW dst s H lg K
  | .undef, _ => skipW dst s H lg K
  | _, _ => guessW E op dst t want s H lg K
def stepW (E : Env) (ops : List Oper) (o : Oper) (s : Slots) (H : Heap) (lg : List (List Nat × List Nat)) (K : Cont) : Prop :=
  match o with
  | { dst, op, guard := none, .. } => execW E op dst s H lg K
  | { dst, op, guard := some (j, want), .. } => match guardSlot ops j with
    | none => False
    | some t => guardW E op dst t want s H lg K
def dropI : AV → AV
  | .ifp _ _ _ => .any
  | v => v
def runW (E : Env) (ops : List Oper) : List Oper → Slots → Heap → List (List Nat × List Nat) → Cont → Prop
  | [], s, H, lg, K => K (fun t => dropI (s t)) H lg
  | o :: r, s, H, lg, K => stepW E ops o s H lg fun s H lg => runW E ops r s H lg K
def preds (o : Oper) : List Nat := (o.after.toList.filter (Region.binds .any)).map (·.on)
def aheads : List Oper → List Nat → List Nat
  | [], acc => acc
  | o :: r, acc => aheads r (acc ++ [(preds o).foldl (fun m i => m ||| 2 ^ i ||| acc.getD i 0) 0])
def fps (ops : List Oper) : List Oper → List (List Nat × List Nat) → List Fp
  | o :: r, p :: l => ⟨slotsOfG ops o, o.dst, p.1, p.2⟩ :: fps ops r l
  | _, _ => []
def apartFrom (f : Fp) (ms : List Nat) (i : Nat) : List Fp → Nat → Bool
  | [], _ => true
  | g :: r, j => (Nat.testBit (ms.getD j 0) i || f.apart g) && apartFrom f ms i r (j + 1)
def allApart (ms : List Nat) : List Fp → Nat → Bool
  | [], _ => true
  | f :: r, i => apartFrom f ms i r (i + 1) && allApart ms r (i + 1)
def dstsOk : List Oper → Bool
  | [] => true
  | o :: r => (match o.dst with | some d => r.all (fun q => match q.dst with | some e => !(Nat.beq d e) | none => true) | none => true) && dstsOk r
def guardsOk : List Oper → Nat → Bool
  | [], _ => true
  | o :: r, i => (match o.guard with | some (j, _) => Nat.blt j i | none => true) && guardsOk r (i + 1)
def ordOk : List Oper → Nat → Bool
  | [], _ => true
  | o :: r, i => (preds o).all (fun p => Nat.blt p i) && ordOk r (i + 1)
def drawOk (ops : List Oper) (lg : List (List Nat × List Nat)) : Bool := ordOk ops 0 && allApart (aheads ops []) (fps ops ops lg.reverse) 0
inductive Ex where
  | normal | exit (id : Nat) | ret
abbrev Post := Ex → (Nat → AV) → (Nat → Option Blk) → Prop
structure Inv where
  ι : Type
  st : ι → List (Nat × AV)
  hp : ι → List (Nat × Blk)
  μ : ι → Nat
def eqv1 : AV → AV → Prop
  | .any, _ => True
  | .int k n, .int k' n' => if k = k' then n' = n else False
  | .prop b, .prop b' => b' = b
  | .prop b, .bool b' => b' = b
  | .bool b, .prop b' => b' = b
  | .bool b, .bool b' => b' = b
  | .str s, .str s' => s' = s
  | .nilS, .nilS => True
  | .sl false _ n _, .nilS => n = 0
  | .sl false sz n f, .sl _ sz' n' f' => bif Nat.beq sz sz' then n' = n ∧ ∀ i, i < n → f' i = f i else False
  | .sl true sz n f, .sl true sz' n' f' => bif Nat.beq sz sz' then n' = n ∧ ∀ i, i < n → f' i = f i else False
  | .ptr k o, .ptr k' o' => bif Nat.beq k k' && Nat.beq o o' then True else False
  | .rda sz n f, .rda sz' n' f' => bif Nat.beq sz sz' then n' = n ∧ ∀ i, i < n → f' i = f i else False
  | .nilI, .nilI => True
  | .rd l, .rd l' => l' = l
  | .ifS, .ifS => True
  | .nilP, .nilP => True
  | .nilF, .nilF => True
  | .undef, .undef => True
  | .row _, .row _ => True
  | .row _, .nilS => True
  | _, _ => False
def eqvL : List AV → List AV → Prop
  | [], [] => True
  | [v], [v'] => eqv1 v v'
  | v :: r, v' :: r' => eqv1 v v' ∧ eqvL r r'
  | _, _ => False
def eqv : AV → AV → Prop
  | .agg l, .agg l' => eqvL l l'
  | .rd l, .rd l' => eqvL l l'
  | .clo f l, .clo f' l' => bif Nat.beq f f' then eqvL l l' else False
  | .ifc t v, .ifc t' v' => bif Nat.beq t t' then eqv1 v v' else False
  | v, v' => eqv1 v v'
def eqvT : List AV → List AV → Prop
  | [], [] => True
  | [v], [v'] => eqv v v'
  | v :: r, v' :: r' => eqv v v' ∧ eqvT r r'
  | _, _ => False
def eqvR : AV → AV → Prop
  | .tup l, .tup l' => eqvT l l'
  | v, v' => eqv v v'
def rowsV : AV → AV → List (Nat × Option Nat)
  | .row k, .row k' => [(k, some k')]
  | .row k, .nilS => [(k, none)]
  | _, _ => []
def rowsL : List AV → List AV → List (Nat × Option Nat)
  | v :: r, v' :: r' => rowsV v v' ++ rowsL r r'
  | _, _ => []
def rowsA : AV → AV → List (Nat × Option Nat)
  | .agg l, .agg l' => rowsL l l'
  | v, v' => rowsV v v'
def rowsS (s : Nat → AV) : List (Nat × AV) → List (Nat × Option Nat)
  | [] => []
  | (t, v) :: r => rowsA v (s t) ++ rowsS s r
def rowsB (H : Nat → Option Blk) : List (Nat × Blk) → List (Nat × Option Nat)
  | [] => []
  | (k, .box cs _) :: r => (match H k with | some (.box cs' _) => rowsL cs cs' | _ => []) ++ rowsB H r
  | _ :: r => rowsB H r
def pairOk (p q : Nat × Option Nat) : Bool := match p.2, q.2 with
  | some a, some b => Nat.beq p.1 q.1 == Nat.beq a b
  | none, none => true
  | _, _ => !(Nat.beq p.1 q.1)
def pairsOk (l : List (Nat × Option Nat)) : Bool := l.all fun p => l.all fun q => pairOk p q
def rowHolds (H : Nat → Option Blk) (B : List (Nat × Blk)) (p : Nat × Option Nat) : Prop := match look p.1 B, p.2 with
  | some (.row e sz els pin), some k' => (match H k' with
    | some (.row e' sz' els' pin') => bif (pin || !pin') && Nat.beq sz sz' && Nat.beq e e' then els' = els else False
    | some (.full e' sz' els') => bif Nat.beq sz sz' && Nat.beq e e' then els' = els else False
    | _ => False)
  | some (.row _ _ els _), none => els = []
  | _, _ => False
def slotsHold (s : Nat → AV) : List (Nat × AV) → Prop → Prop
  | [], p => p
  | (t, v) :: r, p => eqv v (s t) ∧ slotsHold s r p
def boxesHold (H : Nat → Option Blk) : List (Nat × Blk) → Prop → Prop
  | [], p => p
  | (k, .box cs fz) :: r, p => (match H k with
    | some (.box cs' fz') => bif (fz == fz') then eqvL cs cs' ∧ boxesHold H r p else False
    | _ => False)
  | (_, .row _ _ _ _) :: r, p => boxesHold H r p
  | (_, .full _ _ _) :: _, _ => False
  | (_, .dead) :: _, _ => False
def rowsHold (H : Nat → Option Blk) (B : List (Nat × Blk)) : List (Nat × Option Nat) → Prop
  | [] => True
  | p :: r => rowHolds H B p ∧ rowsHold H B r
def keyTold (B : List (Nat × Blk)) : AV → Bool
  | .ptr k _ => (match look k B with | some (.box _ _) => true | _ => false)
  | .rp _ _ _ _ => false
  | _ => true
def keyTold0 (B : List (Nat × Blk)) : AV → Bool
  | .row _ => false
  | v => keyTold B v
def valTold (B : List (Nat × Blk)) : AV → Bool
  | .agg l => l.all (keyTold B)
  | .clo _ l => l.all (keyTold0 B)
  | .ifc _ v => keyTold0 B v
  | .rd l => l.all pers1
  | v => keyTold B v
def keysTold (L : List (Nat × AV)) (B : List (Nat × Blk)) : Bool :=
  L.all (fun p => valTold B p.2) && B.all (fun q => match q.2 with | .box cs _ => cs.all (keyTold B) | _ => true)
def rowsNamed (B : List (Nat × Blk)) (ps : List (Nat × Option Nat)) : Bool :=
  B.all fun q => match q.2 with | .row _ _ _ _ => ps.any (fun p => Nat.beq p.1 q.1) | _ => true
def Told (L : List (Nat × AV)) (B : List (Nat × Blk)) (s : Nat → AV) (H : Nat → Option Blk) : Prop :=
  bif keysTold L B && rowsNamed B (rowsS s L ++ rowsB H B) && pairsOk (rowsS s L ++ rowsB H B) then
    slotsHold s L (boxesHold H B (rowsHold H B (rowsS s L ++ rowsB H B)))
  else False
def slotsOfL (L : List (Nat × AV)) : Nat → AV := fun t => match look t L with | some v => v | none => .any
def blksOfL (B : List (Nat × Blk)) : Nat → Option Blk := fun k => look k B
def AWP (E : Env) (INV : List (Nat × Inv)) : Code → Post → (Nat → AV) → (Nat → Option Blk) → Prop
  | .skip, Q, s, H => Q .normal s H
  | .region _ ops draw, Q, s, H => bif dstsOk ops.toList && guardsOk ops.toList 0 then runW E ops.toList ops.toList s H [] fun s H lg => (bif !draw || drawOk ops.toList lg then Q .normal s H else False) else False
  | .seq a b, Q, s, H => AWP E INV a (fun e s H => match e with | .normal => AWP E INV b Q s H | .exit i => Q (.exit i) s H | .ret => Q .ret s H) s H
  | .cond c a b, Q, s, H => match opnd E s c with
    | .bool true => AWP E INV a Q s H
    | .bool false => AWP E INV b Q s H
    | .prop t => (match c with
      | .tmp i => (t = true → AWP E INV a Q (upd s i (.bool true)) H) ∧ (t = false → AWP E INV b Q (upd s i (.bool false)) H)
      | _ => False)
    | _ => False
  | .block id (.loop a), Q, s, H => match look id INV with
    | none => (match look (id + 1000) INV with
      | none => False
      | some L => ∃ i0 : L.ι, Told (L.st i0) (L.hp i0) s H ∧ ∀ i : L.ι, L.μ i / 4294967296 = L.μ i0 / 4294967296 →
        AWP E INV a (fun e s' H' => match e with
          | .normal => ∃ j, L.μ j / 4294967296 = L.μ i0 / 4294967296 ∧ L.μ j < L.μ i ∧ Told (L.st j) (L.hp j) s' H'
          | .exit x => bif Nat.beq x id then Q .normal s' H' else Q (.exit x) s' H'
          | .ret => Q .ret s' H') (slotsOfL (L.st i)) (blksOfL (L.hp i)))
    | some L => (match look (id + 500) INV with
      | none => ∃ i, Told (L.st i) (L.hp i) s H
      | some L2 => ∃ i2 : L2.ι, AWP E INV a (fun e s' H' => match e with
        | .normal => ∃ j, L.μ j < L2.μ i2 ∧ Told (L.st j) (L.hp j) s' H'
        | .exit x => bif Nat.beq x id then Q .normal s' H' else Q (.exit x) s' H'
        | .ret => Q .ret s' H') s H) ∧ ∀ i : L.ι,
      AWP E INV a (fun e s' H' => match e with
        | .normal => ∃ j, L.μ j < L.μ i ∧ Told (L.st j) (L.hp j) s' H'
        | .exit x => bif Nat.beq x id then Q .normal s' H' else Q (.exit x) s' H'
        | .ret => Q .ret s' H') (slotsOfL (L.st i)) (blksOfL (L.hp i))
  | .block id a, Q, s, H => AWP E INV a (fun e s H => match e with | .exit i => bif Nat.beq i id then Q .normal s H else Q (.exit i) s H | .normal => Q .normal s H | .ret => Q .ret s H) s H
  | .exit id, Q, s, H => Q (.exit id) s H
  | .ret, Q, s, H => Q .ret s H
  | _, _, _, _ => False
def resV (E : Env) (s : Nat → AV) (H : Nat → Option Blk) : ResultVar → Option AV
  | .tmp t => some (view H (s t))
  | .cell t ty => match s t with
    | .ptr k o => (match H k with
      | some (.box cs _) => bif Nat.ble (o + E.sz ty) cs.length then
          (match E.ag ty, rdCells cs o (E.sz ty) with | true, l => some (.agg (l.map (view1 H))) | false, v :: _ => some (view1 H v) | false, [] => none) else none
      | _ => none)
    | _ => none
def resAll (E : Env) (s : Nat → AV) (H : Nat → Option Blk) : List ResultVar → Option (List AV)
  | [] => some []
  | r :: l => match resV E s H r, resAll E s H l with | some v, some l => some (v :: l) | _, _ => none
def rdOk : AV → Bool
  | .rd l => l.all pers1
  | _ => true
def rdOkT : AV → Bool
  | .tup l => l.all rdOk
  | v => rdOk v
def endF (e sz : Nat) (els : List (List AV)) (s : Nat → AV) (H : Nat → Option Blk) : List ResultVar → Prop
  | [.tmp t] => (match s t with
    | .row k => (match H k with
      | some (.row e' sz' els' false) => bif Nat.beq e e' && Nat.beq sz sz' then els' = els else False
      | _ => False)
    | .nilS => els = []
    | _ => False)
  | _ => False
def endV (E : Env) (rs : List ResultVar) (r : AV) (s : Nat → AV) (H : Nat → Option Blk) : Prop :=
  bif rdOkT r then (match resAll E s H rs with
    | some [v] => eqvR r v
    | some l => eqvR r (.tup l)
    | none => False) else False
def Ends (E : Env) (rs : Array ResultVar) (r : AV) : Post := fun e s H => match e with
  | .ret | .normal => (match r with
    | .fresh e sz els => endF e sz els s H rs.toList
    | r => endV E rs.toList r s H)
  | .exit _ => False
def argSlots (as : List AV) : Nat → AV := fun t => as.getD t .undef
def noH : Nat → Option Blk := fun _ => none
end Go.Eng
end
section
set_option linter.unusedVariables false
set_option linter.unusedSimpArgs false
namespace Go.Eng
open Go
theorem Tr.wp_iff {α : Type} (t : Tr α) (Q : α → Prop) : t.wp Q ↔ ∃ a, t.run = some a ∧ Q a := by
  induction t with
  | ret a => simp [Tr.wp, Tr.run]
  | ask b t f iht ihf => cases b <;> simp [Tr.wp, Tr.run, iht, ihf]
  | need p k ih =>
    simp only [Tr.wp, Tr.run]
    by_cases h : p
    · simp only [h, if_true, ih]; exact ⟨fun x => x.2, fun x => ⟨⟨trivial⟩, x⟩⟩
    · simp only [h, if_false]; exact ⟨fun x => absurd x.1.out id, fun ⟨a, x, _⟩ => by cases x⟩
  | fail => simp [Tr.wp, Tr.run]
theorem Tr.run_bind {α β : Type} (t : Tr α) (f : α → Tr β) : (t.bind f).run = t.run.bind fun a => (f a).run := by
  induction t with
  | ret a => simp [Tr.bind, Tr.run]
  | ask b t g iht ihf => cases b <;> simp [Tr.bind, Tr.run, iht, ihf]
  | need p k ih => simp only [Tr.bind, Tr.run]; split <;> simp [ih]
  | fail => simp [Tr.bind, Tr.run]
theorem Tr.run_bind_some {α β : Type} {t : Tr α} {f : α → Tr β} {b : β} (h : (t.bind f).run = some b) : ∃ a, t.run = some a ∧ (f a).run = some b := by
  rw [Tr.run_bind] at h
  cases ht : t.run with
  | none => rw [ht] at h; cases h
  | some a => rw [ht] at h; exact ⟨a, rfl, h⟩
theorem Tr.run_need {α : Type} {p : Prop} {k : Tr α} {a : α} (h : (Tr.need p k).run = some a) : p ∧ k.run = some a := by
  simp only [Tr.run] at h
  split at h
  · exact ⟨‹_›, h⟩
  · cases h
theorem Tr.run_ret {α : Type} {a b : α} (h : (Tr.ret a).run = some b) : a = b := by simpa [Tr.run] using h
theorem Tr.run_fail {α : Type} {b : α} (h : (Tr.fail : Tr α).run = some b) : False := by cases h
abbrev Stab := Nat → Nat → Prop
structure Ev (M : Nat → Prop) (w w' : World) : Prop where
  os : w'.os = w.os
  tape : w'.tape = w.tape
  output : w'.output = w.output
  size : w.heap.size ≤ w'.heap.size
  block : ∀ k, k < w.heap.size → ¬ M k → w'.heap[k]? = w.heap[k]?
theorem Ev.refl (M : Nat → Prop) (w : World) : Ev M w w := ⟨rfl, rfl, rfl, Nat.le_refl _, fun _ _ _ => rfl⟩
def Sta (w : World) (st : Stab) : Prop := ∀ b o, st b o → b < w.heap.size
def Keep (st : Stab) (w w' : World) : Prop := ∀ b o, st b o → w'.cell? ⟨b, o, none⟩ = w.cell? ⟨b, o, none⟩
theorem Keep.refl (st : Stab) (w : World) : Keep st w w := fun _ _ _ => rfl
theorem Keep.trans {st : Stab} {a b c : World} (h : Keep st a b) (k : Keep st b c) : Keep st a c := fun x o hs => (k x o hs).trans (h x o hs)
theorem Keep.sub {st st' : Stab} {a b : World} (h : Keep st' a b) (hs : ∀ b o, st b o → st' b o) : Keep st a b := fun x o hx => h x o (hs x o hx)
theorem Sta.keep {st : Stab} {w w' : World} (h : Sta w st) (k : w.heap.size ≤ w'.heap.size) : Sta w' st := fun b o hs => Nat.lt_of_lt_of_le (h b o hs) k
theorem Sta.lt {st : Stab} {w : World} (h : Sta w st) {b o : Nat} (hs : st b o) : b < w.heap.size := h b o hs
theorem cell_of_block {w w' : World} {b o : Nat} (h : w'.heap[b]? = w.heap[b]?) : w'.cell? ⟨b, o, none⟩ = w.cell? ⟨b, o, none⟩ := World.cell?_of_block (a := ⟨b, o, none⟩) h
inductive PV (w : World) (st : Stab) : AV → Value → Prop
  | int (k : IntKind) (n : Int) : PV w st (.int k n) (.int k n)
  | bool (b : Bool) : PV w st (.bool b) (.bool b)
  | prop (b : Bool) : PV w st (.prop b) (.bool b)
  | str (s : List UInt8) : PV w st (.str s) (.string ⟨s.toArray⟩)
  | nilS : PV w st .nilS (.slice none 0 0)
  | sl (full : Bool) (sz n c : Nat) (f : Nat → List AV) (a : Option Addr) (b o : Nat) (vals : Nat → Nat → Value)
      (hnc : n ≤ c) (hfull : full = true → c = n) (hc : c ≤ maxLen) (ha : 0 < n → a = some ⟨b, o, none⟩) (hln : ∀ i, i < n → (f i).length = sz)
      (hcell : ∀ i j, i < n → j < sz → w.cell? ⟨b, o + i * sz + j, none⟩ = some (vals i j))
      (hst : ∀ i j, i < n → j < sz → st b (o + i * sz + j))
      (hp : ∀ i j, i < n → j < sz → PV w st ((f i).getD j .any) (vals i j)) : PV w st (.sl full sz n f) (.slice a n c)
  | rd (cs : List AV) (b o : Nat) (vals : Nat → Value)
      (hcell : ∀ j, j < cs.length → w.cell? ⟨b, o + j, none⟩ = some (vals j))
      (hst : ∀ j, j < cs.length → st b (o + j))
      (hp : ∀ j, j < cs.length → PV w st (cs.getD j .any) (vals j)) : PV w st (.rd cs) (.pointer (some ⟨b, o, none⟩))
  | rda (sz n : Nat) (f : Nat → List AV) (b o : Nat) (vals : Nat → Nat → Value) (hln : ∀ i, i < n → (f i).length = sz)
      (hcell : ∀ i j, i < n → j < sz → w.cell? ⟨b, o + i * sz + j, none⟩ = some (vals i j))
      (hst : ∀ i j, i < n → j < sz → st b (o + i * sz + j))
      (hp : ∀ i j, i < n → j < sz → PV w st ((f i).getD j .any) (vals i j)) (hend : w.cell? ⟨b, o + n * sz, none⟩ = none) (hse : st b (o + n * sz)) : PV w st (.rda sz n f) (.pointer (some ⟨b, o, none⟩))
  | nilI : PV w st .nilI .nilIface
  | nilP : PV w st .nilP (.pointer none)
  | nilF : PV w st .nilF .nilFunc
  | ifS (t : Nat) (x : Value) : PV w st .ifS (.iface t x)
theorem PV.mono {w w' : World} {st st' : Stab} (hs : ∀ b o, st b o → st' b o) (hk : Keep st w w') {a : AV} {v : Value} (h : PV w st a v) : PV w' st' a v := by
  induction h with
  | int k n => exact .int k n
  | bool b => exact .bool b
  | prop b => exact .prop b
  | str s => exact .str s
  | nilS => exact .nilS
  | sl full sz n c f a b o vals hnc hfull hc ha hln hcell hst hp ih =>
    exact .sl full sz n c f a b o vals hnc hfull hc ha hln (fun i j hi hj => by rw [hk _ _ (hst i j hi hj)]; exact hcell i j hi hj) (fun i j hi hj => hs _ _ (hst i j hi hj)) (fun i j hi hj => ih i j hi hj)
  | rd cs b o vals hcell hst hp ih =>
    exact .rd cs b o vals (fun j hj => by rw [hk _ _ (hst j hj)]; exact hcell j hj) (fun j hj => hs _ _ (hst j hj)) (fun j hj => ih j hj)
  | rda sz n f b o vals hln hcell hst hp hend hse ih =>
    exact .rda sz n f b o vals hln (fun i j hi hj => by rw [hk _ _ (hst i j hi hj)]; exact hcell i j hi hj) (fun i j hi hj => hs _ _ (hst i j hi hj)) (fun i j hi hj => ih i j hi hj) (by rw [hk _ _ hse]; exact hend) (hs _ _ hse)
  | nilI => exact .nilI
  | nilP => exact .nilP
  | nilF => exact .nilF
  | ifS t x => exact .ifS t x
theorem PV.one {w : World} {st : Stab} {a : AV} {v : Value} (h : PV w st a v) : v.oneCell' = true := by cases h <;> rfl
theorem PV.cells {w : World} {st : Stab} {a : AV} {v : Value} (h : PV w st a v) : v.cells = #[v] := by cases h <;> rfl
inductive All2 {α β : Type} (R : α → β → Prop) : List α → List β → Prop
  | nil : All2 R [] []
  | cons {a : α} {b : β} {l : List α} {m : List β} (h : R a b) (t : All2 R l m) : All2 R (a :: l) (b :: m)
namespace All2
variable {α β : Type} {R S : α → β → Prop} {l l' : List α} {m m' : List β}
theorem length (h : All2 R l m) : l.length = m.length := by induction h with | nil => rfl | cons _ _ ih => simp [ih]
theorem mono (hrs : ∀ a b, R a b → S a b) (h : All2 R l m) : All2 S l m := by induction h with | nil => exact .nil | cons h _ ih => exact .cons (hrs _ _ h) ih
theorem mono_mem (h : All2 R l m) (hrs : ∀ a b, a ∈ l → R a b → S a b) : All2 S l m := by
  induction h with
  | nil => exact .nil
  | cons h _ ih => exact .cons (hrs _ _ (by simp) h) (ih fun a b ha => hrs a b (by simp [ha]))
theorem get (h : All2 R l m) {i : Nat} {a : α} (hi : l[i]? = some a) : ∃ b, m[i]? = some b ∧ R a b := by
  induction h generalizing i with
  | nil => simp at hi
  | cons hr _ ih =>
    cases i with
    | zero => simp at hi; subst hi; exact ⟨_, rfl, hr⟩
    | succ i => simp at hi; simpa using ih hi
theorem get' (h : All2 R l m) {i : Nat} {b : β} (hi : m[i]? = some b) : ∃ a, l[i]? = some a ∧ R a b := by
  induction h generalizing i with
  | nil => simp at hi
  | cons hr _ ih =>
    cases i with
    | zero => simp at hi; subst hi; exact ⟨_, rfl, hr⟩
    | succ i => simp at hi; simpa using ih hi
theorem take (h : All2 R l m) (n : Nat) : All2 R (l.take n) (m.take n) := by
  induction h generalizing n with
  | nil => simp; exact .nil
  | cons hr _ ih => cases n with | zero => simp; exact .nil | succ n => simp; exact .cons hr (ih n)
theorem drop (h : All2 R l m) (n : Nat) : All2 R (l.drop n) (m.drop n) := by
  induction h generalizing n with
  | nil => simp; exact .nil
  | cons hr ht ih => cases n with | zero => simp; exact .cons hr ht | succ n => simp; exact ih n
theorem append (h : All2 R l m) (h' : All2 R l' m') : All2 R (l ++ l') (m ++ m') := by
  induction h with
  | nil => exact h'
  | cons hr _ ih => exact .cons hr ih
theorem map_left {γ : Type} {f : γ → α} {l : List γ} {m : List β} (h : All2 (fun a b => R (f a) b) l m) : All2 R (l.map f) m := by
  induction h with | nil => exact .nil | cons hr _ ih => exact .cons hr ih
theorem of_get (hl : l.length = m.length) (h : ∀ (i : Nat) a b, l[i]? = some a → m[i]? = some b → R a b) : All2 R l m := by
  induction l generalizing m with
  | nil => cases m with | nil => exact .nil | cons _ _ => simp at hl
  | cons a l ih =>
    cases m with
    | nil => simp at hl
    | cons b m =>
      refine .cons (h 0 a b rfl rfl) (ih (by simpa using hl) fun i x y hx hy => h (i + 1) x y (by simpa using hx) (by simpa using hy))
end All2
inductive Loc where
  | blk (b : Nat)
  | rowv (v : Value)
def R1 (w : World) (st : Stab) (ρ : Nat → Loc) : AV → Value → Prop
  | .any, _ => True
  | .undef, v => v = undef
  | .row k, v => ∃ a n c, v = .slice a n c ∧ ρ k = .rowv v
  | .ptr k o, v => ∃ b, ρ k = .blk b ∧ v = .pointer (some ⟨b, o, none⟩)
  | .rp k sz i o, v => ∃ g n c, ρ k = .rowv (.slice (some ⟨g, 0, none⟩) n c) ∧ v = .pointer (some ⟨g, i * sz + o, none⟩)
  | .fresh _ _ _, _ => False
  | .ifp _ _ _, _ => False
  | .agg _, _ => False
  | .tup _, _ => False
  | .clo _ _, _ => False
  | .ifc _ _, _ => False
  | a, v => PV w st a v
def R2 (w : World) (st : Stab) (ρ : Nat → Loc) : AV → Value → Prop
  | .agg l, v => ∃ cs : List Value, v = .agg cs.toArray ∧ All2 (R1 w st ρ) l cs ∧ ∀ x ∈ cs, x.oneCell' = true
  | .clo f cap, v => ∃ cs : List Value, v = .func (.func f) #[] cs.toArray ∧ All2 (R1 w st ρ) cap cs
  | .ifc t a, v => ∃ x, v = .iface t x ∧ R1 w st ρ a x
  | a, v => R1 w st ρ a v
def R3 (w : World) (st : Stab) (ρ : Nat → Loc) : AV → Value → Prop
  | .tup l, v => ∃ cs : List Value, v = .tuple cs.toArray ∧ All2 (R2 w st ρ) l cs
  | a, v => R2 w st ρ a v
theorem R1_pers {w : World} {st : Stab} {ρ : Nat → Loc} {a : AV} {v : Value} (hp : pers1 a = true) : R1 w st ρ a v ↔ PV w st a v := by
  cases a <;> first | exact Iff.rfl | (simp [pers1] at hp)
theorem R1_rho {w : World} {st : Stab} {ρ ρ' : Nat → Loc} {a : AV} {v : Value} (hk : ∀ k ∈ keys1 a, ρ' k = ρ k) (h : R1 w st ρ a v) : R1 w st ρ' a v := by
  cases a <;> first | exact h | skip
  case row k => simp only [R1] at *; rw [hk k (by simp [keys1])]; exact h
  case ptr k o => simp only [R1] at *; rw [hk k (by simp [keys1])]; exact h
  case rp k sz i o => simp only [R1] at *; rw [hk k (by simp [keys1])]; exact h
theorem R1.mono {w w' : World} {st st' : Stab} {ρ : Nat → Loc} (hs : ∀ b o, st b o → st' b o) (hk : Keep st w w') {a : AV} {v : Value} (h : R1 w st ρ a v) : R1 w' st' ρ a v := by
  cases a <;> first | exact h | exact PV.mono hs hk h
theorem R2.mono {w w' : World} {st st' : Stab} {ρ : Nat → Loc} (hs : ∀ b o, st b o → st' b o) (hk : Keep st w w') {a : AV} {v : Value} (h : R2 w st ρ a v) : R2 w' st' ρ a v := by
  cases a <;> first | (simp only [R2] at h ⊢; exact R1.mono hs hk h) | skip
  case agg l => obtain ⟨cs, e, h1, h2⟩ := h; exact ⟨cs, e, h1.mono fun _ _ => R1.mono hs hk, h2⟩
  case clo f cap => obtain ⟨cs, e, h1⟩ := h; exact ⟨cs, e, h1.mono fun _ _ => R1.mono hs hk⟩
  case ifc t a => obtain ⟨x, e, h1⟩ := h; exact ⟨x, e, h1.mono hs hk⟩
theorem R3.mono {w w' : World} {st st' : Stab} {ρ : Nat → Loc} (hs : ∀ b o, st b o → st' b o) (hk : Keep st w w') {a : AV} {v : Value} (h : R3 w st ρ a v) : R3 w' st' ρ a v := by
  cases a <;> first | (simp only [R3] at h ⊢; exact R2.mono hs hk h) | skip
  case tup l => obtain ⟨cs, e, h1⟩ := h; exact ⟨cs, e, h1.mono fun _ _ => R2.mono hs hk⟩
end Go.Eng
end
section
set_option linter.unusedVariables false
set_option linter.unusedSimpArgs false
namespace Go.Eng
open Go
structure Ctx where
  E : Env
  N : Nat
  M : Nat → Prop
  w0 : World
  s0 : Stab
def blkOf : Option Blk → Loc → Option Nat
  | some (.box _ _), .blk b => some b
  | some (.row _ _ _ _), .rowv v => v.ownBlock
  | some (.full _ _ _), .rowv v => v.ownBlock
  | _, _ => none
def HB (w : World) (st : Stab) (ρ : Nat → Loc) : Blk → Loc → Prop
  | .box cs fz, .blk b => ∃ arr t, w.heap[b]? = some (.cells arr t (0, 0)) ∧ All2 (R1 w st ρ) cs arr.toList ∧ (∀ x ∈ arr.toList, x.oneCell' = true) ∧ (fz = false → ∀ o, ¬ st b o)
  | .row e sz els pin, .rowv v => ∃ vals, w.ownsRow 0 e sz v els.length vals ∧ All2 (PV w st) els.flatten vals ∧ (∀ x ∈ els, x.length = sz) ∧
      (∀ g, v.ownBlock = some g → ∀ o, st g o → pin = true ∧ o < els.length * sz)
  | .full e sz els, .rowv v => ∃ g arr, v = .slice (some ⟨g, 0, none⟩) els.length els.length ∧ w.heap[g]? = some (.cells arr e (0, 0)) ∧ All2 (PV w st) els.flatten arr.toList ∧ (∀ x ∈ els, x.length = sz) ∧ els.length ≤ maxLen ∧ ∀ o, ¬ st g o
  | .dead, _ => True
  | _, _ => False
structure Rel (X : Ctx) (S : St) (a : Act) (w : World) (st : Stab) (ρ : Nat → Loc) : Prop where
  slots : ∀ t, R3 w st ρ (S.slot t) (a.tmps.getD t undef)
  size : a.tmps.size = X.N
  defers : a.defers = []
  ev : Ev X.M X.w0 w
  sta : Sta w st
  sub : ∀ b o, X.s0 b o → st b o
  new : ∀ b o, b < X.w0.heap.size → ¬ X.M b → st b o → X.s0 b o
  heap : ∀ k b, S.H k = some b → HB w st ρ b (ρ k)
  mine : ∀ k x, blkOf (S.H k) (ρ k) = some x → X.w0.heap.size ≤ x ∨ X.M x
  apart : ∀ k k' x, blkOf (S.H k) (ρ k) = some x → blkOf (S.H k') (ρ k') = some x → k = k'
  kin : ∀ t, ∀ k ∈ keysT (S.slot t), (S.H k).isSome = true
  kinH : ∀ k cs fz, S.H k = some (.box cs fz) → ∀ c ∈ cs, ∀ k' ∈ keys1 c, (S.H k').isSome = true
  glob : ∀ g, X.E.G g = .any ∨ PV w st (X.E.G g) (.pointer (some ⟨g, 0, none⟩))
theorem upd_same {α : Type} (f : Nat → α) (k : Nat) (v : α) : upd f k v k = v := by simp [upd]
theorem upd_other {α : Type} (f : Nat → α) {k j : Nat} (v : α) (h : j ≠ k) : upd f k v j = f j := by
  have : Nat.beq j k = false := by
    cases hb : Nat.beq j k with
    | false => rfl
    | true => exact absurd (Nat.eq_of_beq_eq_true hb) h
  simp [upd, this]
theorem R2_rho {w : World} {st : Stab} {ρ ρ' : Nat → Loc} {a : AV} {v : Value} (hk : ∀ k ∈ keys a, ρ' k = ρ k) (h : R2 w st ρ a v) : R2 w st ρ' a v := by
  cases a <;> first | (simp only [R2] at h ⊢; exact R1_rho (by simpa [keys] using hk) h) | skip
  case agg l =>
    obtain ⟨cs, e, h1, h2⟩ := h
    exact ⟨cs, e, h1.mono_mem fun a b ha hr => R1_rho (fun k hkk => hk k (by simp [keys]; exact ⟨a, ha, hkk⟩)) hr, h2⟩
  case clo f cap =>
    obtain ⟨cs, e, h1⟩ := h
    exact ⟨cs, e, h1.mono_mem fun a b ha hr => R1_rho (fun k hkk => hk k (by simp [keys]; exact ⟨a, ha, hkk⟩)) hr⟩
  case ifc t a =>
    obtain ⟨x, e, h1⟩ := h
    exact ⟨x, e, R1_rho (by simpa [keys] using hk) h1⟩
theorem R3_rho {w : World} {st : Stab} {ρ ρ' : Nat → Loc} {a : AV} {v : Value} (hk : ∀ k ∈ keysT a, ρ' k = ρ k) (h : R3 w st ρ a v) : R3 w st ρ' a v := by
  cases a <;> first | (simp only [R3] at h ⊢; exact R2_rho (by simpa [keysT] using hk) h) | skip
  case tup l =>
    obtain ⟨cs, e, h1⟩ := h
    exact ⟨cs, e, h1.mono_mem fun a b ha hr => R2_rho (fun k hkk => hk k (by simp [keysT]; exact ⟨a, ha, hkk⟩)) hr⟩
theorem getD_put (a : Act) (d : Nat) (v : Value) (t : Nat) (hd : d < a.tmps.size) : (a.put (some d) v).tmps.getD t undef = if t = d then v else a.tmps.getD t undef := by
  simp only [Act.put, Array.getD_eq_getD_getElem?]
  by_cases h : t = d
  · subst h; simp [hd]
  · rw [Array.getElem?_setIfInBounds_ne (Ne.symm h)]; simp [h]
theorem Rel.step {X : Ctx} {S : St} {a : Act} {w : World} {st : Stab} {ρ : Nat → Loc} (h : Rel X S a w st ρ)
    {w' : World} {st' : Stab} {ρ' : Nat → Loc} {H' : Nat → Option Blk} (d : Option Nat) (v : AV) (val : Value)
    (hos : w'.os = w.os) (htape : w'.tape = w.tape) (hout : w'.output = w.output) (hsz : w.heap.size ≤ w'.heap.size)
    (hblk : ∀ b, b < w.heap.size → (∀ k, blkOf (S.H k) (ρ k) ≠ some b) → w'.heap[b]? = w.heap[b]?)
    (hkeep : Keep st w w') (hsub : ∀ b o, st b o → st' b o) (hnew : ∀ b o, b < w.heap.size → (∀ k, blkOf (S.H k) (ρ k) ≠ some b) → st' b o → st b o) (hsta : Sta w' st')
    (hρ : ∀ k, (S.H k).isSome = true → ρ' k = ρ k)
    (hheap : ∀ k b, H' k = some b → HB w' st' ρ' b (ρ' k))
    (hmine : ∀ k x, blkOf (H' k) (ρ' k) = some x → X.w0.heap.size ≤ x ∨ X.M x)
    (hapart : ∀ k k' x, blkOf (H' k) (ρ' k) = some x → blkOf (H' k') (ρ' k') = some x → k = k')
    (hdom : ∀ k, (S.H k).isSome = true → (H' k).isSome = true)
    (hkinH : ∀ k cs fz, H' k = some (.box cs fz) → ∀ c ∈ cs, ∀ k' ∈ keys1 c, (H' k').isSome = true)
    (hv : ∀ x, d = some x → R3 w' st' ρ' v val) (hvk : ∀ x, d = some x → ∀ k ∈ keysT v, (H' k).isSome = true) (hd : ∀ x, d = some x → x < X.N) :
    Rel X ⟨putO S.slot d v, H'⟩ (a.put d val) w' st' ρ' := by
  have hslot : ∀ t, R3 w' st' ρ' (S.slot t) (a.tmps.getD t undef) := fun t =>
    R3_rho (fun k hk => hρ k (h.kin t k hk)) ((h.slots t).mono hsub hkeep)
  refine ⟨?_, ?_, ?_, ⟨hos.trans h.ev.os, htape.trans h.ev.tape, hout.trans h.ev.output, Nat.le_trans h.ev.size hsz, ?_⟩, hsta, fun b o hb => hsub b o (h.sub b o hb), ?_, hheap, hmine, hapart, ?_, hkinH, ?_⟩
  · intro t
    cases d with
    | none => exact hslot t
    | some d =>
      rw [getD_put _ _ _ _ (by rw [h.size]; exact hd d rfl)]
      show R3 w' st' ρ' (upd S.slot d v t) _
      by_cases ht : t = d
      · subst ht; rw [upd_same, if_pos rfl]; exact hv _ rfl
      · rw [upd_other _ _ ht, if_neg ht]; exact hslot t
  · cases d <;> simp [Act.put, h.size]
  · cases d <;> simp [Act.put, h.defers]
  · intro k hk hM
    rw [hblk k (Nat.lt_of_lt_of_le hk h.ev.size) (fun key hkey => ?_)]
    · exact h.ev.block k hk hM
    · rcases h.mine key k hkey with h1 | h1
      · omega
      · exact hM h1
  · intro b o hb hM ho
    refine h.new b o hb hM (hnew b o (Nat.lt_of_lt_of_le hb h.ev.size) (fun key hkey => ?_) ho)
    rcases h.mine key b hkey with h1 | h1
    · omega
    · exact hM h1
  · intro t k hk
    cases d with
    | none => exact hdom k (h.kin t k hk)
    | some d =>
      have hk' : k ∈ keysT (upd S.slot d v t) := hk
      by_cases ht : t = d
      · subst ht; rw [upd_same] at hk'; exact hvk _ rfl k hk'
      · rw [upd_other _ _ ht] at hk'; exact hdom k (h.kin t k hk')
  · intro g
    rcases h.glob g with hg | hg
    · exact .inl hg
    · exact .inr (hg.mono hsub hkeep)
theorem HB.keep {w w' : World} {st st' : Stab} {ρ ρ' : Nat → Loc} {b : Blk} {l : Loc} (h : HB w st ρ b l) (hx : ∀ x, blkOf (some b) l = some x → w'.heap[x]? = w.heap[x]? ∧ ∀ o, st' x o → st x o)
    (hsub : ∀ b o, st b o → st' b o) (hkeep : Keep st w w') (hρ : ∀ cs fz, b = .box cs fz → ∀ c ∈ cs, ∀ k ∈ keys1 c, ρ' k = ρ k) : HB w' st' ρ' b l := by
  cases b with
  | dead => trivial
  | box cs fz =>
    cases l with
    | rowv v => exact h
    | blk b =>
      obtain ⟨arr, t, h1, h2, h3, h4⟩ := h
      obtain ⟨hb, hs⟩ := hx b rfl
      exact ⟨arr, t, by rw [hb]; exact h1, h2.mono_mem fun c x hc hr => R1_rho (hρ cs fz rfl c hc) (hr.mono hsub hkeep), h3, fun hf o ho => h4 hf o (hs o ho)⟩
  | full e sz els =>
    cases l with
    | blk b => exact h
    | rowv v =>
      obtain ⟨g, arr, rfl, h1, h2, h3, h4, h5⟩ := h
      exact ⟨g, arr, rfl, by rw [(hx g rfl).1]; exact h1, h2.mono fun _ _ hr => hr.mono hsub hkeep, h3, h4, fun o ho => h5 o ((hx g rfl).2 o ho)⟩
  | row e sz els pin =>
    cases l with
    | blk b => exact h
    | rowv v =>
      obtain ⟨vals, h1, h2, h3, h4⟩ := h
      refine ⟨vals, ?_, h2.mono fun _ _ hr => hr.mono hsub hkeep, h3, fun g hg o ho => h4 g hg o ((hx g hg).2 o ho)⟩
      obtain ⟨hl, h1⟩ := h1
      refine ⟨hl, ?_⟩
      rcases h1 with h1 | ⟨g, cap, cur, rfl, hb, hg, r⟩
      · exact .inl h1
      · exact .inr ⟨g, cap, cur, rfl, hb, by rw [(hx g rfl).1]; exact hg, r⟩
theorem Rel.grow {X : Ctx} {S : St} {a : Act} {w : World} {st : Stab} {ρ : Nat → Loc} (h : Rel X S a w st ρ)
    {w' : World} {st' : Stab} (d : Option Nat) (v : AV) (val : Value) (hev : Ev (fun _ => False) w w')
    (hsub : ∀ b o, st b o → st' b o) (hnew : ∀ b o, b < w.heap.size → st' b o → st b o) (hsta : Sta w' st')
    (hv : ∀ x, d = some x → R3 w' st' ρ v val) (hvk : ∀ x, d = some x → ∀ k ∈ keysT v, (S.H k).isSome = true) (hd : ∀ x, d = some x → x < X.N) :
    Rel X ⟨putO S.slot d v, S.H⟩ (a.put d val) w' st' ρ := by
  have hkeep : Keep st w w' := fun b o hs => cell_of_block (hev.block b (h.sta.lt hs) (fun h => h))
  have hlt : ∀ k b x, S.H k = some b → blkOf (some b) (ρ k) = some x → x < w.heap.size := by
    intro k b x hk hx
    have := h.heap k b hk
    cases b with
    | dead => cases hx
    | box cs fz =>
      cases hl : ρ k with
      | rowv v => rw [hl] at hx; cases hx
      | blk b =>
        rw [hl] at hx this
        obtain ⟨arr, t, h1, _⟩ := this
        cases hx
        exact (Array.getElem?_eq_some_iff.1 h1).1
    | full e sz els =>
      cases hl : ρ k with
      | blk b => rw [hl] at hx; cases hx
      | rowv v =>
        rw [hl] at hx this
        obtain ⟨g, arr, rfl, h1, _⟩ := this
        cases hx
        exact (Array.getElem?_eq_some_iff.1 h1).1
    | row e sz els pin =>
      cases hl : ρ k with
      | blk b => rw [hl] at hx; cases hx
      | rowv v =>
        rw [hl] at hx this
        obtain ⟨vals, h1, _⟩ := this
        exact (h1.lt x hx).2
  exact h.step d v val hev.os hev.tape hev.output hev.size (fun b hb _ => hev.block b hb (fun h => h)) hkeep hsub (fun b o hb _ hs => hnew b o hb hs) hsta (fun _ _ => rfl)
    (fun k b hk => (h.heap k b hk).keep (fun x hx => ⟨hev.block x (hlt k b x hk hx) (fun h => h), fun o ho => hnew x o (hlt k b x hk hx) ho⟩) hsub hkeep (fun _ _ _ _ _ _ _ => rfl))
    h.mine h.apart (fun _ h => h) h.kinH hv hvk hd
theorem Rel.put {X : Ctx} {S : St} {a : Act} {w : World} {st : Stab} {ρ : Nat → Loc} (h : Rel X S a w st ρ) (d : Option Nat) (v : AV) (val : Value)
    (hv : ∀ x, d = some x → R3 w st ρ v val) (hvk : ∀ x, d = some x → ∀ k ∈ keysT v, (S.H k).isSome = true) (hd : ∀ x, d = some x → x < X.N) :
    Rel X ⟨putO S.slot d v, S.H⟩ (a.put d val) w st ρ :=
  h.grow d v val (Ev.refl _ _) (fun _ _ h => h) (fun _ _ _ h => h) h.sta hv hvk hd
end Go.Eng
end
section
set_option linter.unusedVariables false
set_option linter.unusedSimpArgs false
namespace Go.Eng
open Go
theorem look_mem {α : Type} {f : Nat} {l : List (Nat × α)} {c : α} (h : look f l = some c) : (f, c) ∈ l := by
  induction l with
  | nil => cases h
  | cons p r ih =>
    obtain ⟨g, d⟩ := p
    simp only [look] at h
    cases hb : Nat.beq g f with
    | true => rw [hb] at h; simp at h; subst h; rw [Nat.eq_of_beq_eq_true hb]; simp
    | false => rw [hb] at h; exact List.mem_cons_of_mem _ (ih h)
def TOk (E : Env) : Prop := ∀ p ∈ E.T, tiOf E.P p.1 = some p.2
section
variable {E : Env} (hT : TOk E)
include hT
theorem ti_of {t : Nat} {i : TI} (h : E.ti t = some i) : tiOf E.P t = some i := hT _ (look_mem h)
theorem ti_parts' {t : Nat} {i : TI} (h : E.ti t = some i) : ∃ inf d, E.P.info? t = some inf ∧ E.P.underlying t = some d ∧ i.size = inf.size ∧ i.zero = zeroP inf ∧ i.k = tkOf E.P d ∧ (∃ z, inf.zero = some z ∧ z.cells.all (·.oneCell') = true) ∧ fieldsOkP E.P d = true ∧ inf.bytes ≤ 1048576 := by
  have := ti_of hT h
  unfold tiOf at this
  split at this
  · rename_i inf d h1 h2
    by_cases hz : (zeroOkP inf && fieldsOkP E.P d && Nat.ble inf.bytes 1048576) = true
    · rw [if_pos hz] at this
      simp only [Option.some.injEq] at this
      subst this
      simp only [Bool.and_eq_true] at hz
      obtain ⟨⟨hz, hf⟩, hby⟩ := hz
      have hby := Nat.le_of_ble_eq_true hby
      unfold zeroOkP at hz
      cases hzz : inf.zero with
      | none => rw [hzz] at hz; cases hz
      | some z => rw [hzz] at hz; exact ⟨inf, d, h1, h2, rfl, rfl, rfl, ⟨z, hzz, hz⟩, hf, hby⟩
    · rw [if_neg hz] at this; cases this
  · cases this
theorem ti_parts {t : Nat} {i : TI} (h : E.ti t = some i) : ∃ inf d, E.P.info? t = some inf ∧ E.P.underlying t = some d ∧ i.size = inf.size ∧ i.zero = zeroP inf ∧ i.k = tkOf E.P d ∧ ∃ z, inf.zero = some z ∧ z.cells.all (·.oneCell') = true := by
  obtain ⟨inf, d, h1, h2, h3, h4, h5, h6, _⟩ := ti_parts' hT h
  exact ⟨inf, d, h1, h2, h3, h4, h5, h6⟩
def TkOk (P : Program) (d : TypeDesc) : TK → Prop
  | .int k => d = .int k
  | .bool => d = .bool
  | .string => d = .string
  | .slice e z => d = .slice e ∧ szP P e = z
  | .struct fs => ∃ fields, d = .struct fields ∧ fs = fields.toList.map fun f => (f.offset, szP P f.type, isAgP P f.type)
  | .array n e z => d = .array n e ∧ szP P e = z
  | .iface => ∃ m, d = .interface m
  | .other => True
omit hT in
theorem tkOf_ok (P : Program) (d : TypeDesc) : TkOk P d (tkOf P d) := by
  cases d <;> first | exact trivial | exact rfl | exact ⟨rfl, rfl⟩ | exact ⟨_, rfl⟩ | exact ⟨_, rfl, rfl⟩
omit hT in
theorem tkOf_cases {P : Program} {d : TypeDesc} {k : TK} (h : k = tkOf P d) : TkOk P d k := h ▸ tkOf_ok P d
omit hT in
theorem kind_ti {t : Nat} {k : TK} (hk : E.kind t = k) (hne : k ≠ .other) : ∃ i, E.ti t = some i ∧ i.k = k := by
  unfold Env.kind at hk
  split at hk
  · exact ⟨_, ‹_›, hk⟩
  · exact absurd hk.symm hne
theorem kind_of {t : Nat} {k : TK} (h : E.kind t = k) (hne : k ≠ .other) : ∃ d, E.P.underlying t = some d ∧ k = tkOf E.P d := by
  obtain ⟨i, hi, hk⟩ := kind_ti h hne
  obtain ⟨inf, d, h1, h2, _, _, h3, _⟩ := ti_parts hT hi
  exact ⟨d, h2, by rw [← hk, h3]⟩
theorem kind_slice {t e z : Nat} (h : E.kind t = .slice e z) : E.P.underlying t = some (.slice e) ∧ szP E.P e = z := by
  obtain ⟨d, h2, h3⟩ := kind_of hT h (by simp)
  obtain ⟨rfl, h4⟩ := tkOf_cases h3
  exact ⟨h2, h4⟩
theorem kind_array {t n e z : Nat} (h : E.kind t = .array n e z) : E.P.underlying t = some (.array n e) ∧ szP E.P e = z := by
  obtain ⟨d, h2, h3⟩ := kind_of hT h (by simp)
  obtain ⟨rfl, h4⟩ := tkOf_cases h3
  exact ⟨h2, h4⟩
theorem kind_int {t : Nat} {k : IntKind} (h : E.kind t = .int k) : E.P.underlying t = some (.int k) := by
  obtain ⟨d, h2, h3⟩ := kind_of hT h (by simp)
  obtain rfl := tkOf_cases h3
  exact h2
theorem kind_bool {t : Nat} (h : E.kind t = .bool) : E.P.underlying t = some .bool := by
  obtain ⟨d, h2, h3⟩ := kind_of hT h (by simp)
  obtain rfl := tkOf_cases h3
  exact h2
theorem kind_string {t : Nat} (h : E.kind t = .string) : E.P.underlying t = some .string := by
  obtain ⟨d, h2, h3⟩ := kind_of hT h (by simp)
  obtain rfl := tkOf_cases h3
  exact h2
theorem kind_struct {t : Nat} {fs : List (Nat × Nat × Bool)} (h : E.kind t = .struct fs) :
    ∃ fields : Array Field, E.P.underlying t = some (.struct fields) ∧ (∀ f ∈ fields.toList, (E.P.underlying f.type).isSome = true) ∧ fs = fields.toList.map fun f => (f.offset, szP E.P f.type, isAgP E.P f.type) := by
  obtain ⟨i, hi, hk⟩ := kind_ti h (by simp)
  obtain ⟨inf, d, h1, h2, _, _, h3, _, hf, _⟩ := ti_parts' hT hi
  obtain ⟨fields, rfl, h5⟩ := tkOf_cases (hk ▸ h3)
  exact ⟨fields, h2, fun f hf' => (List.all_eq_true.1 hf) f hf', h5⟩
theorem kind_iface {t : Nat} (h : E.kind t = .iface) : ∃ m, E.P.underlying t = some (.interface m) := by
  obtain ⟨d, h2, h3⟩ := kind_of hT h (by simp)
  obtain ⟨m, rfl⟩ := tkOf_cases h3
  exact ⟨m, h2⟩
theorem sz_ok {t n : Nat} (h : E.sz t = n) (hn : n ≠ 0) : ∃ inf, E.P.info? t = some inf ∧ inf.size = n := by
  unfold Env.sz at h
  split at h
  · rename_i i hi
    obtain ⟨inf, d, h1, h2, h3, _⟩ := ti_parts hT hi
    exact ⟨inf, h1, by omega⟩
  · omega
theorem ag_ok {t : Nat} (hs : E.sz t ≠ 0) : ∃ d, E.P.underlying t = some d ∧ E.ag t = TypeDesc.isRow d := by
  unfold Env.sz at hs
  split at hs
  · rename_i i hi
    obtain ⟨inf, d, h1, h2, h3, _, h4, _⟩ := ti_parts hT hi
    refine ⟨d, h2, ?_⟩
    simp only [Env.ag, hi, h4]
    cases d <;> rfl
  · omega
end
theorem szP_info {P : Program} {t n : Nat} (h : szP P t = n) (hn : n ≠ 0) : ∃ inf, P.info? t = some inf ∧ inf.size = n := by
  unfold szP at h
  split at h
  · exact ⟨_, ‹_›, h⟩
  · omega
structure OpOk (w : World) (st : Stab) (ρ : Nat → Loc) (K : Nat → Prop) (f : Operand → AV) (g : Operand → Value) : Prop where
  rel : ∀ x, R3 w st ρ (f x) (g x)
  key : ∀ x, ∀ k ∈ keysT (f x), K k
end Go.Eng
end
section
set_option linter.unusedVariables false
set_option linter.unusedSimpArgs false
namespace Go.Eng
open Go
def valOf : AV → Value
  | .int k n => .int k n
  | .str s => .string ⟨s.toArray⟩
  | _ => undef
def eqRun (op : BinOp) (t : Nat) (x y : Operand) (a b : Value) : Sem Value := do eqGuard op t x y a b; binOp op t a b
def EqLaw (P : Program) (t : Nat) (sh : List Bool) : Prop := ∀ (x y : Operand) (w : World) (l l' : List AV) (r : Bool), shapeIs sh l = true → shapeIs sh l' = true → eqCells l l' = some r →
  (eqRun .eql t x y (.agg (l.map valOf).toArray) (.agg (l'.map valOf).toArray)).run P w = .ok (.bool r) w ∧
  (eqRun .neq t x y (.agg (l.map valOf).toArray) (.agg (l'.map valOf).toArray)).run P w = .ok (.bool (!r)) w
structure EnvOk (E : Env) : Prop where
  tok : TOk E
  eq : ∀ p ∈ E.EQ, EqLaw E.P p.1 p.2
section inv
variable {w : World} {st : Stab} {ρ : Nat → Loc} {v : Value}
theorem R3_int {k : IntKind} {n : Int} (h : R3 w st ρ (.int k n) v) : v = .int k n := by cases (show PV w st (.int k n) v from h); rfl
theorem R3_bool {b : Bool} (h : R3 w st ρ (.bool b) v) : v = .bool b := by cases (show PV w st (.bool b) v from h); rfl
theorem R3_prop {b : Bool} (h : R3 w st ρ (.prop b) v) : v = .bool b := by cases (show PV w st (.prop b) v from h); rfl
theorem R3_str {s : List UInt8} (h : R3 w st ρ (.str s) v) : v = .string ⟨s.toArray⟩ := by cases (show PV w st (.str s) v from h); rfl
theorem R3_nilS (h : R3 w st ρ .nilS v) : v = .slice none 0 0 := by cases (show PV w st .nilS v from h); rfl
theorem R3_ifS (h : R3 w st ρ .ifS v) : ∃ t x, v = .iface t x := by cases (show PV w st .ifS v from h); exact ⟨_, _, rfl⟩
theorem R3_nilI (h : R3 w st ρ .nilI v) : v = .nilIface := by cases (show PV w st .nilI v from h); rfl
theorem R1_int {k : IntKind} {n : Int} (h : R1 w st ρ (.int k n) v) : v = .int k n := by cases (show PV w st (.int k n) v from h); rfl
theorem R1_str {s : List UInt8} (h : R1 w st ρ (.str s) v) : v = .string ⟨s.toArray⟩ := by cases (show PV w st (.str s) v from h); rfl
end inv
theorem eqCells_vals {w : World} {st : Stab} {ρ : Nat → Loc} {sh : List Bool} {l : List AV} {cs : List Value} (hs : shapeIs sh l = true) (h : All2 (R1 w st ρ) l cs) : cs = l.map valOf := by
  induction h generalizing sh with
  | nil => rfl
  | @cons a b l m hr _ ih =>
    cases sh with
    | nil => cases a <;> simp [shapeIs] at hs
    | cons q sh =>
      cases q with
      | true =>
        cases a <;> try (simp [shapeIs] at hs; done)
        rename_i k n
        cases k <;> try (simp [shapeIs] at hs; done)
        simp only [shapeIs] at hs
        rw [R1_int hr, List.map_cons, ← ih hs]; rfl
      | false =>
        cases a <;> try (simp [shapeIs] at hs; done)
        simp only [shapeIs] at hs
        rw [R1_str hr, List.map_cons, ← ih hs]; rfl
def Gives (P : Program) (s : Sem Next) (w : World) (st : Stab) (ρ : Nat → Loc) (v : AV) : Prop := ∃ val, s.run P w = .ok (.value val) w ∧ R3 w st ρ v val
theorem R_int (w : World) (st : Stab) (ρ : Nat → Loc) (k : IntKind) (n : Int) : R3 w st ρ (.int k n) (.int k n) := PV.int k n
theorem R_bool (w : World) (st : Stab) (ρ : Nat → Loc) (b : Bool) : R3 w st ρ (.bool b) (.bool b) := PV.bool b
theorem R_prop (w : World) (st : Stab) (ρ : Nat → Loc) (b : Bool) : R3 w st ρ (.prop b) (.bool b) := PV.prop b
theorem R_str (w : World) (st : Stab) (ρ : Nat → Loc) (s : List UInt8) : R3 w st ρ (.str s) (.string ⟨s.toArray⟩) := PV.str s
theorem wrap_in {n : Int} (h : inI64 n) : IntKind.i64.wrap n = n := by
  unfold inI64 at h
  unfold IntKind.wrap
  by_cases hc : n % (2 ^ IntKind.i64.bits : Int) ≥ (2 ^ (IntKind.i64.bits - 1) : Int)
  · have hb : (IntKind.i64.signed && decide (n % (2 ^ IntKind.i64.bits : Int) ≥ (2 ^ (IntKind.i64.bits - 1) : Int))) = true := by simp [hc, IntKind.signed]
    simp only [hb, if_true]
    simp only [IntKind.bits] at hc ⊢
    omega
  · have hb : (IntKind.i64.signed && decide (n % (2 ^ IntKind.i64.bits : Int) ≥ (2 ^ (IntKind.i64.bits - 1) : Int))) = false := by simp [hc]
    simp only [hb, Bool.false_eq_true, if_false]
    simp only [IntKind.bits] at hc ⊢
    omega
theorem arith_sound {k : IntKind} {n : Int} {v : AV} (h : (arith k n).run = some v) : v = .int k (k.wrap n) := by
  cases k <;> simp only [arith] at h <;> first | exact (Tr.run_ret h).symm | skip
  obtain ⟨h1, h2⟩ := Tr.run_need h
  rw [wrap_in h1]
  exact (Tr.run_ret h2).symm
theorem eqGuard_int (op : BinOp) (t : Nat) (x y : Operand) (k k' : IntKind) (a b : Int) (P : Program) (w : World) : (eqGuard op t x y (.int k a) (.int k' b)).run P w = .ok () w := by
  simp only [eqGuard]; split <;> simp
theorem eqGuard_str (op : BinOp) (t : Nat) (x y : Operand) (a b : ByteArray) (P : Program) (w : World) : (eqGuard op t x y (.string a) (.string b)).run P w = .ok () w := by
  simp only [eqGuard]; split <;> simp
theorem bytes_eq (a b : List UInt8) : (a == b) = decide (a = b) := by
  by_cases h : a = b <;> simp [h]
theorem bin_int {E : Env} {op : BinOp} {t : Nat} {x y : Operand} {k k' : IntKind} {a b : Int} {w : World} {st : Stab} {ρ : Nat → Loc} {v : AV}
    (h : (bin E op t (.int k a) (.int k' b)).run = some v) :
    ∃ val, (eqRun op t x y (.int k a) (.int k' b)).run E.P w = .ok val w ∧ R3 w st ρ v val := by
  cases op <;> simp only [bin] at h
  all_goals first | exact (Tr.run_fail h).elim | skip
  all_goals try (split at h <;> first | exact (Tr.run_fail h).elim | (rename_i hk; subst hk))
  case add => exact ⟨_, by simp [eqRun, eqGuard_int, binOp, Op.intArith]; rfl, by rw [arith_sound h]; exact R_int ..⟩
  case sub => exact ⟨_, by simp [eqRun, eqGuard_int, binOp, Op.intArith]; rfl, by rw [arith_sound h]; exact R_int ..⟩
  case mul => exact ⟨_, by simp [eqRun, eqGuard_int, binOp, Op.intArith]; rfl, by rw [arith_sound h]; exact R_int ..⟩
  case quo =>
    obtain ⟨h0, h1⟩ := Tr.run_need h
    exact ⟨_, by simp [eqRun, eqGuard_int, binOp, Op.intDiv, h0]; rfl, by rw [arith_sound h1]; exact R_int ..⟩
  case rem =>
    obtain ⟨h0, h1⟩ := Tr.run_need h
    exact ⟨_, by simp [eqRun, eqGuard_int, binOp, Op.intDiv, h0]; rfl, by rw [← Tr.run_ret h1]; exact R_int ..⟩
  case and => exact ⟨_, by simp [eqRun, eqGuard_int, binOp, Op.intBits]; rfl, by rw [← Tr.run_ret h]; exact R_int ..⟩
  case or => exact ⟨_, by simp [eqRun, eqGuard_int, binOp, Op.intBits]; rfl, by rw [← Tr.run_ret h]; exact R_int ..⟩
  case shl =>
    obtain ⟨h0, h1⟩ := Tr.run_need h
    exact ⟨_, by simp [eqRun, eqGuard_int, binOp, Op.shift, show ¬ b < 0 by omega]; rfl, by rw [← Tr.run_ret h1]; exact R_int ..⟩
  case shr =>
    obtain ⟨h0, h1⟩ := Tr.run_need h
    exact ⟨_, by simp [eqRun, eqGuard_int, binOp, Op.shift, show ¬ b < 0 by omega]; rfl, by rw [← Tr.run_ret h1]; exact R_int ..⟩
  case eql => exact ⟨_, by simp [eqRun, eqGuard_int, binOp, Op.intCmp]; rfl, by rw [← Tr.run_ret h]; exact R_prop ..⟩
  case neq => exact ⟨_, by simp [eqRun, eqGuard_int, binOp, Op.intCmp]; rfl, by rw [← Tr.run_ret h]; exact R_prop ..⟩
  case lss => exact ⟨_, by simp [eqRun, eqGuard_int, binOp, Op.intCmp]; rfl, by rw [← Tr.run_ret h]; exact R_prop ..⟩
  case leq => exact ⟨_, by simp [eqRun, eqGuard_int, binOp, Op.intCmp]; rfl, by rw [← Tr.run_ret h]; exact R_prop ..⟩
  case gtr => exact ⟨_, by simp [eqRun, eqGuard_int, binOp, Op.intCmp]; rfl, by rw [← Tr.run_ret h]; exact R_prop ..⟩
  case geq => exact ⟨_, by simp [eqRun, eqGuard_int, binOp, Op.intCmp]; rfl, by rw [← Tr.run_ret h]; exact R_prop ..⟩
theorem bin_str {E : Env} {op : BinOp} {t : Nat} {x y : Operand} {a b : List UInt8} {w : World} {st : Stab} {ρ : Nat → Loc} {v : AV}
    (h : (bin E op t (.str a) (.str b)).run = some v) :
    ∃ val, (eqRun op t x y (.string ⟨a.toArray⟩) (.string ⟨b.toArray⟩)).run E.P w = .ok val w ∧ R3 w st ρ v val := by
  cases op <;> simp only [bin] at h
  all_goals first | exact (Tr.run_fail h).elim | skip
  case add =>
    obtain ⟨h0, h1⟩ := Tr.run_need h
    rw [← Tr.run_ret h1]
    refine ⟨.string ⟨(a ++ b).toArray⟩, ?_, R_str ..⟩
    have hs : ¬ (((⟨a.toArray⟩ : ByteArray).size + (⟨b.toArray⟩ : ByteArray).size : Nat) : Int) > IntKind.i64.max := by
      simp [ByteArray.size, IntKind.max, IntKind.signed, IntKind.bits]; omega
    simp only [eqRun, Sem.run_bind, eqGuard_str, Result.andThen_ok, binOp_string_add, Op.stringOp]
    rw [if_neg hs]
    simp only [Sem.run_pure]
    congr 2
  case eql => exact ⟨_, by simp [eqRun, eqGuard_str, binOp_string_eql, bytes_eq]; rfl, by rw [← Tr.run_ret h]; exact R_prop ..⟩
  case neq => exact ⟨_, by simp [eqRun, eqGuard_str, binOp_string_neq, bytes_eq]; rfl, by rw [← Tr.run_ret h]; exact R_prop ..⟩
  case lss => exact ⟨_, by simp [eqRun, eqGuard_str, binOp_string_lss]; rfl, by rw [← Tr.run_ret h]; exact R_prop ..⟩
theorem R3_agg {w : World} {st : Stab} {ρ : Nat → Loc} {l : List AV} {v : Value} (h : R3 w st ρ (.agg l) v) : ∃ cs : List Value, v = .agg cs.toArray ∧ All2 (R1 w st ρ) l cs ∧ ∀ x ∈ cs, x.oneCell' = true := h
theorem R3_ifc {w : World} {st : Stab} {ρ : Nat → Loc} {t : Nat} {a : AV} {v : Value} (h : R3 w st ρ (.ifc t a) v) : ∃ x, v = .iface t x ∧ R1 w st ρ a x := h
theorem equal_nil_iface {P : Program} {t : Nat} {m : Array (String × TypeId)} (h : P.underlying t = some (.interface m)) (u : Nat) (z : Value) (w : World) : (Op.equal t .nilIface (.iface u z)).run P w = .ok false w := by
  have h0 : ∀ d, (Op.equalIn (d + 1) t .nilIface (.iface u z)).run P w = .ok false w := fun d => by simp only [Op.equalIn, Sem.run_bind, run_underlying h, Result.andThen_ok, Sem.run_pure]
  exact h0 9999
theorem equal_iface_nil {P : Program} {t : Nat} {m : Array (String × TypeId)} (h : P.underlying t = some (.interface m)) (u : Nat) (z : Value) (w : World) : (Op.equal t (.iface u z) .nilIface).run P w = .ok false w := by
  have h0 : ∀ d, (Op.equalIn (d + 1) t (.iface u z) .nilIface).run P w = .ok false w := fun d => by simp only [Op.equalIn, Sem.run_bind, run_underlying h, Result.andThen_ok, Sem.run_pure]
  exact h0 9999
theorem equal_nil_nil {P : Program} {t : Nat} {m : Array (String × TypeId)} (h : P.underlying t = some (.interface m)) (w : World) : (Op.equal t .nilIface .nilIface).run P w = .ok true w := by
  have h0 : ∀ d, (Op.equalIn (d + 1) t .nilIface .nilIface).run P w = .ok true w := fun d => by simp only [Op.equalIn, Sem.run_bind, run_underlying h, Result.andThen_ok, Sem.run_pure]
  exact h0 9999
theorem equal_bools {P : Program} {t : Nat} (h : P.underlying t = some .bool) (a b : Bool) (w : World) : (Op.equal t (.bool a) (.bool b)).run P w = .ok (a == b) w := by
  have h0 : ∀ d, (Op.equalIn (d + 1) t (.bool a) (.bool b)).run P w = .ok (a == b) w := fun d => by simp only [Op.equalIn, Sem.run_bind, run_underlying h, Result.andThen_ok, Sem.run_pure]
  exact h0 9999
theorem bin_sound {E : Env} (hE : EnvOk E) {op : BinOp} {t : Nat} {x y : Operand} {a b : AV} {va vb : Value} {w : World} {st : Stab} {ρ : Nat → Loc} {v : AV}
    (ha : R3 w st ρ a va) (hb : R3 w st ρ b vb) (hnn : isNilI a = true → isNilI b = true → (cst x || cst y) = true) (h : (bin E op t a b).run = some v) :
    ∃ val, (eqRun op t x y va vb).run E.P w = .ok val w ∧ R3 w st ρ v val := by
  unfold bin at h
  split at h
  · rw [R3_int ha, R3_int hb]; exact bin_int h
  · rw [R3_str ha, R3_str hb]; exact bin_str h
  · rename_i l l'
    obtain ⟨cs, rfl, hcs, _⟩ := R3_agg ha
    obtain ⟨ds, rfl, hds, _⟩ := R3_agg hb
    split at h
    · rename_i sh hlk
      have hlaw := hE.eq _ (look_mem hlk)
      cases hs : (shapeIs sh l && shapeIs sh l') with
      | false => rw [hs] at h; exact (Tr.run_fail h).elim
      | true =>
        rw [hs] at h
        simp only [Bool.and_eq_true] at hs
        rw [eqCells_vals hs.1 hcs, eqCells_vals hs.2 hds]
        simp only [cond_true] at h
        split at h
        · rename_i r hr
          exact ⟨_, (hlaw x y w l l' r hs.1 hs.2 hr).1, by rw [← Tr.run_ret h]; exact R_prop ..⟩
        · rename_i r hr
          exact ⟨_, (hlaw x y w l l' r hs.1 hs.2 hr).2, by rw [← Tr.run_ret h]; exact R_prop ..⟩
        · exact (Tr.run_fail h).elim
    · exact (Tr.run_fail h).elim
  · rw [R3_nilI ha, R3_nilI hb]
    split at h
    · obtain ⟨m, hm⟩ := kind_iface hE.tok ‹_›
      have hc := hnn rfl rfl
      exact ⟨.bool true, by cases x <;> cases y <;> first | (cases hc; done) | (simp [eqRun, eqGuard, binOp, equal_nil_nil hm]; done), by rw [← Tr.run_ret h]; exact R_bool ..⟩
    · obtain ⟨m, hm⟩ := kind_iface hE.tok ‹_›
      have hc := hnn rfl rfl
      exact ⟨.bool false, by cases x <;> cases y <;> first | (cases hc; done) | (simp [eqRun, eqGuard, binOp, equal_nil_nil hm]; done), by rw [← Tr.run_ret h]; exact R_bool ..⟩
    · exact (Tr.run_fail h).elim
  · rw [R3_nilI ha]
    obtain ⟨t', z, rfl⟩ := R3_ifS hb
    split at h
    · obtain ⟨m, hm⟩ := kind_iface hE.tok ‹_›
      exact ⟨_, by simp [eqRun, eqGuard, binOp, equal_nil_iface hm, equal_iface_nil hm]; rfl, by rw [← Tr.run_ret h]; exact R_bool ..⟩
    · obtain ⟨m, hm⟩ := kind_iface hE.tok ‹_›
      exact ⟨_, by simp [eqRun, eqGuard, binOp, equal_nil_iface hm, equal_iface_nil hm]; rfl, by rw [← Tr.run_ret h]; exact R_bool ..⟩
    · exact (Tr.run_fail h).elim
  · rw [R3_nilI hb]
    obtain ⟨t', z, rfl⟩ := R3_ifS ha
    split at h
    · obtain ⟨m, hm⟩ := kind_iface hE.tok ‹_›
      exact ⟨_, by simp [eqRun, eqGuard, binOp, equal_nil_iface hm, equal_iface_nil hm]; rfl, by rw [← Tr.run_ret h]; exact R_bool ..⟩
    · obtain ⟨m, hm⟩ := kind_iface hE.tok ‹_›
      exact ⟨_, by simp [eqRun, eqGuard, binOp, equal_nil_iface hm, equal_iface_nil hm]; rfl, by rw [← Tr.run_ret h]; exact R_bool ..⟩
    · exact (Tr.run_fail h).elim
  · rw [R3_nilI ha]
    obtain ⟨z, rfl, _⟩ := R3_ifc hb
    split at h
    · obtain ⟨m, hm⟩ := kind_iface hE.tok ‹_›
      exact ⟨_, by simp [eqRun, eqGuard, binOp, equal_nil_iface hm, equal_iface_nil hm]; rfl, by rw [← Tr.run_ret h]; exact R_bool ..⟩
    · obtain ⟨m, hm⟩ := kind_iface hE.tok ‹_›
      exact ⟨_, by simp [eqRun, eqGuard, binOp, equal_nil_iface hm, equal_iface_nil hm]; rfl, by rw [← Tr.run_ret h]; exact R_bool ..⟩
    · exact (Tr.run_fail h).elim
  · rw [R3_nilI hb]
    obtain ⟨z, rfl, _⟩ := R3_ifc ha
    split at h
    · obtain ⟨m, hm⟩ := kind_iface hE.tok ‹_›
      exact ⟨_, by simp [eqRun, eqGuard, binOp, equal_nil_iface hm, equal_iface_nil hm]; rfl, by rw [← Tr.run_ret h]; exact R_bool ..⟩
    · obtain ⟨m, hm⟩ := kind_iface hE.tok ‹_›
      exact ⟨_, by simp [eqRun, eqGuard, binOp, equal_nil_iface hm, equal_iface_nil hm]; rfl, by rw [← Tr.run_ret h]; exact R_bool ..⟩
    · exact (Tr.run_fail h).elim
  · rename_i a b
    rw [R3_prop ha, R3_prop hb]
    split at h
    · have hm := kind_bool hE.tok ‹_›
      exact ⟨.bool (a == b), by simp [eqRun, eqGuard, binOp, equal_bools hm], by rw [← Tr.run_ret h]; exact R_prop ..⟩
    · have hm := kind_bool hE.tok ‹_›
      exact ⟨.bool (a != b), by simp [eqRun, eqGuard, binOp, equal_bools hm, bne], by rw [← Tr.run_ret h]; exact R_prop ..⟩
    · exact (Tr.run_fail h).elim
  · exact (Tr.run_fail h).elim
theorem un_sound {E : Env} {op : UnOp} {a : AV} {va : Value} {w : World} {st : Stab} {ρ : Nat → Loc} {v : AV}
    (ha : R3 w st ρ a va) (h : (un op a).run = some v) : ∃ val, (Op.unary op va).run E.P w = .ok val w ∧ R3 w st ρ v val := by
  unfold un at h
  split at h
  · rw [R3_bool ha]
    cases op <;> first | exact (Tr.run_fail h).elim | exact ⟨_, rfl, by rw [← Tr.run_ret h]; exact R_bool ..⟩
  · rw [R3_prop ha]
    cases op <;> first | exact (Tr.run_fail h).elim | exact ⟨_, rfl, by rw [← Tr.run_ret h]; exact R_prop ..⟩
  · rw [R3_int ha]
    cases op <;> first | exact (Tr.run_fail h).elim | exact ⟨_, rfl, by rw [arith_sound h]; exact R_int ..⟩
  · exact (Tr.run_fail h).elim
theorem R_asProp {w : World} {st : Stab} {ρ : Nat → Loc} {a : AV} {v : Value} (h : R3 w st ρ a v) : R3 w st ρ (asProp a) v := by
  cases a <;> first | exact h | skip
  rw [R3_bool h]; exact R_prop ..
theorem pick_sound {P : Program} {c a b : AV} {vc va vb : Value} {w : World} {st : Stab} {ρ : Nat → Loc} {v : AV}
    (hc : R3 w st ρ c vc) (ha : R3 w st ρ a va) (hb : R3 w st ρ b vb) (h : (pickV c a b).run = some v) :
    ∃ val, (do pure (.value (if ← asBool vc then va else vb)) : Sem Next).run P w = .ok (.value val) w ∧ R3 w st ρ v val := by
  unfold pickV at h
  split at h
  · rename_i t
    rw [R3_bool hc]
    cases t
    · exact ⟨vb, by simp [asBool], by rw [← Tr.run_ret h]; exact hb⟩
    · exact ⟨va, by simp [asBool], by rw [← Tr.run_ret h]; exact ha⟩
  · rename_i t
    rw [R3_prop hc]
    cases t
    · exact ⟨vb, by simp [asBool], by simp [Tr.run] at h; rw [← h]; exact R_asProp hb⟩
    · exact ⟨va, by simp [asBool], by simp [Tr.run] at h; rw [← h]; exact R_asProp ha⟩
  · exact (Tr.run_fail h).elim
end Go.Eng
end
