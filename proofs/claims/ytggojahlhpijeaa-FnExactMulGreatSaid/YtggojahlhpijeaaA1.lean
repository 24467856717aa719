/- A machine of values beside the model's own: what an operation of the program computes, told without the model's memory. No condition. -/
import Derived.Calls
import Derived.Orders
import Derived.Below
import Derived.Deep.AppendSrc
import Derived.Laws.MakeOwn
import Derived.Laws.Cells
import Derived.KernelRfl
namespace Go.Proofs.YtggojahlhpijeaaA
open Go Go.RowKit

/-- Values: a slice that is read alone is a list (sl); one that the call owns lies in its store (ref). -/
inductive AV where
  | b (x : Bool)
  | i (k : IntKind) (n : Int)
  | s (x : ByteArray)
  | raw (v : Value)
  | sl (full : Bool) (n : Nat) (cs : List AV)
  | ref (id sz off n : Nat)
  | ptr (id off : Nat)
  | fad (cs : List AV)
  | agg (cs : List AV)
  | tup (cs : List AV)
  | fn (f : Fn) (first cap : List AV)
  deriving Inhabited

abbrev Store := List (Option (List AV))

/-- The state: the temporaries, the store, which blocks are frozen. -/
structure St where
  t : List AV
  S : Store
  z : Nat → Bool

def AV.undef : AV := .tup []

def AV.cells : AV → List AV
  | .agg cs => cs
  | v => [v]

def AV.one : AV → Bool
  | .agg _ | .tup _ => false
  | .raw v => v.oneCell'
  | _ => true

/-- No constant that the other machine does not take apart. -/
def AV.okc : AV → Bool
  | .raw v => v.oneCell'
  | _ => true

def ofC : Value → AV
  | .bool x => .b x
  | .int k n => .i k n
  | .string s => .s s
  | .slice none 0 0 => .sl true 0 []
  | v => .raw v

def ofConst : Value → AV
  | .agg cs => .agg (cs.toList.map ofC)
  | v => ofC v

def evalT (t : List AV) : Operand → AV
  | .tmp n => t.getD n .undef
  | .const v => ofConst v
  | .global g => .raw (.pointer (some ⟨g, 0, none⟩))
  | .func f => .fn (.func f) [] []

def putD (t : List AV) (d : Option Tmp) (v : AV) : List AV :=
  match d with
  | some d => t.set d v
  | none => t

/-- The kinds of cells that are compared. -/
inductive CK where
  | b | i | s

/-- What is said of a type. -/
inductive TD where
  | bool | int (k : IntKind) | str | slice (e : TypeId) | struct (fs : List (Nat × Nat × Bool)) (eq : Option (List CK)) | array (n : Nat) (e : TypeId) | other
  deriving Inhabited

structure TI where
  d : TD
  size : Nat
  bytes : Nat
  zero : List AV

def TI.agg (x : TI) : Bool :=
  match x.d with
  | .struct .. | .array .. => true
  | _ => false

abbrev TT := TypeId → Option TI

/-- The cells of a value of a type out of those that begin here. -/
def rd (x : TI) (cs : List AV) : Option AV :=
  if x.agg then (if x.size ≤ cs.length then some (.agg (cs.take x.size)) else none) else cs.head?

def aload (S : Store) (x : TI) : AV → Option AV
  | .ptr id off => match S.getD id none with
    | some cs => rd x (cs.drop off)
    | none => none
  | .fad cs => rd x cs
  | _ => none

def setAt {α : Type} : List α → Nat → List α → List α
  | cs, _, [] => cs
  | cs, o, v :: vs => setAt (cs.set o v) (o + 1) vs

def astore (S : Store) (z : Nat → Bool) (x : TI) (a v : AV) : Option Store :=
  match a with
  | .ptr id off => match S.getD id none with
    | some cs => if z id = false ∧ v.cells.length = x.size ∧ off + x.size ≤ cs.length ∧ v.cells.all AV.one = true then some (S.set id (some (setAt cs off v.cells))) else none
    | none => none
  | _ => none

def aeqc : CK → AV → AV → Option Bool
  | .b, .b x, .b y => some (x == y)
  | .i, .i k x, .i k' y => if k = k' then some (decide (x = y)) else none
  | .s, .s x, .s y => some (decide (x = y))
  | _, _, _ => none

def aeqs : List CK → List AV → List AV → Option Bool
  | [], [], [] => some true
  | k :: ks, x :: xs, y :: ys => match aeqc k x y with
    | some a => match aeqs ks xs ys with
      | some b => some (a && b)
      | none => none
    | none => none
  | _, _, _ => none

def abinI (op : BinOp) (k : IntKind) (a b : Int) : Option AV :=
  match op with
  | .add => some (.i k (k.wrap (a + b)))
  | .sub => some (.i k (k.wrap (a - b)))
  | .mul => some (.i k (k.wrap (a * b)))
  | .quo => if b = 0 then none else some (.i k (k.wrap (a.tdiv b)))
  | .rem => if b = 0 then none else some (.i k (a.tmod b))
  | .and => some (.i k (k.wrap (BitVec.ofInt k.bits a &&& BitVec.ofInt k.bits b).toNat))
  | .or => some (.i k (k.wrap (BitVec.ofInt k.bits a ||| BitVec.ofInt k.bits b).toNat))
  | .xor => some (.i k (k.wrap (BitVec.ofInt k.bits a ^^^ BitVec.ofInt k.bits b).toNat))
  | .andNot => some (.i k (k.wrap (BitVec.ofInt k.bits a &&& ~~~ BitVec.ofInt k.bits b).toNat))
  | .eql => some (.b (decide (a = b)))
  | .neq => some (.b (!decide (a = b)))
  | .lss => some (.b (decide (a < b)))
  | .leq => some (.b (decide (a ≤ b)))
  | .gtr => some (.b (decide (b < a)))
  | .geq => some (.b (decide (b ≤ a)))
  | _ => none

def ashift (op : BinOp) (k : IntKind) (a : Int) (n : Int) : Option AV :=
  if n < 0 then none else
  match op with
  | .shl => some (.i k (k.wrap (a * 2 ^ (min n.toNat k.bits))))
  | .shr => some (.i k (a.fdiv (2 ^ (min n.toNat k.bits))))
  | _ => none

def abinS (op : BinOp) (a b : ByteArray) : Option AV :=
  match op with
  | .add => if a.size + b.size ≤ 9223372036854775807 then some (.s (a ++ b)) else none
  | .eql => some (.b (decide (a = b)))
  | .neq => some (.b (!decide (a = b)))
  | _ => none

def abin (T : TT) (op : BinOp) (t : TypeId) : AV → AV → Option AV
  | .i k a, .i k' b =>
    match op with
    | .shl => ashift .shl k a b
    | .shr => ashift .shr k a b
    | op => if k = k' then abinI op k a b else none
  | .s a, .s b => abinS op a b
  | .b x, .b y => match T t with
    | some ⟨.bool, _, _, _⟩ => match op with
      | .eql => some (.b (x == y))
      | .neq => some (.b (!(x == y)))
      | _ => none
    | _ => none
  | .agg xs, .agg ys => match T t with
    | some ⟨.struct _ (some ks), _, _, _⟩ => match aeqs ks xs ys with
      | some r => match op with
        | .eql => some (.b r)
        | .neq => some (.b (!r))
        | _ => none
      | none => none
    | _ => none
  | _, _ => none

def aun (op : UnOp) : AV → Option AV
  | .i k n => match op with
    | .neg => some (.i k (k.wrap (0 - n)))
    | .xor => some (.i k (k.wrap (BitVec.ofInt k.bits (if k.signed then -1 else k.max) ^^^ BitVec.ofInt k.bits n).toNat))
    | _ => none
  | .b x => match op with
    | .not => some (.b !x)
    | _ => none
  | _ => none

def bytesOf (x : ByteArray) : List AV := x.data.toList.map fun b => .i .u8 b.toNat

def toBytes : List AV → Option (List UInt8)
  | [] => some []
  | .i .u8 n :: r => match toBytes r with
    | some l => some (UInt8.ofNat n.toNat :: l)
    | none => none
  | _ => none

/-- The cells of a slice. -/
def cellsOfSlice (S : Store) (sz : Nat) : AV → Option (Nat × List AV)
  | .sl _ n cs => if n * sz = cs.length then some (n, cs) else none
  | .ref id sz' off n => match S.getD id none with
    | some cs => if sz' = sz ∧ off + n * sz ≤ cs.length then some (n, (cs.drop off).take (n * sz)) else none
    | none => none
  | _ => none

def partA (off sz : Nat) (ag : Bool) (cs : List AV) : Option AV :=
  if ag then (if off + sz ≤ cs.length then some (.agg ((cs.drop off).take sz)) else none) else cs[off]?

def fillA (place : Nat → Option (Nat × Nat)) (cells : List AV) : List (Nat × AV) → Option (List AV)
  | [] => some cells
  | (i, v) :: rest => match place i with
    | some (off, size) => if v.okc = true ∧ v.cells.length = size ∧ off + size ≤ cells.length then fillA place (setAt cells off v.cells) rest else none
    | none => none

def asl (T : TT) (t : TypeId) (x lo : AV) (hi mx : Option AV) : Option AV :=
  match x, lo with
  | .s s, .i _ l => match T t with
    | some ⟨.str, _, _, _⟩ => match hi, mx with
      | some (.i _ h), none => if 0 ≤ l ∧ l ≤ h ∧ h ≤ (s.size : Int) then some (.s (s.extract l.toNat h.toNat)) else none
      | none, none => if 0 ≤ l ∧ l ≤ (s.size : Int) then some (.s (s.extract l.toNat s.size)) else none
      | _, _ => none
    | _ => none
  | .sl full n cs, .i _ l => match T t with
    | some ⟨.slice e, _, _, _⟩ => match T e with
      | some x => match hi, mx with
        | some (.i _ h), none => if 0 ≤ l ∧ l ≤ h ∧ h ≤ (n : Int) ∧ n * x.size = cs.length then some (.sl (full && decide (h.toNat = n)) (h.toNat - l.toNat) ((cs.drop (l.toNat * x.size)).take ((h.toNat - l.toNat) * x.size))) else none
        | none, none => if 0 ≤ l ∧ l ≤ (n : Int) ∧ n * x.size = cs.length then some (.sl full (n - l.toNat) (cs.drop (l.toNat * x.size))) else none
        | some (.i _ h), some (.i _ m) => if 0 ≤ l ∧ l ≤ h ∧ h = m ∧ m ≤ (n : Int) then some (.sl true (h.toNat - l.toNat) ((cs.drop (l.toNat * x.size)).take ((h.toNat - l.toNat) * x.size))) else none
        | _, _ => none
      | none => none
    | _ => none
  | .ref id sz off n, .i _ l => match T t with
    | some ⟨.slice e, _, _, _⟩ => match T e with
      | some x => if sz = x.size then match hi, mx with
        | some (.i _ h), none => if 0 ≤ l ∧ l ≤ h ∧ h ≤ (n : Int) then some (.ref id sz (off + l.toNat * x.size) (h.toNat - l.toNat)) else none
        | none, none => if 0 ≤ l ∧ l ≤ (n : Int) then some (.ref id sz (off + l.toNat * x.size) (n - l.toNat)) else none
        | _, _ => none
        else none
      | none => none
    | _ => none
  | _, _ => none

/-- What only computes: it neither reads the store nor writes to it. -/
def apure (T : TT) (ρ : Operand → AV) : Op → Option AV
  | .move x => some (ρ x)
  | .assign x => some (ρ x)
  | .pick c a b => match ρ c with
    | .b c => some (if c = true then ρ a else ρ b)
    | _ => none
  | .build t ps => match T t with
    | some ⟨.struct fs _, _, _, zero⟩ => (fillA (fun j => (fs[j]?).map fun f => (f.1, f.2.1)) zero (ps.toList.map fun p => (p.1, ρ p.2))).map .agg
    | some ⟨.array _ e, _, _, zero⟩ => match T e with
      | some x => (fillA (fun j => some (j * x.size, x.size)) zero (ps.toList.map fun p => (p.1, ρ p.2))).map .agg
      | none => none
    | _ => none
  | .nilCheck x => match ρ x with
    | .ptr id off => some (.ptr id off)
    | .fad cs => some (.fad cs)
    | .fn (.func f) a c => some (.fn (.func f) a c)
    | _ => none
  | .binOp op t x y _ => abin T op t (ρ x) (ρ y)
  | .unOp op _ x => aun op (ρ x)
  | .makeFunc (.func f) first cap => some (.fn (.func f) (first.toList.map ρ) (cap.toList.map ρ))
  | .slice t x lo hi mx => asl T t (ρ x) ((lo.map ρ).getD (.i .i64 0)) (hi.map ρ) (mx.map ρ)
  | .fieldAddr t x f => match T t with
    | some ⟨.struct fs _, _, _, _⟩ => match fs[f]? with
      | some (o, sz, _) => if sz = 0 then none else match ρ x with
        | .ptr id off => some (.ptr id (off + o))
        | .fad cs => some (.fad (cs.drop o))
        | _ => none
      | none => none
    | _ => none
  | .field t x f => match T t with
    | some ⟨.struct fs _, _, _, _⟩ => match fs[f]? with
      | some (o, sz, ag) => match ρ x with
        | .agg cs => if sz = 0 then none else partA o sz ag cs
        | _ => none
      | none => none
    | _ => none
  | .indexAddr t x ix => match ρ ix with
    | .i _ i => match T t with
      | some ⟨.slice e, _, _, _⟩ => match T e with
        | some y => match ρ x with
          | .sl _ n cs => if 0 ≤ i ∧ i < (n : Int) ∧ i.toNat * y.size < cs.length then some (.fad (cs.drop (i.toNat * y.size))) else none
          | .ref id sz off n => if sz = y.size ∧ 0 < sz ∧ 0 ≤ i ∧ i < (n : Int) then some (.ptr id (off + i.toNat * y.size)) else none
          | _ => none
        | none => none
      | some ⟨.array n e, _, _, _⟩ => match T e with
        | some y => match ρ x with
          | .ptr id off => if 0 ≤ i ∧ i < (n : Int) then some (.ptr id (off + i.toNat * y.size)) else none
          | .fad cs => if 0 ≤ i ∧ i < (n : Int) then some (.fad (cs.drop (i.toNat * y.size))) else none
          | _ => none
        | none => none
      | _ => none
    | _ => none
  | .index t x ix => match ρ ix with
    | .i _ i => match ρ x with
      | .s s => match T t with
        | some ⟨.str, _, _, _⟩ => if 0 ≤ i then match s[i.toNat]? with
          | some b => some (.i .u8 b.toNat)
          | none => none
          else none
        | _ => none
      | .agg cs => match T t with
        | some ⟨.array n e, _, _, _⟩ => match T e with
          | some y => if 0 ≤ i ∧ i < (n : Int) then partA (i.toNat * y.size) y.size y.agg cs else none
          | none => none
        | _ => none
      | _ => none
    | _ => none
  | .extract x j => match ρ x with
    | .tup vs => vs[j]?
    | _ => none
  | .buildSlice t n ps => match T t with
    | some ⟨.slice e, _, _, _⟩ => match T e with
      | some x => if n * x.size ≤ 16777216 then match fillA (fun j => some (j * x.size, x.size)) (List.replicate n x.zero).flatten (ps.toList.map fun p => (p.1, ρ p.2)) with
        | some cs => if cs.length = n * x.size ∧ x.zero.length = x.size ∧ cs.all (fun c => match c with | .b _ | .i _ _ | .s _ | .sl _ _ _ => true | _ => false) = true then some (.sl true n cs) else none
        | none => none
        else none
      | none => none
    | _ => none
  | _ => none

/-- An operation that is no call: the value, and the store behind it. -/
def astep (T : TT) (ρ : Operand → AV) (S : Store) (z : Nat → Bool) : Op → Option (AV × Store)
  | .load t a => match T t with
    | some x => (aload S x (ρ a)).map (·, S)
    | none => none
  | .alloc t => match T t with
    | some x => some (.ptr S.length 0, S ++ [some x.zero])
    | none => none
  | .box _ v => if (ρ v).okc = true then some (.ptr S.length 0, S ++ [some (ρ v).cells]) else none
  | .store t a v => match T t with
    | some x => (astore S z x (ρ a) (ρ v)).map (.undef, ·)
    | none => none
  | .makeSlice t l c => match ρ l, ρ c with
    | .i _ l, .i _ c => match T t with
      | some ⟨.slice e, _, _, _⟩ => match T e with
        | some x => if 0 ≤ l ∧ l ≤ c ∧ c * x.bytes ≤ 281474976710656 ∧ c ≤ 9223372036854775807 ∧ x.zero.length = x.size then some (.ref S.length x.size 0 l.toNat, S ++ [some (List.replicate l.toNat x.zero).flatten]) else none
        | none => none
      | _ => none
    | _, _ => none
  | .convert s t x => match T s, T t with
    | some a, some c => match a.d, c.d, ρ x with
      | .int _, .int k, .i _ n => some (.i k (k.wrap n), S)
      | .str, .str, .s v => some (.s v, S)
      | .str, .slice e, .s v => match T e with
        | some ⟨.int .u8, 1, _, _⟩ => some (.ref S.length 1 0 v.size, S ++ [some (bytesOf v)])
        | _ => none
      | .slice e, .str, v => match T e with
        | some ⟨.int .u8, 1, _, _⟩ => match cellsOfSlice S 1 v with
          | some (_, cs) => (toBytes cs).map fun l => (.s ⟨l.toArray⟩, S)
          | none => none
        | _ => none
      | _, _, _ => none
    | _, _ => none
  | op => (apure T ρ op).map (·, S)

/-- A cell that holds no part of the store. -/
def AV.closed : AV → Bool
  | .b _ | .i _ _ | .s _ | .raw _ | .sl _ _ _ => true
  | _ => false

def AV.nf : AV → AV
  | .sl _ n cs => .sl false n cs
  | v => v

def mapO {α β : Type} (f : α → Option β) : List α → Option (List β)
  | [] => some []
  | x :: xs => match f x with
    | some y => match mapO f xs with
      | some ys => some (y :: ys)
      | none => none
    | none => none

/-- A value with what it shows of the store written out. -/
def deep (S : Store) : Nat → AV → Option AV
  | 0, _ => none
  | d + 1, v => match v with
    | .ref id sz off n => match S.getD id none with
      | some cs => if off + n * sz ≤ cs.length ∧ cs.all AV.closed = true then some (.sl false n (((cs.drop off).take (n * sz)).map AV.nf)) else none
      | none => none
    | .agg cs => (mapO (deep S d) cs).map .agg
    | .tup cs => (mapO (deep S d) cs).map .tup
    | .fn f a c => match mapO (deep S d) a, mapO (deep S d) c with
      | some a, some c => some (.fn f a c)
      | _, _ => none
    | .ptr _ _ | .fad _ => none
    | v => some v.nf

def flat : Nat → AV → Bool
  | 0, _ => false
  | d + 1, v => match v with
    | .b _ | .i _ _ | .s _ => true
    | .agg cs | .tup cs => cs.all (flat d)
    | _ => false

def refs : Nat → AV → List Nat
  | 0, _ => []
  | d + 1, v => match v with
    | .ref id _ _ _ => [id]
    | .agg cs | .tup cs => cs.flatMap (refs d)
    | .fn _ a c => a.flatMap (refs d) ++ c.flatMap (refs d)
    | _ => []

def frz (z : Nat → Bool) (l : List Nat) : Nat → Bool := l.foldl (fun z a => fun k => z k || k == a) z

def amax (a b : Int) : Int := if a < b then b else a
def amin (a b : Int) : Int := if b < a then b else a

/-- What is appended: how many, and the cells. -/
def asrc (T : TT) (S : Store) (sz : Nat) (tx : TypeId) (x : AV) : Option (Nat × List AV) :=
  match T tx with
  | some ⟨.slice _, _, _, _⟩ => cellsOfSlice S sz x
  | some ⟨.str, _, _, _⟩ => match x with
    | .s v => if sz = 1 then some (v.size, bytesOf v) else none
    | _ => none
  | _ => none

/-- append onto cells y of a kind: d and the cells news, m elements. -/
def aappend (S : Store) (z : Nat → Bool) (y : TI) (m : Nat) (news : List AV) : AV → Option (AV × Store)
  | .sl true 0 [] => if m = 0 then some (.sl true 0 [], S) else if m ≤ 1073741824 then some (.ref S.length y.size 0 m, S ++ [some news]) else none
  | .sl true n cs => if n * y.size = cs.length ∧ 0 < m ∧ n + m ≤ 1073741824 then some (.ref S.length y.size 0 (n + m), S ++ [some (cs ++ news)]) else none
  | .ref id sz off n => match S.getD id none with
    | some cs => if sz = y.size ∧ z id = false ∧ off + n * sz = cs.length ∧ n + m ≤ 1073741824 then
      (if m = 0 then some (.ref id sz off n, S) else some (.ref S.length sz 0 (n + m), S.set id none ++ [some (cs.drop off ++ news)])) else none
    | none => none
  | _ => none

/-- A built-in function: the value, and the store behind it. -/
def abuiltin (T : TT) (S : Store) (z : Nat → Bool) (b : Builtin) (ts : List TypeId) (args : List AV) : Option (AV × Store) :=
  match b, ts, args with
  | .len, [t], [x] => match T t with
    | some ⟨.str, _, _, _⟩ => match x with
      | .s x => some (.i .i64 x.size, S)
      | _ => none
    | some ⟨.slice _, _, _, _⟩ => match x with
      | .sl _ n _ => some (.i .i64 n, S)
      | .ref _ _ _ n => some (.i .i64 n, S)
      | _ => none
    | _ => none
  | .max, _, [.i k x, .i _ y] => some (.i k (amax x y), S)
  | .min, _, [.i k x, .i _ y] => some (.i k (amin x y), S)
  | .append, [td, tx], [d, x] => match T td with
    | some ⟨.slice e, _, _, _⟩ => match T e with
      | some y => if 0 < y.size ∧ y.bytes ≤ 1024 ∧ y.zero.length = y.size then
        match asrc T S y.size tx x with
        | some (m, news) => if news.all AV.one = true then aappend S z y m news d else none
        | none => none
        else none
      | none => none
    | _ => none
  | _, _, _ => none

def awanted (ops : Array Oper) (o : Oper) (t : List AV) : Bool :=
  match o.guard with
  | none => true
  | some (g, want) => match (ops[g]?).bind (·.dst) with
    | some d => match t.getD d .undef with
      | .b x => x == want
      | _ => false
    | none => false
end Go.Proofs.YtggojahlhpijeaaA
