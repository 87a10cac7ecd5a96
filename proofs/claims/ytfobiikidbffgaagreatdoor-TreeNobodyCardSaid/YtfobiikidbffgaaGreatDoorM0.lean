/- Mini, part 0: an abstract machine for the model's code: objects instead of blocks, no tape. Definitions only. -/
import Derived.Calls
import Derived.Scope
import Derived.Still
import Derived.Recover
import Derived.Laws.BytesString
import Derived.Laws.Externs
import Derived.Room.Entries
import Derived.Lib.BytesEntry
import Derived.Deep.AppendSrc
namespace Go.Mini
noncomputable section

/-! ### Maps from numbers -/
inductive BM (α : Type) where
  | e
  | n (v : Option α) (l r : BM α)

/- maps -/
def gAt {α : Type} (v : Option α) (l r : Nat → Option α) (i : Nat) : Option α :=
  match Nat.beq i 0 with
  | true => v
  | false =>
    match Nat.beq (Nat.mod i 2) 1 with
    | true => l (Nat.div i 2)
    | false => r (Nat.sub (Nat.div i 2) 1)

def BM.get {α : Type} (t : BM α) : Nat → Option α :=
  BM.rec (motive := fun _ => Nat → Option α) (fun _ => none) (fun v _ _ gl gr => gAt v gl gr) t

def sE {α : Type} (set : BM α → Nat → Option α → BM α) (i : Nat) (v : Option α) : BM α :=
  match Nat.beq i 0 with
  | true => .n v .e .e
  | false =>
    match Nat.beq (Nat.mod i 2) 1 with
    | true => .n none (set .e (Nat.div i 2) v) .e
    | false => .n none .e (set .e (Nat.sub (Nat.div i 2) 1) v)

def sN {α : Type} (set : BM α → Nat → Option α → BM α) (u : Option α) (l r : BM α) (i : Nat) (v : Option α) : BM α :=
  match Nat.beq i 0 with
  | true => .n v l r
  | false =>
    match Nat.beq (Nat.mod i 2) 1 with
    | true => .n u (set l (Nat.div i 2) v) r
    | false => .n u l (set r (Nat.sub (Nat.div i 2) 1) v)

def BM.setS {α : Type} (set : BM α → Nat → Option α → BM α) (t : BM α) (i : Nat) (v : Option α) : BM α :=
  BM.rec (motive := fun _ => BM α) (sE set i v) (fun u l r _ _ => sN set u l r i v) t

def BM.setF {α : Type} (f : Nat) : BM α → Nat → Option α → BM α :=
  Nat.rec (motive := fun _ => BM α → Nat → Option α → BM α) (fun t _ _ => t) (fun _ set => BM.setS set) f

def BM.set {α : Type} (t : BM α) (i : Nat) (v : Option α) : BM α := BM.setF (Nat.succ i) t i v

/-! ### The abstract heap -/
inductive AO where
  | cells (c : List Value) (e : TypeId)
  | map (es : List MapEntry) (clock : Nat)
  | siter (s : ByteArray) (pos : Nat)

structure AS where
  h : BM AO
  nx : Nat
  wm : Nat

def AS.get (A : AS) (i : Nat) : Option AO := A.h.get i
/-- An object is changed. -/
def AS.put (A : AS) (i : Nat) (o : AO) : AS := { A with h := A.h.set i (some o), wm := min A.wm i }
/-- An object is given up. -/
def AS.kill (A : AS) (i : Nat) : AS := { A with h := A.h.set i none, wm := min A.wm i }
/-- A new object: its number is the old nx. -/
def AS.push (A : AS) (o : AO) : AS := { A with h := A.h.set A.nx (some o), nx := A.nx + 1 }

def AS.cellsAt (A : AS) (b : Nat) : Option (List Value × TypeId) :=
  match A.get b with
  | some (.cells c e) => some (c, e)
  | _ => none

/-- n cells from an address on. -/
def AS.loadN (A : AS) (b o n : Nat) : Option (List Value) :=
  match A.cellsAt b with
  | some (c, _) => if o + n ≤ c.length then some ((c.drop o).take n) else none
  | none => none

def splice (c : List Value) (o : Nat) (vs : List Value) : List Value := c.take o ++ vs ++ c.drop (o + vs.length)

def one : Value → Bool
  | .agg _ | .tuple _ | .chan _ => false
  | _ => true

/-- What a skipped operation leaves: the model's 'undef', and nothing else. ('.tuple #[]' stands for whatever value.) -/
def skipV : Value := .chan (some 0)

def isTop : Value → Bool
  | .tuple ⟨[]⟩ | .chan _ => true
  | _ => false

def AS.storeN (A : AS) (b o : Nat) (vs : List Value) : Option AS :=
  match A.cellsAt b with
  | some (c, e) => if o + vs.length ≤ c.length && vs.all one then some (A.put b (.cells (splice c o vs) e)) else none
  | none => none

/-! ### Values without addresses -/
mutual
def plain : Value → Bool
  | .bool _ | .int _ _ | .float _ _ | .complex _ _ _ | .string _ | .nilFunc | .nilIface => true
  | .pointer a => a.isNone
  | .slice a _ _ => a.isNone
  | .map r => r.isNone
  | .chan _ => false
  | .func _ _ _ => false
  | .iface _ v => plain v
  | .agg ⟨l⟩ => plainL l
  | .tuple _ => false
def plainL : List Value → Bool
  | [] => true
  | v :: l => plain v && plainL l
end

/-- The value of what asks nothing of the world. -/
def pureVal {α : Type} (P : Program) : Sem α → Option α
  | .pure a => some a
  | .program k => pureVal P (k P)
  | .mark _ k => pureVal P k
  | _ => none

def asVal : Next → Option Value
  | .value v => some v
  | .skip => some undef
  | _ => none

/-- A capacity that is not known: at least the length. -/
def unk : Nat := 18446744073709551616

def vcells : Value → List Value
  | .agg cs => cs.toList
  | v => [v]

/-! ### The frame -/
structure Fr where
  t : BM Value
  n : Nat
  d : List Deferred

def Fr.at (fr : Fr) (t : Tmp) : Value := (fr.t.get t).getD undef

def Fr.ev (P : Program) (fr : Fr) : Operand → Value
  | .tmp t => fr.at t
  | .const v => (match plain v with | true => v | false => undef)
  | .global g => (match Nat.blt g P.globals.size with | true => .pointer (some ⟨g, 0, none⟩) | false => undef)
  | .func f => .func (.func f) #[] #[]

def Fr.put (fr : Fr) (dst : Option Tmp) (v : Value) : Fr :=
  match dst with
  | some d => (match Nat.blt d fr.n with | true => { fr with t := fr.t.set d (some v) } | false => { fr with t := fr.t.set d none })
  | none => fr

/-! ### What an operation does -/
inductive OR where
  | val (v : Value)
  | pan (v : Value)
  | dfr (d : Deferred)

inductive CR where
  | ret (v : Value)
  | pan (v : Value)

abbrev CallF := FuncId → List Value → AS → Option (CR × AS)

def isAggT (P : Program) (t : TypeId) : Option Bool :=
  match P.underlying t with
  | some (.struct _) | some (.array _ _) => some true
  | some _ => some false
  | none => none

def sizeT (P : Program) (t : TypeId) : Option Nat := (P.info? t).map (·.size)
def bytesT (P : Program) (t : TypeId) : Option Nat := (P.info? t).map (·.bytes)
def zeroT (P : Program) (t : TypeId) : Option Value :=
  match P.info? t with
  | some i =>
    match i.zero with
    | some z => if plain z then some z else none
    | none => none
  | none => none

def bytesOf : List Value → Option (List UInt8)
  | [] => some []
  | .int .u8 n :: r => (bytesOf r).map (UInt8.ofNat n.toNat :: ·)
  | _ :: _ => none

def idx (x : Value) (y : Nat) : Option Nat :=
  match x with
  | .int _ i => if 0 ≤ i ∧ i ≤ (y : Int) then some i.toNat else none
  | _ => none

def idxCap (v : Value) (len cap : Nat) : Option Nat := if cap = unk then idx v len else idx v cap
def lowOf (lo : Option Value) (h : Nat) : Option Nat :=
  match lo with
  | some v => idx v h
  | none => some 0
def highOf (hi : Option Value) (len cap : Nat) : Option Nat :=
  match hi with
  | some v => idxCap v len cap
  | none => some len

def bounds3 (lo : Option Value) (h : Option Nat) (m : Nat) : Option (Nat × Nat × Nat) :=
  match h with
  | some h => (lowOf lo h).map fun l => (l, h, m)
  | none => none

/-- The bounds of a slice expression over a slice: low, high, and the new capacity's bound, if it was typed. -/
def bounds (len : Nat) (cap : Nat) (lo hi mx : Option Value) : Option (Nat × Nat × Nat) :=
  match mx with
  | some m =>
    match idxCap m len cap, hi with
    | some m, some h => bounds3 lo (idx h m) m
    | _, _ => none
  | none => bounds3 lo (highOf hi len cap) cap

def isInt : Option TypeDesc → Bool
  | some (.int _) => true
  | _ => false

/-- A nil beside what is none. -/
def nilBeside : Option TypeDesc → Value → Value → Bool
  | some (.pointer _), .pointer (some _), .pointer none | some (.pointer _), .pointer none, .pointer (some _) => true
  | some (.interface _), .iface _ _, .nilIface | some (.interface _), .nilIface, .iface _ _ => true
  | some (.slice _), .slice (some _) _ _, .slice none _ _ | some (.slice _), .slice none _ _, .slice (some _) _ _ => true
  | some (.map _ _), .map (some _), .map none | some (.map _ _), .map none, .map (some _) => true
  | some (.func _ _ _), .func _ _ _, .nilFunc | some (.func _ _ _), .nilFunc, .func _ _ _ => true
  | _, _, _ => false

def partAt (P : Program) (t : TypeId) (cs : List Value) (off : Nat) : Option Value :=
  match isAggT P t with
  | some true =>
    match sizeT P t with
    | some n => if off + n ≤ cs.length then some (.agg ⟨(cs.drop off).take n⟩) else none
    | none => none
  | some false => cs[off]?
  | none => none

/-- An empty slice whose place is not known. -/
def emp : Value := .slice (some ⟨0, 0, some 0⟩) 0 18446744073709551616

def eqKey (P : Program) (t : TypeId) (k : Value) : List MapEntry → Nat → Option (Option (Nat × Value))
  | [], _ => some none
  | e :: es, i =>
    if plain e.key then
      match pureVal P (Op.equal t k e.key) with
      | some true => some (some (i, e.val))
      | some false => eqKey P t k es (i + 1)
      | none => none
    else none

/-- Where the field lies to which a path of embedded structs leads, and its type. -/
def pathOff (P : Program) : List FieldStep → TypeId → Nat → Option (TypeId × Nat)
  | [], t, o => some (t, o)
  | s :: rest, _, o =>
    match s.deref, P.underlying s.struct with
    | false, some (.struct fs) =>
      match fs[s.index]? with
      | some f =>
        match sizeT P f.type with
        | some n => if n = 0 then none else pathOff P rest f.type (o + f.offset)
        | none => none
      | none => none
    | _, _ => none

def methodAt (P : Program) (f : FuncId) (ptr : Bool) (path : List FieldStep) (t : TypeId) (v : Value) : Option (FuncId × Value) :=
  match path with
  | [] =>
    match ptr, P.underlying t with
    | true, some (.pointer _) => some (f, v)
    | true, _ => none
    | false, some (.pointer _) => none
    | false, some _ => some (f, v)
    | false, none => none
  | s :: rest =>
    match ptr, s.deref, v with
    | true, true, .pointer (some ⟨b, o, none⟩) =>
      match pathOff P ({ s with deref := false } :: rest) t o with
      | some (xt, o') =>
        match P.underlying xt with
        | some (.pointer _) => none
        | some _ => some (f, .pointer (some ⟨b, o', none⟩))
        | none => none
      | none => none
    | _, _, _ => none

/-- A method's function, and its receiver. -/
def methodOf (P : Program) (t : TypeId) (name : String) (v : Value) : Option (FuncId × Value) :=
  match P.info? t with
  | some i =>
    match i.methods.find? (·.name == name) with
    | some m =>
      match m.func with
      | some (f, ptr) => methodAt P f ptr m.path.toList t v
      | none => none
    | none => none
  | none => none

def appendBound : Nat := 35184372088832

/-- A row of its own for what is appended. -/
def appendNew (e : TypeId) (size bytes : Nat) (A : AS) (cells : List Value) (n : Nat) : Option (Value × AS) :=
  if n * bytes ≤ appendBound ∧ n ≤ appendBound ∧ cells.length = n * size then some (.slice (some ⟨A.nx, 0, none⟩) n unk, A.push (.cells cells e)) else none

/-- append: a row that is known to be full, or to have room; or one whose capacity is not known, which is given up. -/
def appendA (e : TypeId) (size bytes : Nat) (A : AS) (s : Value) (new : List Value) (n : Nat) : Option (Value × AS) :=
  match s with
  | .slice none 0 0 => if n = 0 then some (.slice none 0 0, A) else appendNew e size bytes A new n
  | .slice (some ⟨b, o, none⟩) len cap =>
    match A.loadN b o (len * size) with
    | none => none
    | some old =>
      if cap < unk then
        if len + n ≤ cap then (A.storeN b (o + len * size) new).map fun A' => (.slice (some ⟨b, o, none⟩) (len + n) cap, A')
        else appendNew e size bytes A (old ++ new) (len + n)
      else
        match A.cellsAt b with
        | some (_, e') =>
          if e' = e ∧ o = 0 ∧ new.all one = true then appendNew e size bytes (A.kill b) (old ++ new) (len + n) else none
        | none => none
  | _ => none

/-- The cells that are appended or copied, and how many elements they are. -/
def srcCells (size : Nat) (A : AS) (x : Value) : Option (List Value × Nat) :=
  match x with
  | .string s => if size = 1 then some (s.data.toList.map fun b => .int .u8 b.toNat, s.size) else none
  | .slice none 0 0 => some ([], 0)
  | .slice (some ⟨b, o, none⟩) n _ => (A.loadN b o (n * size)).map (·, n)
  | .slice (some ⟨0, 0, some 0⟩) 0 _ => some ([], 0)
  | _ => none

def sLen (d : Option TypeDesc) (A : AS) (x : Value) : Option Value :=
  match d, x with
  | some .string, .string s => some (goInt s.size)
  | some (.slice _), .slice _ n _ => some (goInt n)
  | some (.array n _), _ => some (goInt n)
  | some (.map _ _), .map none => some (goInt 0)
  | some (.map _ _), .map (some r) => (match A.get r with | some (.map es _) => some (goInt es.length) | _ => none)
  | _, _ => none

/-- What append's second argument stands for. -/
def appSrc (zeros : Bool) (z : Value) (size bytes : Nat) (A : AS) (x : Value) : Option (List Value × Nat) :=
  if zeros then
    match x with
    | .int .i64 n => if 0 ≤ n ∧ n * bytes ≤ appendBound ∧ n ≤ appendBound then some ((Builtin.zeroCells z.cells n.toNat).toList, n.toNat) else none
    | _ => none
  else srcCells size A x

/-- Does append's second argument stand for so many zeros? -/
def zerosOf (P : Program) (u : TypeId) : Option Bool :=
  match P.underlying u with
  | some (.int _) => some true
  | some (.slice _) => some false
  | some .string => some false
  | _ => none

def sAppend (P : Program) (t u : TypeId) (A : AS) (s x : Value) : Option (OR × AS) :=
  match P.underlying t, zerosOf P u with
  | some (.slice e), some zs =>
    match sizeT P e, bytesT P e, zeroT P e with
    | some size, some bytes, some z =>
      match appSrc zs z size bytes A x with
      | some (new, n) =>
        if (vcells z).length = size ∧ new.length = n * size ∧ new.all one = true ∧ n ≤ appendBound then (appendA e size bytes A s new n).map fun r => (.val r.1, r.2) else none
      | none => none
    | _, _, _ => none
  | _, _ => none

def sCopy (P : Program) (t : Option TypeId) (A : AS) (d x : Value) : Option (OR × AS) :=
  match t.bind P.underlying with
  | some (.slice e) =>
    match sizeT P e with
    | some size =>
      match srcCells size A x, d with
      | some _, .slice none 0 _ => some (.val (goInt 0), A)
      | some (src, m), .slice (some ⟨b, o, none⟩) n _ => (A.storeN b o (src.take (Nat.min m n * size))).map fun A' => (.val (goInt (Nat.min m n)), A')
      | _, _ => none
    | none => none
  | _ => none

def sClear (P : Program) (t : Option TypeId) (A : AS) (x : Value) : Option (OR × AS) :=
  match t.bind P.underlying, x with
  | some (.slice _), .slice none _ _ => some (.val undef, A)
  | some (.slice e), .slice (some ⟨b, o, none⟩) n _ =>
    match zeroT P e with
    | some z => (A.storeN b o (Builtin.zeroCells z.cells n).toList).map fun A' => (.val undef, A')
    | none => none
  | _, _ => none

def minI (x y : Value) : Option Value :=
  match x, y with
  | .int k a, .int _ b => some (.int k (if b < a then b else a))
  | _, _ => none
def maxI (x y : Value) : Option Value :=
  match x, y with
  | .int k a, .int _ b => some (.int k (if b > a then b else a))
  | _, _ => none

def foldO (f : Value → Value → Option Value) : Value → List Value → Option Value
  | x, [] => some x
  | x, y :: l => (f x y).bind fun z => foldO f z l

def sMinMax (f : Value → Value → Option Value) (args : List Value) : Option Value :=
  match args with
  | [] => none
  | .int k a :: l => foldO f (.int k a) l
  | _ => none

def builtinA (P : Program) (b : Builtin) (ats : Array TypeId) (A : AS) (args : List Value) : Option (OR × AS) :=
  match b, args with
  | .len, [x] => (sLen ((ats[0]?).bind P.underlying) A x).map fun v => (.val v, A)
  | .append, [s, x] => (match ats with | ⟨[t, u]⟩ => sAppend P t u A s x | _ => none)
  | .copy, [d, x] => sCopy P ats[0]? A d x
  | .clear, [x] => sClear P ats[0]? A x
  | .min, _ => (sMinMax minI args).map fun v => (.val v, A)
  | .max, _ => (sMinMax maxI args).map fun v => (.val v, A)
  | .panic, [.iface t v] => some (.pan (.iface t v), A)
  | _, _ => none

def finish (r : Option (CR × AS)) : Option (OR × AS) :=
  match r with
  | some (.ret v, A) => some (.val v, A)
  | some (.pan v, A) => some (.pan v, A)
  | none => none

def bitsI (op : BinOp) (k : IntKind) (a b : Int) : Option Value :=
  match op with
  | .and => some (.int k (k.wrap (BitVec.ofInt k.bits a &&& BitVec.ofInt k.bits b).toNat))
  | .or => some (.int k (k.wrap (BitVec.ofInt k.bits a ||| BitVec.ofInt k.bits b).toNat))
  | .xor => some (.int k (k.wrap (BitVec.ofInt k.bits a ^^^ BitVec.ofInt k.bits b).toNat))
  | .andNot => some (.int k (k.wrap (BitVec.ofInt k.bits a &&& ~~~(BitVec.ofInt k.bits b)).toNat))
  | _ => none

def arithI (op : BinOp) (k : IntKind) (a b : Int) : Option Value :=
  match op with
  | .add => some (.int k (k.wrap (a + b)))
  | .sub => some (.int k (k.wrap (a - b)))
  | .mul => some (.int k (k.wrap (a * b)))
  | .quo => if b = 0 then none else some (.int k (k.wrap (a.tdiv b)))
  | .rem => if b = 0 then none else some (.int k (a.tmod b))
  | .eql => some (.bool (a == b))
  | .neq => some (.bool (a != b))
  | .lss => some (.bool (a < b))
  | .leq => some (.bool (a ≤ b))
  | .gtr => some (.bool (a > b))
  | .geq => some (.bool (a ≥ b))
  | _ => bitsI op k a b

def intBin (op : BinOp) (k : IntKind) (a : Int) (k' : IntKind) (b : Int) : Option Value :=
  match op with
  | .shl => if b < 0 then none else some (.int k (k.wrap (a * 2 ^ (min b.toNat k.bits))))
  | .shr => if b < 0 then none else some (.int k (a.fdiv (2 ^ (min b.toNat k.bits))))
  | _ => if k = k' then arithI op k a b else none

def plainVal (v : Option Value) : Option Value :=
  match v with
  | some v => if plain v then some v else none
  | none => none

/-- Two addresses in one object. -/
def sameObj (op : BinOp) (P : Program) (t : TypeId) (x y : Value) : Option Value :=
  match P.underlying t, x, y with
  | some (.pointer e), .pointer (some ⟨b, o, none⟩), .pointer (some ⟨b', o', none⟩) =>
    match sizeT P e with
    | some n =>
      if n ≠ 0 ∧ b = b' then
        (match op with
        | .eql => some (.bool (o == o'))
        | .neq => some (.bool (!(o == o')))
        | _ => none)
      else none
    | none => none
  | _, _, _ => none

def otherBin (P : Program) (op : BinOp) (t : TypeId) (x y : Value) : Option Value :=
  match op with
  | .eql => if nilBeside (P.underlying t) x y then some (.bool false) else sameObj .eql P t x y
  | .neq => if nilBeside (P.underlying t) x y then some (.bool true) else sameObj .neq P t x y
  | _ => none

def sBin (P : Program) (op : BinOp) (t : TypeId) (xo yo : Operand) (x y : Value) : Option Value :=
  match x, y with
  | .int k a, .int k' b => intBin op k a k' b
  | _, _ => if plain x && plain y then plainVal (pureVal P (do eqGuard op t xo yo x y; binOp op t x y)) else otherBin P op t x y

def sUn (P : Program) (op : UnOp) (x : Value) : Option Value :=
  match op, x with
  | .not, .bool b => some (.bool !b)
  | _, _ => if plain x then plainVal (pureVal P (Op.unary op x)) else none

def sStr2B (P : Program) (e : TypeId) (s : ByteArray) (A : AS) : Option (OR × AS) :=
  match P.underlying e, sizeT P e with
  | some (.int .u8), some 1 => some (.val (.slice (some ⟨A.nx, 0, none⟩) s.size unk), A.push (.cells (s.data.toList.map fun b => .int .u8 b.toNat) e))
  | _, _ => none

def sB2Str (P : Program) (e : TypeId) (x : Value) (A : AS) : Option (OR × AS) :=
  match P.underlying e with
  | some (.int .u8) =>
    match x with
    | .slice none _ _ => some (.val (.string .empty), A)
    | .slice (some ⟨b, off, none⟩) n _ =>
      match A.loadN b off n with
      | some c => (bytesOf c).map fun bs => (.val (.string ⟨⟨bs⟩⟩), A)
      | none => none
    | .slice (some ⟨0, 0, some 0⟩) 0 _ => some (.val (.string .empty), A)
    | _ => none
  | _ => none

/-- A constant's bytes as a slice: the value stays. -/
def sMarked (P : Program) (same : Bool) (e : TypeId) (x : Value) (A : AS) : Option (OR × AS) :=
  match P.underlying e, x with
  | some (.int .u8), .slice (some ⟨b, off, none⟩) n cap =>
    match A.cellsAt b with
    | some _ => if same then some (.val (.slice (some ⟨b, off, none⟩) n cap), A) else none
    | none => none
  | _, _ => none

def sConv (P : Program) (src dst : TypeId) (x : Value) (A : AS) : Option (OR × AS) :=
  match P.underlying src, P.underlying dst, x with
  | some _, some (.int k), .int _ n => some (.val (.int k (k.wrap n)), A)
  | some .string, some (.slice e), .string s => sStr2B P e s A
  | some (.slice e), some .string, x => sB2Str P e x A
  | some (.slice _), some (.slice e), x => sMarked P (src == dst) e x A
  | some _, some .string, .string s => some (.val (.string s), A)
  | some _, some .string, .int _ n => some (.val (.string (Utf8.encode n)), A)
  | _, _, _ => none

def allKnown (vs : List (Nat × Value)) : Bool := vs.all fun p => !isTop p.2

def placesOf (P : Program) : List Field → Option (List (Nat × Nat))
  | [] => some []
  | f :: r =>
    match sizeT P f.type, placesOf P r with
    | some n, some l => some ((f.offset, n) :: l)
    | _, _ => none

def sBuild (P : Program) (t : TypeId) (parts : List (Nat × Value)) : Option Value :=
  if allKnown parts then
    match zeroT P t, P.underlying t with
    | some z, some (.struct fields) =>
      match placesOf P fields.toList with
      | some places => (Instr.fill (places[·]?) z.cells parts).map Value.agg
      | none => none
    | some z, some (.array _ elem) =>
      match sizeT P elem with
      | some size => (Instr.fill (fun i => some (i * size, size)) z.cells parts).map Value.agg
      | none => none
    | _, _ => none
  else none

def repZ (z : Array Value) (n : Nat) : Array Value := (Array.range n).map (z[· % z.size]!)

def sBuildSlice (P : Program) (t : TypeId) (len : Nat) (parts : List (Nat × Value)) (A : AS) : Option (OR × AS) :=
  if allKnown parts then
    match P.underlying t with
    | some (.slice elem) =>
      match sizeT P elem, zeroT P elem with
      | some size, some z =>
        if len * size ≤ 16777216 ∧ len < unk then
          (Instr.fill (fun i => some (i * size, size)) (repZ z.cells (len * size)) parts).map fun cells => (.val (.slice (some ⟨A.nx, 0, none⟩) len len), A.push (.cells cells.toList elem))
        else none
      | _, _ => none
    | _ => none
  else none

def sLoad (P : Program) (t : TypeId) (x : Value) (A : AS) : Option Value :=
  match x with
  | .pointer (some ⟨b, off, none⟩) =>
    match isAggT P t with
    | some true =>
      match sizeT P t with
      | some n => (A.loadN b off n).map fun c => .agg ⟨c⟩
      | none => none
    | some false => (match A.cellsAt b with | some (c, _) => c[off]? | none => none)
    | none => none
  | _ => none

def sStore (P : Program) (t : TypeId) (x v : Value) (A : AS) : Option (OR × AS) :=
  match x with
  | .pointer (some ⟨b, off, none⟩) =>
    match sizeT P t with
    | some n => if (vcells v).length = n && !isTop v then (A.storeN b off (vcells v)).map fun A' => (.val undef, A') else none
    | none => none
  | _ => none

def sNilCheck (x : Value) : Option Value :=
  match x with
  | .pointer (some a) => some (.pointer (some a))
  | .iface t v => some (.iface t v)
  | .func (.func f) first cap => some (.func (.func f) first cap)
  | _ => none

def sMkIface (P : Program) (t : TypeId) (x : Value) : Option Value :=
  match P.underlying t with
  | some (.interface _) | none => none
  | some _ => if isTop x then none else some (.iface t x)

def sMakeSlice (P : Program) (t : TypeId) (l c : Value) (A : AS) : Option (OR × AS) :=
  match P.underlying t, l, c with
  | some (.slice e), .int _ l, .int _ c =>
    match bytesT P e, sizeT P e, zeroT P e with
    | some bytes, some size, some z =>
      if 0 ≤ l ∧ l ≤ c ∧ c * bytes ≤ appendBound ∧ c ≤ appendBound then
        some (.val (.slice (some ⟨A.nx, 0, none⟩) l.toNat c.toNat), A.push (.cells (repZ z.cells (c.toNat * size)).toList e))
      else none
    | _, _, _ => none
  | _, _, _ => none

def sSliceSl (size : Nat) (b off len cap : Nat) (lo hi mx : Option Value) : Option Value :=
  match bounds len cap lo hi mx with
  | some (l, h, m) =>
    if m < unk then some (.slice (some ⟨b, if m = l then off else off + l * size, none⟩) (h - l) (m - l))
    else if mx.isSome then none
    else if l = 0 then some (.slice (some ⟨b, off, none⟩) h unk)
    else if l < h then some (.slice (some ⟨b, off + l * size, none⟩) (h - l) unk)
    else some emp
  | none => none

def sSliceArr (P : Program) (n : Nat) (e : TypeId) (b off : Nat) (lo hi mx : Option Value) : Option Value :=
  match sizeT P e, bounds n n lo hi mx with
  | some size, some (l, h, m) => some (.slice (some ⟨b, if m = l then off else off + l * size, none⟩) (h - l) (m - l))
  | _, _ => none

def sSlice (P : Program) (t : TypeId) (x : Value) (lo hi mx : Option Value) : Option Value :=
  match P.underlying t, x with
  | some (.slice e), .slice (some ⟨b, off, none⟩) len cap => (sizeT P e).bind fun size => sSliceSl size b off len cap lo hi mx
  | some (.slice e), .slice none 0 0 => (sizeT P e).bind fun _ => (bounds 0 0 lo hi mx).map fun _ => .slice none 0 0
  | some (.slice e), .slice (some ⟨0, 0, some 0⟩) 0 _ =>
    match mx with
    | some _ => none
    | none => (sizeT P e).bind fun _ => (bounds 0 unk lo hi none).map fun _ => emp
  | some .string, .string s =>
    match mx with
    | some _ => none
    | none => if s.size < unk then (bounds s.size s.size lo hi none).map fun r => .string (s.extract r.1 r.2.1) else none
  | some (.array n e), .pointer (some ⟨b, off, none⟩) => if n < unk then sSliceArr P n e b off lo hi mx else none
  | some (.pointer arr), .pointer (some ⟨b, off, none⟩) =>
    match P.underlying arr with
    | some (.array n e) => if n < unk then sSliceArr P n e b off lo hi mx else none
    | _ => none
  | _, _ => none

def sFieldAddr (P : Program) (t : TypeId) (x : Value) (f : Nat) : Option Value :=
  match P.underlying t, x with
  | some (.struct fs), .pointer (some ⟨b, off, none⟩) =>
    match fs[f]? with
    | some f =>
      match sizeT P f.type with
      | some n => if n = 0 then none else some (.pointer (some ⟨b, off + f.offset, none⟩))
      | none => none
    | none => none
  | _, _ => none

def sField (P : Program) (t : TypeId) (x : Value) (f : Nat) : Option Value :=
  match P.underlying t, x with
  | some (.struct fs), .agg cs => (match fs[f]? with | some f => partAt P f.type cs.toList f.offset | none => none)
  | _, _ => none

def sIndexAddr (P : Program) (t : TypeId) (x i : Value) : Option Value :=
  match P.underlying t, x, i with
  | some (.array len e), .pointer (some ⟨b, off, none⟩), .int _ i =>
    match sizeT P e with
    | some size => if 0 ≤ i ∧ i < len then some (.pointer (some ⟨b, off + i.toNat * size, none⟩)) else none
    | none => none
  | some (.slice e), .slice (some ⟨b, off, none⟩) len _, .int _ i =>
    match sizeT P e with
    | some size => if 0 ≤ i ∧ i < len then some (.pointer (some ⟨b, off + i.toNat * size, none⟩)) else none
    | none => none
  | _, _, _ => none

def sIndex (P : Program) (t : TypeId) (x i : Value) : Option Value :=
  match P.underlying t, x, i with
  | some (.array len e), .agg cs, .int _ i =>
    match sizeT P e with
    | some size => if 0 ≤ i ∧ i < len then partAt P e cs.toList (i.toNat * size) else none
    | none => none
  | some .string, .string s, .int _ i => if 0 ≤ i then (s[i.toNat]?).map fun b => .int .u8 b.toNat else none
  | _, _, _ => none

def entriesOf (A : AS) (m : Value) : Option (List MapEntry) :=
  match m with
  | .map none => some []
  | .map (some r) => (match A.get r with | some (.map es _) => some es | _ => none)
  | _ => none

def sLookup (P : Program) (t : TypeId) (m k : Value) (ok : Bool) (A : AS) : Option Value :=
  match P.underlying t, entriesOf A m with
  | some (.map kt e), some es =>
    if plain k then
      match pureVal P (Instr.checkKey es.isEmpty 10000 kt k), zeroT P e, eqKey P kt k es 0 with
      | some _, some _, some (some (_, v)) => some (if ok then .tuple #[v, .bool true] else v)
      | some _, some z, some none => some (if ok then .tuple #[z, .bool false] else z)
      | _, _, _ => none
    else none
  | _, _ => none

def sMapSet (P : Program) (t : TypeId) (m k x : Value) (A : AS) : Option (OR × AS) :=
  match P.underlying t, m with
  | some (.map kt _), .map (some r) =>
    match A.get r with
    | some (.map es clock) =>
      if plain k && !isTop x then
        match pureVal P (Instr.checkKey false 10000 kt k), eqKey P kt k es 0 with
        | some _, some (some (i, _)) =>
          if Instr.sameBits 10000 (((es[i]?).map (·.key)).getD k) k then some (.val undef, A.put r (.map (es.modify i fun e => { e with key := k, val := x }) clock)) else none
        | some _, some none => some (.val undef, A.put r (.map (es ++ [{ key := k, val := x, born := clock }]) (clock + 1)))
        | _, _ => none
      else none
    | _ => none
  | _, _ => none

def sRange (P : Program) (t : TypeId) (x : Value) (A : AS) : Option (OR × AS) :=
  match P.underlying t, x with
  | some .string, .string s => some (.val (.pointer (some ⟨A.nx, 0, none⟩)), A.push (.siter s 0))
  | _, _ => none

def sNext (it : Value) (A : AS) : Option (OR × AS) :=
  match it with
  | .pointer (some ⟨r, 0, none⟩) =>
    match A.get r with
    | some (.siter s pos) =>
      if pos < s.size then
        some (.val (.tuple #[.bool true, goInt pos, .int .i32 (Utf8.decode s pos).1]), A.put r (.siter s (pos + (Utf8.decode s pos).2)))
      else some (.val (.tuple #[.bool false]), A)
    | _ => none
  | _ => none

def sAssert (P : Program) (x : Value) (t : TypeId) (ok : Bool) : Option Value :=
  match P.underlying t, x with
  | some (.interface _), _ => none
  | some _, .nilIface => if ok then (zeroT P t).map fun z => .tuple #[z, .bool false] else none
  | some _, .iface u v =>
    if u = t then some (if ok then .tuple #[v, .bool true] else v)
    else if ok then (zeroT P t).map fun z => .tuple #[z, .bool false] else none
  | _, _ => none

def sExtract (x : Value) (i : Nat) : Option Value :=
  match x with
  | .tuple vs => vs[i]?
  | _ => none

def sCallV (call : CallF) (f : Value) (args : List Value) (A : AS) : Option (OR × AS) :=
  match f with
  | .func (.func g) first cap => finish (call g (first.toList ++ args ++ cap.toList) A)
  | _ => none

def sInvoke (P : Program) (call : CallF) (r : Value) (name : String) (args : List Value) (A : AS) : Option (OR × AS) :=
  match r with
  | .iface t v =>
    match methodOf P t name v with
    | some (f, x) => if isTop v then none else finish (call f (x :: args) A)
    | none => none
  | _ => none

def sCall (P : Program) (call : CallF) (ev : Operand → Value) (c : Call) (A : AS) : Option (OR × AS) :=
  match c.callee with
  | .builtin b => builtinA P b c.argTypes A (c.args.toList.map ev)
  | .value f => sCallV call (ev f) (c.args.toList.map ev) A
  | .invoke r name => sInvoke P call (ev r) name (c.args.toList.map ev) A

def sDefer (ev : Operand → Value) (c : Call) (A : AS) : Option (OR × AS) :=
  match c.callee with
  | .value f => (match ev f with | .func (.func g) first cap => some (.dfr { target := .fn (.func g) cap, args := first ++ c.args.map ev }, A) | _ => none)
  | _ => none

def sPanic (x : Value) (A : AS) : Option (OR × AS) :=
  match x with
  | .iface t v => some (.pan (.iface t v), A)
  | _ => none

def sPick (c a b : Value) : Option Value :=
  match c with
  | .bool true => some a
  | .bool false => some b
  | _ => none

def vOf (A : AS) (v : Option Value) : Option (OR × AS) :=
  match v with
  | some v => some (.val v, A)
  | none => none

def sAlloc (P : Program) (t : TypeId) (A : AS) : Option (OR × AS) :=
  match zeroT P t with
  | some z => some (.val (.pointer (some ⟨A.nx, 0, none⟩)), A.push (.cells (vcells z) t))
  | none => none

def sBox (t : TypeId) (x : Value) (A : AS) : Option (OR × AS) :=
  if isTop x then none else some (.val (.pointer (some ⟨A.nx, 0, none⟩)), A.push (.cells (vcells x) t))

def sMakeMap (P : Program) (t : TypeId) (r : Option Operand) (A : AS) : Option (OR × AS) :=
  match P.underlying t, r with
  | some (.map _ _), none => some (.val (.map (some A.nx)), A.push (.map [] 0))
  | _, _ => none

def opSem (P : Program) (call : CallF) (ev : Operand → Value) (o : Op) (A : AS) : Option (OR × AS) :=
  match o with
  | .move x => some (.val (ev x), A)
  | .assign x => some (.val (ev x), A)
  | .pick c a b => vOf A (sPick (ev c) (ev a) (ev b))
  | .alloc t => sAlloc P t A
  | .box t x => sBox t (ev x) A
  | .build t parts => vOf A (sBuild P t (parts.toList.map fun p => (p.1, ev p.2)))
  | .buildSlice t len parts => sBuildSlice P t len (parts.toList.map fun p => (p.1, ev p.2)) A
  | .load t x => vOf A (sLoad P t (ev x) A)
  | .store t x v => sStore P t (ev x) (ev v) A
  | .nilCheck x => vOf A (sNilCheck (ev x))
  | .binOp op t x y _ => vOf A (sBin P op t x y (ev x) (ev y))
  | .unOp op _ x => vOf A (sUn P op (ev x))
  | .convert src dst x => sConv P src dst (ev x) A
  | .makeInterface t x => vOf A (sMkIface P t (ev x))
  | .makeFunc fn first cap => some (.val (.func fn (first.map ev) (cap.map ev)), A)
  | .makeMap t r => sMakeMap P t r A
  | .makeSlice t l c => sMakeSlice P t (ev l) (ev c) A
  | .slice t x lo hi mx => vOf A (sSlice P t (ev x) (lo.map ev) (hi.map ev) (mx.map ev))
  | .fieldAddr t x f => vOf A (sFieldAddr P t (ev x) f)
  | .field t x f => vOf A (sField P t (ev x) f)
  | .indexAddr t x i => vOf A (sIndexAddr P t (ev x) (ev i))
  | .index t x i => vOf A (sIndex P t (ev x) (ev i))
  | .lookup t m k ok => vOf A (sLookup P t (ev m) (ev k) ok A)
  | .mapUpdate t m k x => sMapSet P t (ev m) (ev k) (ev x) A
  | .insert t m k x => sMapSet P t (ev m) (ev k) (ev x) A
  | .range t x => sRange P t (ev x) A
  | .next it true => sNext (ev it) A
  | .typeAssert x _ t ok => vOf A (sAssert P (ev x) t ok)
  | .extract x i => vOf A (sExtract (ev x) i)
  | .panic x => sPanic (ev x) A
  | .call c => sCall P call ev c A
  | .defer c => sDefer ev c A
  | _ => none

/-! ### Regions -/

/-- Is the operation carried out? none: that is not known. -/
def wantedA (ops : Array Oper) (fr : Fr) (o : Oper) : Option Bool :=
  match o.guard with
  | none => some true
  | some (j, want) =>
    match ((ops[j]?).bind (·.dst)).bind fr.t.get with
    | some (.bool b) => some (b == want)
    | some (.chan (some 0)) => some false
    | _ => none

inductive Out where
  | normal
  | exit (id : Nat)
  | goto (l : Nat)
  | ret
  | pan (v : Value)

abbrev Rest := Fr → AS → Option (Out × Fr × AS)

def regOp (P : Program) (call : CallF) (o : Oper) (rest : Rest) (fr : Fr) (A : AS) : Option (Out × Fr × AS) :=
  match opSem P call (fr.ev P) o.op A with
  | some (.val v, A') => rest (fr.put o.dst v) A'
  | some (.pan v, A') => some (.pan v, fr, A')
  | some (.dfr d, A') => rest ({ fr with d := d :: fr.d }.put o.dst undef) A'
  | none => none

def regOne (P : Program) (call : CallF) (ops : Array Oper) (o : Oper) (rest : Rest) (fr : Fr) (A : AS) : Option (Out × Fr × AS) :=
  match wantedA ops fr o with
  | none => none
  | some false => rest (fr.put o.dst skipV) A
  | some true => regOp P call o rest fr A

def regLex (P : Program) (call : CallF) (ops : Array Oper) (l : List Oper) : Rest :=
  List.rec (motive := fun _ => Rest) (fun fr A => some (.normal, fr, A)) (fun o _ rest => regOne P call ops o rest) l

/-- What stands ahead of each operation, in every order. -/
def befs : List Oper → List (List Nat) → List (List Nat)
  | [], acc => acc
  | o :: rest, acc => befs rest (acc ++ [o.after.toList.flatMap fun e => if Region.binds .any e then e.on :: acc.getD e.on [] else []])

/-- Does the operation leave memory alone, and not look into it? -/
def heapFree : Op → Bool
  | .move _ | .assign _ | .pick .. | .nilCheck _ | .unOp .. | .fieldAddr .. | .field .. | .indexAddr .. | .index .. | .extract .. | .slice .. | .binOp .. | .makeInterface .. | .makeFunc .. | .typeAssert .. | .build .. => true
  | _ => false

def dstsOf (ops : List Oper) : List Nat := ops.filterMap (·.dst)

/-- Each two operations that name one temporary stand in one order. -/
def tmpsOk (ops : Array Oper) (bef : List (List Nat)) : Bool :=
  (dstsOf ops.toList).Nodup &&
  ops.toList.zipIdx.all fun (oi, i) =>
    match oi.dst with
    | none => true
    | some d => ops.toList.zipIdx.all fun (oj, j) =>
      i == j || !(oj.looksAt ops).contains d || (if i < j then (bef.getD j []).contains i else (bef.getD i []).contains j)

def edgesOk (ops : List Oper) : Bool := ops.zipIdx.all fun (o, i) => o.after.toList.all fun e => !Region.binds .any e || decide (e.on < i)

def noSelfRead (ops : Array Oper) : Bool := ops.toList.all fun o => match o.dst with | some d => !(o.looksAt ops).contains d | none => true

def regOk (ops : Array Oper) : Bool := edgesOk ops.toList && noSelfRead ops && Region.noSelect ops && tmpsOk ops (befs ops.toList [])

/-- What an operation has to do with memory: nothing; it looks into one object; it makes a new one and looks into none; it writes into one; it looks where it likes and changes nothing that was there; whatever. -/
inductive Cl where
  | p
  | l (x : Nat)
  | n
  | s (x : Nat)
  | g
  | e

def ptrOf : Value → Option Nat
  | .pointer (some ⟨b, _, none⟩) => some b
  | _ => none

def clOf (ev : Operand → Value) (o : Op) (grew : Bool) : Cl :=
  match o with
  | .load _ x => (match ptrOf (ev x) with | some b => .l b | none => .e)
  | .store _ x _ => (match ptrOf (ev x) with | some b => .s b | none => .e)
  | .alloc _ | .box _ _ | .makeSlice _ _ _ | .makeMap _ _ | .buildSlice _ _ _ => .n
  | o => if heapFree o then .p else if grew then .g else .e

def clash (a b : Cl) : Bool :=
  match a, b with
  | .p, _ => false
  | _, .p => false
  | .e, _ => true
  | _, .e => true
  | .s x, .s y => x == y
  | .s x, .l y => x == y
  | .l x, .s y => x == y
  | .s _, .g => true
  | .g, .s _ => true
  | _, _ => false

/-- A region whose order is open: walked in the text's order; two operations that may meet in memory must stand in one order. 'done': the operations so far; k: the next one's place. -/
def regDraw (P : Program) (call : CallF) (ops : Array Oper) (bef : List (List Nat)) : List Oper → Nat → List (Nat × Cl) → Fr → AS → Option (Fr × AS)
  | [], _, _, fr, A => some (fr, A)
  | o :: rest, k, don, fr, A =>
    match wantedA ops fr o with
    | none => none
    | some false => regDraw P call ops bef rest (k + 1) don (fr.put o.dst skipV) A
    | some true =>
      match opSem P call (fr.ev P) o.op { A with wm := A.nx } with
      | some (.val v, A') =>
        let c := clOf (fr.ev P) o.op (decide (A.nx ≤ A'.wm))
        if don.all fun d => !clash d.2 c || (bef.getD k []).contains d.1 then
          regDraw P call ops bef rest (k + 1) ((k, c) :: don) (fr.put o.dst v) { A' with wm := min A.wm A'.wm }
        else none
      | _ => none

def regSem (P : Program) (call : CallF) (ops : Array Oper) (draw : Bool) (fr : Fr) (A : AS) : Option (Out × Fr × AS) :=
  if draw then
    if regOk ops then (regDraw P call ops (befs ops.toList []) ops.toList 0 [] fr A).map fun (fr', A') => (.normal, fr', A') else none
  else regLex P call ops ops.toList fr A

/-! ### Code -/
def resOne (P : Program) (fr : Fr) (A : AS) : ResultVar → Option Value
  | .tmp t => some (fr.at t)
  | .cell a t => sLoad P t (fr.at a) A

def resAll (P : Program) (fr : Fr) (A : AS) : List ResultVar → Option (List Value)
  | [] => some []
  | r :: rs =>
    match resOne P fr A r, resAll P fr A rs with
    | some v, some vs => some (v :: vs)
    | _, _ => none

def resSem (P : Program) (fn : Func) (fr : Fr) (A : AS) : Option Value :=
  match resAll P fr A fn.results.toList with
  | some [v] => some v
  | some vs => some (.tuple ⟨vs⟩)
  | none => none

def entryT : List Value → Nat → BM Value → BM Value
  | [], _, m => m
  | v :: l, k, m => entryT l (k + 1) (m.set k (some v))

def entry (args : List Value) (n : Nat) : Fr := { t := entryT args 0 .e, n := n, d := [] }

/-- How a frame is being left: it returns; it panics; its panic was recovered. -/
inductive UM where
  | ret
  | pan (v : Value)
  | done (v : Value)

def UM.settle : UM → UM
  | .done _ => .ret
  | u => u

/-- What 'recover' tells of the frame that is being left. -/
def UM.recover : UM → Value × UM
  | .pan v => (v, .done v)
  | u => (.nilIface, u)

def isRecover (o : Oper) : Bool :=
  match o with
  | { op := .call { callee := .builtin .recover, .. }, guard := none, .. } => true
  | _ => false

/-- What a function's body leaves where no call was deferred. -/
def leave0 (P : Program) (fn : Func) (r : Option (Out × Fr × AS)) : Option (CR × AS) :=
  match r with
  | some (.normal, fr, A) | some (.ret, fr, A) =>
    if fr.d.isEmpty then (resSem P fn fr A).map fun v => (.ret v, A) else none
  | some (.pan v, fr, A) => if fr.d.isEmpty then some (.pan v, A) else none
  | _ => none

abbrev ExN := Code → Fr → AS → Option (Out × Fr × AS)

/-- A deferred call: what it does, and how the frame that it was deferred in is left behind it. A body that asks for a panic asks in its first operation. -/
def callR (P : Program) (ex : ExN) (f : FuncId) (args : List Value) (A : AS) (u : UM) : Option (CR × AS × UM) :=
  match P.funcs[f]? with
  | some fn =>
    if fn.name == "runtime.NumGoroutine" then none else
    match fn.body with
    | some (.seq (.region i ops dr) rest) =>
      match ops.toList with
      | o :: more =>
        if isRecover o && !dr then
          (leave0 P fn (match regLex P (fun _ _ _ => none) ops more ((entry args fn.ntmps).put o.dst u.recover.1) A with
            | some (.normal, fr, A') => ex rest fr A'
            | r => r)).map fun r => (r.1, r.2, u.recover.2)
        else (leave0 P fn (ex (.seq (.region i ops dr) rest) (entry args fn.ntmps) A)).map fun r => (r.1, r.2, u)
      | [] => (leave0 P fn (ex (.seq (.region i ops dr) rest) (entry args fn.ntmps) A)).map fun r => (r.1, r.2, u)
    | some c => (leave0 P fn (ex c (entry args fn.ntmps) A)).map fun r => (r.1, r.2, u)
    | none => none
  | none => none

def runDefers (P : Program) (ex : ExN) (fn : Func) (fr : Fr) : List Deferred → UM → AS → Option (CR × AS)
  | [], .ret, A => (resSem P fn fr A).map fun v => (.ret v, A)
  | [], .pan v, A => some (.pan v, A)
  | [], .done _, _ => none
  | { target := .fn (.func g) cap, args } :: ds, u, A =>
    match callR P ex g (args.toList ++ cap.toList) A u with
    | some (.ret _, A', u') => runDefers P ex fn fr ds u'.settle A'
    | some (.pan v, A', .ret) => runDefers P ex fn fr ds (.pan v) A'
    | _ => none
  | _ :: _, _, _ => none

/-- What a function's body leaves. -/
def leave (P : Program) (ex : ExN) (fn : Func) (r : Option (Out × Fr × AS)) : Option (CR × AS) :=
  match r with
  | some (.normal, fr, A) => runDefers P ex fn fr fr.d .ret A
  | some (.ret, fr, A) => runDefers P ex fn fr fr.d .ret A
  | some (.pan v, fr, A) => runDefers P ex fn fr fr.d (.pan v) A
  | _ => none

def idxByte (args : List Value) (A : AS) : Option (CR × AS) :=
  match args with
  | [x, .int .u8 b] =>
    match srcCells 1 A x with
    | some (c, _) => (bytesOf c).map fun bs => (.ret (goInt (match bs.findIdx? (· == b.toNat.toUInt8) with | some i => (i : Int) | none => -1)), A)
    | none => none
  | _ => none

def add64 (args : List Value) (A : AS) : Option (CR × AS) :=
  match args with
  | [.int _ x, .int _ y, .int _ c] =>
    if c.toNat > 1 then none
    else some (.ret (Extern.MathBitsCarry.pair ((x.toNat + y.toNat + c.toNat) % Extern.MathBitsCarry.m64) ((x.toNat + y.toNat + c.toNat) / Extern.MathBitsCarry.m64)), A)
  | _ => none

/-- Functions without a body. -/
def extA (fn : Func) (args : List Value) (A : AS) : Option (CR × AS) :=
  if fn.origin == "" then
    if fn.name == "internal/bytealg.IndexByte" || fn.name == "internal/bytealg.IndexByteString" then idxByte args A
    else if fn.name == "math/bits.Add64" then add64 args A
    else none
  else none

def callWith (P : Program) (ex : Code → Fr → AS → Option (Out × Fr × AS)) : CallF := fun f args A =>
  match P.funcs[f]? with
  | some fn =>
    match fn.body with
    | some c => if fn.name == "runtime.NumGoroutine" then none else leave P ex fn (ex c (entry args fn.ntmps) A)
    | none => extA fn args A
  | none => none

abbrev Ex := Option Code → Code → Fr → AS → Option (Out × Fr × AS)

def xSeq (ex : Ex) (a b : Code) (fr : Fr) (A : AS) : Option (Out × Fr × AS) :=
  match ex none a fr A with
  | some (.normal, fr', A') => ex none b fr' A'
  | r => r

def xCond (ex : Ex) (x : Value) (a b : Code) (fr : Fr) (A : AS) : Option (Out × Fr × AS) :=
  match x with
  | .bool true => ex none a fr A
  | .bool false => ex none b fr A
  | _ => none

def xBlock (id : Nat) (r : Option (Out × Fr × AS)) : Option (Out × Fr × AS) :=
  match r with
  | some (.exit i, fr', A') => some (if i = id then .normal else .exit i, fr', A')
  | r => r

def xScope (ex : Ex) (b c : Code) (fr : Fr) (A : AS) : Option (Out × Fr × AS) :=
  match ex none c fr A with
  | some (.goto l, fr', A') =>
    (match findLabel b l with
    | some rest => ex (some b) rest fr' A'
    | none => some (.goto l, fr', A'))
  | r => r

def xCode (P : Program) (ex : Ex) (c : Code) (fr : Fr) (A : AS) : Option (Out × Fr × AS) :=
  match c with
  | .skip => some (.normal, fr, A)
  | .label _ => some (.normal, fr, A)
  | .region _ ops draw => regSem P (callWith P (ex none)) ops draw fr A
  | .seq a b => xSeq ex a b fr A
  | .cond x a b => xCond ex (fr.ev P x) a b fr A
  | .block id b => xBlock id (ex none b fr A)
  | .loop b => xSeq ex b (.loop b) fr A
  | .exit id => some (.exit id, fr, A)
  | .goto l => some (.goto l, fr, A)
  | .ret => some (.ret, fr, A)
  | .scope b => ex (some b) b fr A
  | _ => none

def xStep (P : Program) (ex : Ex) : Ex := fun sc c fr A =>
  match sc with
  | some b => xScope ex b c fr A
  | none => xCode P ex c fr A

/-- n bounds how deep the rules are applied. The first argument: the body of the scope in which a jump is looked for. -/
def exec (P : Program) (n : Nat) : Ex := Nat.rec (motive := fun _ => Ex) (fun _ _ _ _ => none) (fun _ ex => xStep P ex) n

theorem exec_succ (P : Program) (n : Nat) : exec P (n + 1) = xStep P (exec P n) := rfl

def call (P : Program) (n : Nat) : CallF := callWith P (exec P n none)

end
end Go.Mini
