/- Operations that leave the owned blocks alone, evaluated on abstract values, and what they have to do with the machine's. -/
import Derived.Test.YtchpcjmgifnmdaaDoorAb1
namespace Go.Proofs.YtchpcjmgifnmdaaDoor.Ab
open Go

def isAggT (P : Program) (t : TypeId) : Option Bool :=
  match P.underlying t with
  | some (.struct _) | some (.array _ _) => some true
  | some _ => some false
  | none => none
def szOf (P : Program) (t : TypeId) : Option Nat := (P.info? t).map (·.size)
def zeroA (P : Program) (t : TypeId) : Option (List AV) := ((P.info? t).bind (·.zero)).map fun z => z.cells.toList.map .v
def elOf (P : Program) (t : TypeId) : Option TypeId := match P.underlying t with | some (.slice e) => some e | _ => none
def allSome {α : Type} : List (Option α) → Option (List α)
  | [] => some []
  | none :: _ => none
  | some x :: r => (allSome r).map (x :: ·)
def placesOf (P : Program) (t : TypeId) : Option (List (Nat × Nat)) :=
  match P.underlying t with
  | some (.struct fs) => allSome (fs.toList.map fun f => (szOf P f.type).map fun s => (f.offset, s))
  | _ => none
/-- where a field's cells begin, if it has some -/
def fldOff (P : Program) (t : TypeId) (i : Nat) : Option Nat :=
  match P.underlying t with
  | some (.struct fs) => match fs[i]? with
    | some f => match szOf P f.type with
      | some 0 => none
      | some _ => some f.offset
      | none => none
    | none => none
  | _ => none
def fldTy (P : Program) (t : TypeId) (i : Nat) : Option TypeId :=
  match P.underlying t with
  | some (.struct fs) => (fs[i]?).map (·.type)
  | _ => none
def isIfc (P : Program) (t : TypeId) : Bool := match P.underlying t with | some (.interface _) => true | _ => false
def isBoolT (P : Program) (t : TypeId) : Bool := match P.underlying t with | some .bool => true | _ => false
def isPtrT (P : Program) (t : TypeId) : Bool := match P.underlying t with | some (.pointer _) => true | _ => false
def isStrT (P : Program) (t : TypeId) : Bool := match P.underlying t with | some .string => true | _ => false
def intT (P : Program) (t : TypeId) : Option IntKind := match P.underlying t with | some (.int k) => some k | _ => none

def cellsA : AV → Option (List AV)
  | .any => none
  | .v (.agg cs) => some (cs.toList.map .v)
  | .v (.tuple _) => none
  | .v x => some [.v x]
  | .agg cs => some cs
  | .tup _ => none
  | .lst k rows t => some [.lst k rows t]
  | .box cs => some [.box cs]
  | .ptr n o => some [.ptr n o]
  | .sl k n o l => some [.sl k n o l]
  | .fn f a b => some [.fn f a b]
  | .ifc t x => some [.ifc t x]
  | .map n => some [.map n]

def apart (P : Program) (t : TypeId) (cs : List AV) (off : Nat) : Option AV :=
  match isAggT P t with
  | some true => match szOf P t with
    | some s => if off + s ≤ cs.length then some (.agg ((cs.drop off).take s)) else none
    | none => none
  | some false => cs[off]?
  | none => none

def afill (place : Nat → Option (Nat × Nat)) (cells : List AV) : List (Nat × AV) → Option (List AV)
  | [] => some cells
  | (i, a) :: rest =>
    match place i, cellsA a with
    | some (off, size), some cs => if cs.length = size ∧ off + cs.length ≤ cells.length then afill place (cells.take off ++ (cs ++ cells.drop (off + cs.length))) rest else none
    | _, _ => none

def aint (op : BinOp) (k : IntKind) (x y : Int) : Option Value :=
  match op with
  | .add => some (.int k (k.wrap (x + y)))
  | .sub => some (.int k (k.wrap (x - y)))
  | .mul => some (.int k (k.wrap (x * y)))
  | .quo => if y = 0 then none else some (.int k (k.wrap (x.tdiv y)))
  | .rem => if y = 0 then none else some (.int k (x.tmod y))
  | .and => some (.int k (k.wrap (BitVec.ofInt k.bits x &&& BitVec.ofInt k.bits y).toNat))
  | .or => some (.int k (k.wrap (BitVec.ofInt k.bits x ||| BitVec.ofInt k.bits y).toNat))
  | .xor => some (.int k (k.wrap (BitVec.ofInt k.bits x ^^^ BitVec.ofInt k.bits y).toNat))
  | .andNot => some (.int k (k.wrap (BitVec.ofInt k.bits x &&& ~~~(BitVec.ofInt k.bits y)).toNat))
  | .eql => some (.bool (x == y))
  | .neq => some (.bool (x != y))
  | .lss => some (.bool (x < y))
  | .leq => some (.bool (x ≤ y))
  | .gtr => some (.bool (x > y))
  | .geq => some (.bool (x ≥ y))
  | _ => none

def astr (op : BinOp) (x y : ByteArray) : Option Value :=
  match op with
  | .add => if ((x.size + y.size : Nat) : Int) > IntKind.i64.max then none else some (.string (x ++ y))
  | .eql => some (.bool (x.toList == y.toList))
  | .neq => some (.bool !(x.toList == y.toList))
  | _ => none

def isConstO : Operand → Bool
  | .const _ => true
  | _ => false

/-- two simple values -/
def aeq0 (P : Program) (t : TypeId) (a b : AV) : Option Bool :=
  match a, b with
  | .v (.int k m), .v (.int k' n) => if k = k' ∧ (intT P t).isSome then some (m == n) else none
  | .v (.bool m), .v (.bool n) => if isBoolT P t then some (m == n) else none
  | .v (.string m), .v (.string n) => if isStrT P t then some (m == n) else none
  | _, _ => none
/-- the fields of two structs, by a comparison of fields -/
def aeqL (q : TypeId → AV → AV → Option Bool) (P : Program) (cs ds : List AV) : List (TypeId × Nat) → Option Bool
  | [] => some true
  | f :: fs =>
    match apart P f.1 cs f.2, apart P f.1 ds f.2 with
    | some a, some b => match q f.1 a b, aeqL q P cs ds fs with
      | some x, some y => some (x && y)
      | _, _ => none
    | _, _ => none

def eqFs (P : Program) (t : TypeId) : Option (List (TypeId × Nat)) :=
  match P.underlying t with
  | some (.struct fs) => if P.stoodInHeld t || P.eqGuardType P.depth t || fs.toList.any (fun f => f.name == "_") then none else some (fs.toList.map fun f => (f.type, f.offset))
  | _ => none
/-- simple values, or structs of such -/
def aeq1 (P : Program) (t : TypeId) (a b : AV) : Option Bool :=
  match a, b with
  | .agg cs, .agg ds => (eqFs P t).bind (aeqL (aeq0 P) P cs ds)
  | a, b => aeq0 P t a b

def aeqS (P : Program) (t : TypeId) (cs ds : List AV) : Option Bool := (eqFs P t).bind (aeqL (aeq1 P) P cs ds)

def byOf (P : Program) (t : TypeId) : Option Nat := (P.info? t).map (·.bytes)

def notInt (P : Program) (t : TypeId) : Bool := match P.underlying t with
  | some (.slice _) | some .string => true
  | _ => false

def abinop (P : Program) (op : BinOp) (t : TypeId) (x y : Operand) (a b : AV) : Option AV :=
  match a, b with
  | .v (.int k m), .v (.int k' n) =>
    match op with
    | .shl => if n < 0 then none else some (.v (.int k (k.wrap (m * 2 ^ (min n.toNat k.bits)))))
    | .shr => if n < 0 then none else some (.v (.int k (m.fdiv (2 ^ (min n.toNat k.bits)))))
    | _ => if k = k' then (aint op k m n).map .v else none
  | .v (.string m), .v (.string n) => (astr op m n).map .v
  | .v (.bool m), .v (.bool n) => if isBoolT P t then (match op with | .eql => some (.v (.bool (m == n))) | .neq => some (.v (.bool !(m == n))) | _ => none) else none
  | .box _, .v (.pointer none) | .ptr _ _, .v (.pointer none) => if isPtrT P t then (match op with | .eql => some (.v (.bool false)) | .neq => some (.v (.bool true)) | _ => none) else none
  | .v (.pointer none), .v (.pointer none) => if isPtrT P t then (match op with | .eql => some (.v (.bool true)) | .neq => some (.v (.bool false)) | _ => none) else none
  | .ifc _ _, .v .nilIface => if isIfc P t then (match op with | .eql => some (.v (.bool false)) | .neq => some (.v (.bool true)) | _ => none) else none
  | .v .nilIface, .v .nilIface => if isIfc P t && (isConstO x || isConstO y) then
      (match op with | .eql => some (.v (.bool true)) | .neq => some (.v (.bool false)) | _ => none) else none
  | .v (.slice none _ _), .v (.slice none _ _) => if (elOf P t).isSome then (match op with | .eql => some (.v (.bool true)) | .neq => some (.v (.bool false)) | _ => none) else none
  | .lst _ rows tip, .v (.slice none _ _) => if (elOf P t).isSome ∧ (0 < rows.length ∨ tip = .nn) then (match op with | .eql => some (.v (.bool false)) | .neq => some (.v (.bool true)) | _ => none) else none
  | .sl _ _ _ _, .v (.slice none _ _) => if (elOf P t).isSome then (match op with | .eql => some (.v (.bool false)) | .neq => some (.v (.bool true)) | _ => none) else none
  | .agg cs, .agg ds => match aeqS P t cs ds with
    | some b => (match op with | .eql => some (.v (.bool b)) | .neq => some (.v (.bool !b)) | _ => none)
    | none => none
  | .agg cs, .v (.agg ds) => match aeqS P t cs (ds.toList.map .v) with
    | some b => (match op with | .eql => some (.v (.bool b)) | .neq => some (.v (.bool !b)) | _ => none)
    | none => none
  | _, _ => none

def aunop (op : UnOp) (a : AV) : Option AV :=
  match op, a with
  | .not, .v (.bool b) => some (.v (.bool !b))
  | .neg, .v (.int k n) => some (.v (.int k (k.wrap (0 - n))))
  | .xor, .v (.int k n) => some (.v (.int k (k.wrap (BitVec.ofInt k.bits (if k.signed then -1 else k.max) ^^^ BitVec.ofInt k.bits n).toNat)))
  | _, _ => none

def aconv (P : Program) (dst : TypeId) (a : AV) : Option AV :=
  match a with
  | .v (.int _ n) => (intT P dst).map fun k => .v (.int k (k.wrap n))
  | .v (.string s) => if isStrT P dst then some (.v (.string s)) else none
  | _ => none

/-- bytes as a string -/
def byteA : List AV → Option UInt8
  | [.v (.int .u8 n)] => if 0 ≤ n ∧ n < 256 then some (UInt8.ofNat n.toNat) else none
  | _ => none
def bytesA (rows : List (List AV)) : Option (List UInt8) := allSome (rows.map byteA)
def isBytesT (P : Program) (t : TypeId) : Bool := match elOf P t with
  | some e => (match P.underlying e with | some (.int .u8) => true | _ => false)
  | none => false
def concT (P : Program) (t : TypeId) : Bool := match P.underlying t with
  | some (.interface _) => false
  | some _ => true
  | none => false
def aconvB (P : Program) (src dst : TypeId) (a : AV) : Option AV :=
  match a with
  | .lst k rows _ => if k = 1 ∧ isBytesT P src = true ∧ isStrT P dst = true then (bytesA rows).map fun l => .v (.string ⟨l.toArray⟩) else none
  | .v (.slice none _ _) => if isBytesT P src = true ∧ isStrT P dst = true then some (.v (.string ⟨#[]⟩)) else none
  | a => aconv P dst a

def abound (x : Option AV) (dflt top : Nat) : Option Nat :=
  match x with
  | none => some dflt
  | some (.v (.int _ i)) => if 0 ≤ i ∧ i ≤ top then some i.toNat else none
  | _ => none

def sltip (mx hi : Option AV) (tip : Tip) (m h : Nat) : Tip :=
  match mx with
  | some _ => if m = h then .full else .unk
  | none => match hi, tip with
    | none, .full => .full
    | _, _ => .unk

def aslice (P : Program) (t : TypeId) (x : AV) (lo hi mx : Option AV) : Option AV :=
  match x with
  | .v (.string s) => if isStrT P t ∧ mx.isNone then
      (abound hi s.size s.size).bind fun h => (abound lo 0 h).map fun l => .v (.string (s.extract l h)) else none
  | .v (.slice none 0 0) => match elOf P t with
    | some e => if (szOf P e).isSome ∧ (mx.isNone ∨ hi.isSome) then
        (abound mx 0 0).bind fun m => (abound hi 0 m).bind fun h => (abound lo 0 h).map fun _ => .v (.slice none 0 0) else none
    | none => none
  | .lst k rows tip => match elOf P t with
    | some e => if szOf P e = some k ∧ 0 < k ∧ (mx.isNone ∨ hi.isSome) then
        (abound mx rows.length rows.length).bind fun m => (abound hi rows.length m).bind fun h => (abound lo 0 h).map fun l => .lst k ((rows.take h).drop l) (sltip mx hi tip m h)
        else none
    | none => none
  | .sl k n o len => match elOf P t with
    | some e => if szOf P e = some k ∧ (mx.isNone ∨ hi.isSome) then
        (abound mx len len).bind fun m => (abound hi len m).bind fun h => (abound lo 0 h).map fun l =>
          if mx.isSome then .any else if l = 0 then .sl k n o h else if l < h then .sl k n (o + l * k) (h - l) else .lst k [] .unk
        else none
    | none => none
  | _ => none

def arrOf (P : Program) (t : TypeId) : Option (Nat × TypeId) := match P.underlying t with | some (.array n e) => some (n, e) | _ => none

/-- a cell of a package variable that the rows list -/
def aglob (P : Program) (t : TypeId) (k : Nat) (i : Int) : Option AV :=
  match arrOf P t with
  | some (n, e) => if szOf P e = some 1 ∧ 0 ≤ i ∧ i < n then (gCell k i.toNat).map fun x => .box [.v x] else none
  | none => none

def aindex (P : Program) (t : TypeId) (x i : AV) : Option AV :=
  match i with
  | .v (.int _ i) =>
    match elOf P t, x with
    | some e, .lst k rows _ => if szOf P e = some k ∧ 0 ≤ i ∧ i < rows.length then some (.box (rows.getD i.toNat [])) else none
    | some e, .sl k n o len => if szOf P e = some k ∧ 0 ≤ i ∧ i < len then some (.ptr n (o + i.toNat * k)) else none
    | none, .v (.pointer (some ⟨k, 0, none⟩)) => aglob P t k i
    | _, _ => none
  | _ => none

def asindex (P : Program) (t : TypeId) (x i : AV) : Option AV :=
  match x, i with
  | .v (.string s), .v (.int _ i) => if isStrT P t ∧ 0 ≤ i then (s[i.toNat]?).map fun b => .v (.int .u8 b.toNat) else none
  | _, _ => none

def alen (P : Program) (t : TypeId) (x : AV) : Option AV :=
  match x with
  | .v (.string s) => if isStrT P t then some (.v (.int .i64 s.size)) else none
  | .v (.slice _ n _) => (elOf P t).map fun _ => .v (.int .i64 n)
  | .lst _ rows _ => (elOf P t).map fun _ => .v (.int .i64 rows.length)
  | .sl _ _ _ n => (elOf P t).map fun _ => .v (.int .i64 n)
  | _ => none

def amax (x : AV) : List AV → Option AV
  | [] => some x
  | y :: r => match x, y with
    | .v (.int k a), .v (.int _ b) => amax (.v (.int k (if b > a then b else a))) r
    | _, _ => none
def amin (x : AV) : List AV → Option AV
  | [] => some x
  | y :: r => match x, y with
    | .v (.int k a), .v (.int _ b) => amin (.v (.int k (if b < a then b else a))) r
    | _, _ => none

/-- rows of k cells each -/
def chunk (k : Nat) : Nat → List AV → List (List AV)
  | 0, _ => []
  | n + 1, l => l.take k :: chunk k n (l.drop k)

def isMut (mu : List Nat) (dst : Option Nat) : Bool := match dst with | some d => mu.contains d | none => false

def acall (P : Program) (e : Operand → AV) (c : Call) : Option AV :=
  match c.callee with
  | .builtin .len => match c.args.toList, c.argTypes.toList with
    | [x], t :: _ => alen P t (e x)
    | _, _ => none
  | .builtin .max => match c.args.toList with
    | x :: r => amax (e x) (r.map e)
    | _ => none
  | .builtin .min => match c.args.toList with
    | x :: r => amin (e x) (r.map e)
    | _ => none
  | _ => none

def aflo (P : Program) (mu : List Nat) (e : Operand → AV) (dst : Option Nat) (op : Op) : Option AV :=
  match op with
  | .move x => some (e x)
  | .assign x => some (e x)
  | .pick c a b => match e c with
    | .v (.bool t) => some (if t then e a else e b)
    | _ => none
  | .box _ x => if isMut mu dst then none else (cellsA (e x)).map .box
  | .build t parts => match placesOf P t, zeroA P t with
    | some pl, some z => (afill (fun i => pl[i]?) z (parts.toList.map fun p => (p.1, e p.2))).map .agg
    | _, _ => none
  | .buildSlice t len parts => if isMut mu dst then none else match elOf P t with
    | some el => match szOf P el, zeroA P el with
      | some s, some z => if s = z.length ∧ 0 < s ∧ len * s ≤ 2 ^ 24 then
          (afill (fun i => some (i * s, s)) ((List.range (len * s)).map fun i => z.getD (i % s) .any) (parts.toList.map fun p => (p.1, e p.2))).map fun cs => .lst s (chunk s len cs) .full
        else none
      | _, _ => none
    | none => none
  | .load t a => match e a with
    | .box cs => apart P t cs 0
    | _ => none
  | .nilCheck x => match e x with
    | .box cs => some (.box cs)
    | .ptr n o => some (.ptr n o)
    | .fn (.func fn) a b => some (.fn (.func fn) a b)
    | _ => none
  | .binOp op t x y _ => abinop P op t x y (e x) (e y)
  | .unOp op _ x => aunop op (e x)
  | .convert src dst x => if (P.underlying src).isSome then aconvB P src dst (e x) else none
  | .makeInterface t x => if isIfc P t || (P.underlying t).isNone then none else some (.ifc t (e x))
  | .typeAssert x _ t ok => match e x with
    | .ifc u v => if ok = true ∧ u = t ∧ concT P t = true then some (.tup [v, .v (.bool true)]) else none
    | _ => none
  | .makeFunc fn first captured => some (.fn fn (first.toList.map e) (captured.toList.map e))
  | .slice t x lo hi mx => aslice P t (e x) (lo.map e) (hi.map e) (mx.map e)
  | .fieldAddr s x i => match fldOff P s i, e x with
    | some off, .box cs => some (.box (cs.drop off))
    | some off, .ptr n o => some (.ptr n (o + off))
    | _, _ => none
  | .field s x i => match fldOff P s i, fldTy P s i, e x with
    | some off, some t, .agg cs => apart P t cs off
    | _, _, _ => none
  | .indexAddr t x i => aindex P t (e x) (e i)
  | .index t x i => asindex P t (e x) (e i)
  | .extract t i => match e t with
    | .tup vs => vs[i]?
    | _ => none
  | .call c => acall P e c
  | _ => none

end Go.Proofs.YtchpcjmgifnmdaaDoor.Ab
