import Derived.RangeFuncLeaves
import Derived.OrdersIn
/-
  A deterministic machine over an abstract memory: the definitions. Abstract blocks have numbers of their own; a slice's capacity is a lower bound unless it is marked exact; an append that may grow in place makes an abstract block of the same family.
-/
namespace Go.Dm

/-! ### Tables by number -/
inductive PM (α : Type) where
  | nil
  | node (l : PM α) (v : Option α) (r : PM α)

namespace PM
variable {α : Type}
def get : PM α → Nat → Option α
  | .nil, _ => none
  | .node l v r, k => cond (Nat.beq k 0) v (cond (Nat.beq (k % 2) 1) (l.get (k / 2)) (r.get (k / 2 - 1)))
def setF : Nat → PM α → Nat → α → PM α
  | 0, t, _, _ => t
  | f + 1, .nil, k, x => cond (Nat.beq k 0) (.node .nil (some x) .nil) (cond (Nat.beq (k % 2) 1) (.node (setF f .nil (k / 2) x) none .nil) (.node .nil none (setF f .nil (k / 2 - 1) x)))
  | f + 1, .node l v r, k, x => cond (Nat.beq k 0) (.node l (some x) r) (cond (Nat.beq (k % 2) 1) (.node (setF f l (k / 2) x) v r) (.node l v (setF f r (k / 2 - 1) x)))
def set (t : PM α) (k : Nat) (x : α) : PM α := setF (k + 1) t k x
def ofList (t : PM α) : Nat → List α → PM α
  | _, [] => t
  | k, x :: xs => ofList (t.set k x) (k + 1) xs
def toL (t : PM α) : (o n : Nat) → Option (List α)
  | _, 0 => some []
  | o, n + 1 => (t.get o).bind fun x => (toL t (o + 1) n).bind fun xs => some (x :: xs)
end PM

/-! ### Values -/
inductive DV where
  | c (v : Value)
  | sym (i : Nat)
  | ptr (b o : Nat)
  | slice (b o len cap : Nat) (ex : Bool) (sz : Nat)
  | map (b : Nat)
  | iter (b : Nat)
  | yieldv (l : Nat)
  | func (f : Fn) (first cap : List DV)
  | iface (t : TypeId) (v : DV)
  | agg (cs : List DV)
  | tup (vs : List DV)
  deriving Inhabited

mutual
def DV.toV : DV → Option Value
  | .c v => some v
  | .agg cs => (toVs cs).map fun l => .agg ⟨l⟩
  | .iface t v => v.toV.map (.iface t)
  | .tup vs => (toVs vs).map fun l => .tuple ⟨l⟩
  | .func f a b => (toVs a).bind fun x => (toVs b).map fun y => .func f ⟨x⟩ ⟨y⟩
  | _ => none
def toVs : List DV → Option (List Value)
  | [] => some []
  | x :: xs => x.toV.bind fun v => (toVs xs).map fun l => v :: l
end

def DV.cells : DV → List DV
  | .agg cs => cs
  | .c v => v.cells.toList.map .c
  | x => [x]

/-- One cell's value. -/
def oneV : Value → Bool
  | .agg _ | .tuple _ => false
  | _ => true
def DV.one : DV → Bool
  | .c v => oneV v
  | .agg _ | .tup _ => false
  | _ => true

def undefD : DV := .c (.tuple #[])

structure DLoop where
  state : LoopState
  pending : Option Code
  fn : FuncId
  tm : PM DV
  nt : Nat
  params : List Tmp
  assign : Code
  body : Code
  defers : Nat

inductive DObj where
  | cells (pm : PM DV) (n : Nat) (fam : Nat)
  | dead (fam : Nat)
  | map (es : List (Value × DV × Nat)) (clock : Nat)
  | siter (s : ByteArray) (pos : Nat)
  | defd
  | loop (l : DLoop)

structure St where
  heap : PM DObj
  next : Nat
  fams : PM (List Nat)

structure Fr where
  fn : FuncId
  tm : PM DV
  nt : Nat
  marks : List Nat
  round : Option Nat

def Fr.eval (fr : Fr) : Operand → DV
  | .tmp t => (fr.tm.get t).getD undefD
  | .const v => .c v
  | .global g => .c (.pointer (some ⟨g, 0, none⟩))
  | .func f => .c (.func (.func f) #[] #[])

def Fr.put (fr : Fr) (dst : Option Tmp) (v : DV) : Fr :=
  match dst with
  | some d => cond (Nat.blt d fr.nt) { fr with tm := fr.tm.set d v } fr
  | none => fr

/-! ### What asks no memory -/
def pureRun {α : Type} (P : Program) : Sem α → Option α
  | .pure a => some a
  | .program k => pureRun P (k P)
  | .mark _ k => pureRun P k
  | _ => none

def szOf (P : Program) (t : TypeId) : Option Nat := (P.info? t).map (·.size)

def aggOf (P : Program) (t : TypeId) : Option Bool :=
  match P.underlying t with
  | some (.struct _) | some (.array _ _) => some true
  | some _ => some false
  | none => none

def partD (P : Program) (t : TypeId) (cs : List DV) (off : Nat) : Option DV :=
  match aggOf P t with
  | some true => (szOf P t).bind fun n => some (.agg ((cs.drop off).take n))
  | some false => cs[off]?
  | none => none

def setAt (cs : List DV) (off : Nat) (xs : List DV) : List DV := cs.take off ++ xs ++ cs.drop (off + xs.length)

def fillD (place : Nat → Option (Nat × Nat)) (cells : List DV) : List (Nat × DV) → Option (List DV)
  | [] => some cells
  | (i, v) :: rest =>
    match place i with
    | none => none
    | some (off, size) =>
      match Nat.beq v.cells.length size && Nat.ble (off + v.cells.length) cells.length with
      | true => fillD place (setAt cells off v.cells) rest
      | false => none

def zeroCellsD (P : Program) (t : TypeId) : Option (List DV) := ((P.info? t).bind (·.zero)).map fun v => v.cells.toList.map .c

def repeatL {α : Type} (l : List α) : Nat → List α
  | 0 => []
  | n + 1 => l ++ repeatL l n

def placesD (P : Program) : List Field → Option (List (Nat × Nat))
  | [] => some []
  | f :: fs => (szOf P f.type).bind fun n => (placesD P fs).map fun l => (f.offset, n) :: l

def buildD (P : Program) (t : TypeId) (parts : List (Nat × DV)) : Option DV :=
  (zeroCellsD P t).bind fun z =>
  match P.underlying t with
  | some (.struct fields) => (placesD P fields.toList).bind fun pl => (fillD (fun i => pl[i]?) z parts).map .agg
  | some (.array _ elem) => (szOf P elem).bind fun n => (fillD (fun i => some (i * n, n)) z parts).map .agg
  | _ => none

def eqD (P : Program) (t : TypeId) (a b : DV) : Option Bool :=
  match P.underlying t, a, b with
  | some (.pointer _), .ptr _ _, .c (.pointer none) => some false
  | some (.pointer _), .c (.pointer none), .ptr _ _ => some false
  | some (.pointer e), .ptr x o, .ptr y u =>
    match szOf P e with
    | some (_ + 1) => cond (Nat.beq x y) (some (Nat.beq o u)) none
    | _ => none
  | some (.slice _), .slice .., .c (.slice none _ _) => some false
  | some (.slice _), .c (.slice none _ _), .slice .. => some false
  | some (.map _ _), .map _, .c (.map none) => some false
  | some (.map _ _), .c (.map none), .map _ => some false
  | some (.func _ _ _), .func .., .c .nilFunc => some false
  | some (.func _ _ _), .c .nilFunc, .func .. => some false
  | some (.func _ _ _), .yieldv _, .c .nilFunc => some false
  | some (.interface _), .iface _ _, .c .nilIface => some false
  | some (.interface _), .c .nilIface, .iface _ _ => some false
  | _, _, _ => none

def binD (P : Program) (op : BinOp) (t : TypeId) (x y : Operand) (a b : DV) : Option DV :=
  match a.toV, b.toV with
  | some u, some v => (pureRun P (do eqGuard op t x y u v; Go.binOp op t u v)).map .c
  | _, _ =>
    match op with
    | .eql => (eqD P t a b).map fun r => .c (.bool r)
    | .neq => (eqD P t a b).map fun r => .c (.bool (!r))
    | _ => none

def intOfD : DV → Option Int
  | .c (.int _ n) => some n
  | _ => none

/-- A bound between 0 and y. -/
def boundD (x : DV) (y : Nat) : Option Nat :=
  match x with
  | .c (.int _ (.ofNat i)) => cond (Nat.ble i y) (some i) none
  | _ => none

/-- low, high, max, of a slice's expression: what is known of the capacity is 'cap'. -/
def boundsD (len cap : Nat) (lo hi mx : Option DV) : Option (Nat × Nat × Nat) :=
  (match mx with
    | some v => boundD v cap
    | none => some cap).bind fun m =>
  (match hi, mx with
    | some v, _ => boundD v m
    | none, none => some len
    | none, some _ => none).bind fun h =>
  (match lo with
    | some v => boundD v h
    | none => some 0).bind fun l => some (l, h, m)

def sliceD (P : Program) (t : TypeId) (x : DV) (lo hi mx : Option DV) : Option DV :=
  match P.underlying t, x with
  | some .string, .c (.string s) =>
    match mx with
    | some _ => none
    | none => (boundsD s.size s.size lo hi none).map fun (l, h, _) => .c (.string (s.extract l h))
  | some (.slice elem), .slice b o len cap ex sz =>
    match szOf P elem with
    | some z => cond (Nat.beq z sz) ((boundsD len cap lo hi mx).map fun (l, h, m) =>
        .slice b (o + l * sz) (h - l) (m - l) (cond mx.isSome true ex) sz) none
    | none => none
  | some (.slice elem), .c (.slice none 0 0) =>
    match szOf P elem with
    | some _ => (boundsD 0 0 lo hi mx).map fun _ => .c (.slice none 0 0)
    | none => none
  | _, _ => none

def fieldAddrD (P : Program) (t : TypeId) (x : DV) (f : Nat) : Option DV :=
  match P.underlying t, x with
  | some (.struct fields), .ptr b o =>
    match fields[f]? with
    | some fd =>
      match szOf P fd.type with
      | some (_ + 1) => some (.ptr b (o + fd.offset))
      | _ => none
    | none => none
  | _, _ => none

def fieldD (P : Program) (t : TypeId) (x : DV) (f : Nat) : Option DV :=
  match P.underlying t, x with
  | some (.struct fields), .agg cs => (fields[f]?).bind fun fd => partD P fd.type cs fd.offset
  | some (.struct fields), .c (.agg cs) => (fields[f]?).bind fun fd => partD P fd.type (cs.toList.map .c) fd.offset
  | _, _ => none

def indexAddrD (P : Program) (t : TypeId) (x ix : DV) : Option DV :=
  match P.underlying t, x, ix with
  | some (.array n elem), .ptr b o, .c (.int _ (.ofNat i)) =>
    match szOf P elem with
    | some sz => cond (Nat.blt i n) (some (.ptr b (o + i * sz))) none
    | none => none
  | some (.slice elem), .slice b o len _ _ sz, .c (.int _ (.ofNat i)) =>
    match szOf P elem with
    | some z => cond (Nat.beq z sz && Nat.blt i len) (some (.ptr b (o + i * sz))) none
    | none => none
  | _, _, _ => none

def indexD (P : Program) (t : TypeId) (x ix : DV) : Option DV :=
  match P.underlying t, x, ix with
  | some (.array n elem), .agg cs, .c (.int _ (.ofNat i)) =>
    match szOf P elem with
    | some sz => cond (Nat.blt i n) (partD P elem cs (i * sz)) none
    | none => none
  | some (.array n elem), .c (.agg cs), .c (.int _ (.ofNat i)) =>
    match szOf P elem with
    | some sz => cond (Nat.blt i n) (partD P elem (cs.toList.map .c) (i * sz)) none
    | none => none
  | some .string, .c (.string s), .c (.int _ (.ofNat i)) => (s.data.toList[i]?).map fun b => .c (.int .u8 b.toNat)
  | _, _, _ => none

def assertD (P : Program) (x : DV) (asserted : TypeId) (ok : Bool) : Option DV :=
  match P.underlying asserted, x with
  | some (.interface want), .iface t _ =>
    match P.info? t with
    | some i =>
      match Instr.missingMethod want i.methods with
      | none => some (if ok then .tup [x, .c (.bool true)] else x)
      | some _ => if ok then ((P.info? asserted).bind (·.zero)).map fun z => .tup [.c z, .c (.bool false)] else none
    | none => none
  | some (.interface _), .c .nilIface => if ok then ((P.info? asserted).bind (·.zero)).map fun z => .tup [.c z, .c (.bool false)] else none
  | some _, .c .nilIface => if ok then ((P.info? asserted).bind (·.zero)).map fun z => .tup [.c z, .c (.bool false)] else none
  | some _, .iface t v =>
    if Nat.beq t asserted then some (if ok then .tup [v, .c (.bool true)] else v)
    else if ok then ((P.info? asserted).bind (·.zero)).map fun z => .tup [.c z, .c (.bool false)] else none
  | _, _ => none

def extractD (x : DV) (i : Nat) : Option DV :=
  match x with
  | .tup vs => vs[i]?
  | .c (.tuple vs) => (vs[i]?).map .c
  | _ => none

def lenD (P : Program) (t : TypeId) (x : DV) : Option DV :=
  match P.underlying t, x with
  | some .string, .c (.string s) => some (.c (goInt s.size))
  | some (.slice _), .slice _ _ n _ _ _ => some (.c (goInt n))
  | some (.slice _), .c (.slice _ n _) => some (.c (goInt n))
  | some (.array n _), _ => some (.c (goInt n))
  | some (.pointer a), _ =>
    match P.underlying a with
    | some (.array n _) => some (.c (goInt n))
    | _ => none
  | some (.map _ _), .c (.map none) => some (.c (goInt 0))
  | _, _ => none

def capD (P : Program) (t : TypeId) (x : DV) : Option DV :=
  match P.underlying t, x with
  | some (.slice _), .slice _ _ _ cp true _ => some (.c (goInt cp))
  | some (.slice _), .c (.slice none _ n) => some (.c (goInt n))
  | some (.array n _), _ => some (.c (goInt n))
  | _, _ => none

/-- What a table adds: values of operations without effect, of open operands; calls by contract. -/
structure Tab where
  op : Op → List DV → Option DV
  call : FuncId → Option (List DV → St → Option (DV × St))

def Tab.none : Tab := { op := fun _ _ => .none, call := fun _ => .none }

def pureOp (P : Program) (o : Op) (ρ : Operand → DV) : Option DV :=
  match o with
  | .move x | .assign x => some (ρ x)
  | .pick c a b =>
    match ρ c with
    | .c (.bool r) => some (cond r (ρ a) (ρ b))
    | _ => none
  | .build t parts => buildD P t (parts.toList.map fun (i, x) => (i, ρ x))
  | .nilCheck x =>
    match ρ x with
    | .ptr b o => some (.ptr b o)
    | .c (.pointer (some a)) => some (.c (.pointer (some a)))
    | .c (.func (.func f) a b) => some (.c (.func (.func f) a b))
    | .func (.func f) a b => some (.func (.func f) a b)
    | .yieldv l => some (.yieldv l)
    | .iface t v => some (.iface t v)
    | _ => none
  | .binOp op t x y _ => binD P op t x y (ρ x) (ρ y)
  | .unOp op _ x => (ρ x).toV.bind fun v => (pureRun P (Op.unary op v)).map .c
  | .convert src dst x => (ρ x).toV.bind fun v => (pureRun P (Go.convert src dst v)).map .c
  | .makeInterface t x =>
    match P.underlying t with
    | some (.interface _) => none
    | some _ => some (.iface t (ρ x))
    | none => none
  | .makeFunc fn first cap => some (.func fn (first.toList.map ρ) (cap.toList.map ρ))
  | .slice t x lo hi mx => sliceD P t (ρ x) (lo.map ρ) (hi.map ρ) (mx.map ρ)
  | .fieldAddr t x f => fieldAddrD P t (ρ x) f
  | .field t x f => fieldD P t (ρ x) f
  | .indexAddr t x i => indexAddrD P t (ρ x) (ρ i)
  | .index t x i => indexD P t (ρ x) (ρ i)
  | .typeAssert x _ t ok => assertD P (ρ x) t ok
  | .extract x i => extractD (ρ x) i
  | .call { callee := .builtin .len, args, argTypes } =>
    match args.toList, argTypes.toList with
    | [x], t :: _ => lenD P t (ρ x)
    | _, _ => none
  | .call { callee := .builtin .cap, args, argTypes } =>
    match args.toList, argTypes.toList with
    | [x], t :: _ => capD P t (ρ x)
    | _, _ => none
  | .call { callee := .builtin .min, args, .. } => (toVs (args.toList.map ρ)).bind fun l => (pureRun P (Builtin.min_ #[] 0 ⟨l⟩)).map .c
  | .call { callee := .builtin .max, args, .. } => (toVs (args.toList.map ρ)).bind fun l => (pureRun P (Builtin.max_ #[] 0 ⟨l⟩)).map .c
  | _ => none

/-! ### What reads memory -/
def St.obj (s : St) (b : Nat) : Option DObj := s.heap.get b

/-- n cells from o on of a live block. -/
def St.row (s : St) (b o n : Nat) : Option (List DV) :=
  match s.obj b with
  | some (.cells pm m _) => cond (Nat.ble (o + n) m) (pm.toL o n) none
  | _ => none

def loadD (P : Program) (t : TypeId) (x : DV) (s : St) : Option DV :=
  match x, aggOf P t with
  | .ptr b o, some true => (szOf P t).bind fun n => (s.row b o n).map .agg
  | .ptr b o, some false =>
    match s.obj b with
    | some (.cells pm m _) => cond (Nat.blt o m) (pm.get o) none
    | _ => none
  | _, _ => none

def findD (kind : TypeDesc) (k : Value) : List (Value × DV × Nat) → Nat → Option (Option (Nat × DV))
  | [], _ => some none
  | (k', v, _) :: es, i =>
    match Instr.sameNow kind k k' with
    | some true => some (some (i, v))
    | some false => findD kind k es (i + 1)
    | none => none

/-- A key's kind, where keys are plain: whole numbers, strings, bools. -/
def plainKey (P : Program) (kt : TypeId) : Option TypeDesc :=
  match P.underlying kt with
  | some (.int i) => some (.int i)
  | some .string => some .string
  | some .bool => some .bool
  | _ => none

def mapEsD (m : DV) (s : St) : Option (List (Value × DV × Nat)) :=
  match m with
  | .c (.map none) => some []
  | .map b => match s.obj b with
    | some (.map es _) => some es
    | _ => none
  | _ => none

def lookupD (P : Program) (t : TypeId) (m k : DV) (ok : Bool) (s : St) : Option DV :=
  match P.underlying t, k.toV with
  | some (.map kt et), some key =>
    (plainKey P kt).bind fun kind =>
    (mapEsD m s).bind fun es =>
    (findD kind key es 0).bind fun r =>
    (match r with
      | some (_, v) => some (v, true)
      | none => ((P.info? et).bind (·.zero)).map fun z => (.c z, false)).map fun (v, is) =>
    if ok then .tup [v, .c (.bool is)] else v
  | _, _ => none

def bytesOf : List DV → Option (List UInt8)
  | [] => some []
  | .c (.int .u8 n) :: r => (bytesOf r).map fun l => UInt8.ofNat n.toNat :: l
  | _ => none

def isBytes (P : Program) (t : TypeId) : Bool :=
  match P.underlying t with
  | some (.slice e) => match P.underlying e with
    | some (.int .u8) => true
    | _ => false
  | _ => false

def isString (P : Program) (t : TypeId) : Bool :=
  match P.underlying t with
  | some .string => true
  | _ => false

def bytesToStringD (x : DV) (s : St) : Option DV :=
  match x with
  | .c (.slice none _ _) => some (.c (.string .empty))
  | .slice b o len _ _ sz => cond (Nat.beq sz 1) ((s.row b o len).bind fun l => (bytesOf l).map fun bs => .c (.string ⟨⟨bs⟩⟩)) none
  | _ => none

/-- A slice of an array behind a pointer. -/
def sliceArrD (P : Program) (n : Nat) (elem : TypeId) (b o : Nat) (lo hi mx : Option DV) (s : St) : Option DV :=
  match szOf P elem, s.obj b with
  | some sz, some (.cells _ m _) =>
    cond (Nat.ble (o + n * sz) m) ((boundsD n n lo hi mx).map fun (l, h, m) => .slice b (o + l * sz) (h - l) (m - l) true sz) none
  | _, _ => none

def slicePtrD (P : Program) (t : TypeId) (x : DV) (lo hi mx : Option DV) (s : St) : Option DV :=
  match P.underlying t, x with
  | some (.array n elem), .ptr b o => sliceArrD P n elem b o lo hi mx s
  | some (.pointer arr), .ptr b o =>
    match P.underlying arr with
    | some (.array n elem) => sliceArrD P n elem b o lo hi mx s
    | _ => none
  | _, _ => none

def readOp (P : Program) (o : Op) (ρ : Operand → DV) (s : St) : Option DV :=
  match o with
  | .load t a => loadD P t (ρ a) s
  | .lookup t m k ok => lookupD P t (ρ m) (ρ k) ok s
  | .slice t x lo hi mx => slicePtrD P t (ρ x) (lo.map ρ) (hi.map ρ) (mx.map ρ) s
  | .convert src dst x => cond (isBytes P src && isString P dst) (bytesToStringD (ρ x) s) none
  | .call { callee := .builtin .len, args, argTypes } =>
    match args.toList, argTypes.toList with
    | [x], t :: _ =>
      match P.underlying t, ρ x with
      | some (.map _ _), .map b => match s.obj b with
        | some (.map es _) => some (.c (goInt es.length))
        | _ => none
      | _, _ => none
    | _, _ => none
  | _ => none

/-! ### What changes memory -/
def St.new (s : St) (o : Nat → DObj) : Nat × St := (s.next, { s with heap := s.heap.set s.next (o s.next), next := s.next + 1 })

def St.newRow (s : St) (cs : List DV) : Nat × St := s.new fun b => .cells (PM.nil.ofList 0 cs) cs.length b

def killAll (h : PM DObj) (fam : Nat) : List Nat → PM DObj
  | [] => h
  | b :: bs => killAll (h.set b (.dead fam)) fam bs

/-- A write to block b of family f: the other members are gone. -/
def St.touch (s : St) (b fam : Nat) : St :=
  match s.fams.get fam with
  | none => s
  | some l => { s with heap := killAll s.heap fam (l.filter fun x => !(Nat.beq x b)), fams := s.fams.set fam [b] }

def setRow (pm : PM DV) : Nat → List DV → PM DV
  | _, [] => pm
  | o, x :: xs => setRow (pm.set o x) (o + 1) xs

def St.write (s : St) (b o : Nat) (cs : List DV) : Option St :=
  match s.obj b with
  | some (.cells pm m fam) =>
    cond (Nat.ble (o + cs.length) m && cs.all DV.one)
      (some (let s' := s.touch b fam; { s' with heap := s'.heap.set b (.cells (setRow pm o cs) m fam) })) none
  | _ => none

def storeD (P : Program) (t : TypeId) (a x : DV) (s : St) : Option St :=
  match a, szOf P t with
  | .ptr b o, some n => cond (Nat.beq x.cells.length n) (s.write b o x.cells) none
  | _, _ => none

def boxD (x : DV) (s : St) : Option (DV × St) :=
  cond (x.cells.all DV.one) (some (let (b, s') := s.newRow x.cells; (.ptr b 0, s'))) none

def buildSliceD (P : Program) (t : TypeId) (len : Nat) (parts : List (Nat × DV)) (s : St) : Option (DV × St) :=
  match P.underlying t with
  | some (.slice elem) =>
    match szOf P elem with
    | some sz =>
      cond (Nat.ble (len * sz) 65536 && Nat.ble 1 sz)
      ((zeroCellsD P elem).bind fun z =>
        cond (Nat.beq z.length sz)
        ((fillD (fun i => some (i * sz, sz)) (repeatL z len) parts).bind fun cs =>
          cond (cs.all DV.one)
          (some (let (b, s') := s.newRow cs; (.slice b 0 len len true sz, s'))) none) none) none
    | none => none
  | _ => none

def makeSliceD (P : Program) (t : TypeId) (l c : DV) (s : St) : Option (DV × St) :=
  match P.underlying t, l, c with
  | some (.slice elem), .c (.int _ (.ofNat len)), .c (.int _ (.ofNat cp)) =>
    match P.info? elem with
    | some i =>
      cond (Nat.ble len cp && Nat.ble cp 65536 && Nat.ble i.bytes 65536 && Nat.ble 1 i.size)
      ((zeroCellsD P elem).bind fun z =>
        cond (Nat.beq z.length i.size && z.all DV.one)
        (some (let (b, s') := s.newRow (repeatL z cp); (.slice b 0 len cp true i.size, s'))) none) none
    | none => none
  | _, _, _ => none

def stringToBytesD (x : DV) (s : St) : Option (DV × St) :=
  match x with
  | .c (.string bs) =>
    cond (Nat.ble bs.size 65536)
    (some (let l := bs.data.toList.map fun b => DV.c (.int .u8 b.toNat); let (b, s') := s.newRow l; (.slice b 0 bs.size bs.size false 1, s'))) none
  | _ => none

/-- The cells of what is appended or copied. -/
def srcCells (x : DV) (sz n : Nat) (s : St) : Option (List DV) :=
  match x with
  | .c (.slice none _ _) => some []
  | .slice b o _ _ _ z => cond (Nat.beq z sz) (s.row b o (n * sz)) none
  | .c (.string bs) => cond (Nat.beq sz 1) (some ((bs.data.toList.take n).map fun b => DV.c (.int .u8 b.toNat))) none
  | _ => none

def srcLen (x : DV) : Option Nat :=
  match x with
  | .c (.slice none n _) => some n
  | .slice _ _ n _ _ _ => some n
  | .c (.string bs) => some bs.size
  | _ => none

/-- An append that grows, or may grow in place: a new abstract block. -/
def growD (bl o len : Nat) (ex : Bool) (sz : Nat) (new : List DV) (k : Nat) (s : St) : Option (DV × St) :=
  match s.obj bl with
  | some (.cells pm m fam) =>
    cond (Nat.ble (o + len * sz) m)
    (match (match o with
      | 0 => some pm
      | _ + 1 => (pm.toL o (len * sz)).map fun l => PM.nil.ofList 0 l) with
    | none => none
    | some base =>
      let cells := setRow base (len * sz) new
      let need := len + k
      match ex with
      | true =>
        let (b, s') := s.new fun b => .cells cells (need * sz) b
        some (.slice b 0 need need false sz, s')
      | false =>
        -- the old block keeps what the slice holds; its kin are gone
        let s1 := s.touch bl fam
        let s2 : St := { s1 with heap := s1.heap.set bl (.cells pm (o + len * sz) fam) }
        let b := s2.next
        some (.slice b 0 need need false sz, { heap := s2.heap.set b (.cells cells (need * sz) fam), next := b + 1, fams := s2.fams.set fam [bl, b] })) none
  | _ => none

def zeroFits (i : TypeInfo) : Bool :=
  match i.zero with
  | some z => Nat.beq z.cells.size i.size
  | none => false

def appendTo (x : DV) (sz k : Nat) (new : List DV) (s : St) : Option (DV × St) :=
  match x with
  | .c (.slice none 0 0) =>
    match k with
    | 0 => some (.c (.slice none 0 0), s)
    | _ + 1 => cond (Nat.ble k 65536) (some (let (b, s') := s.newRow new; (.slice b 0 k k false sz, s'))) none
  | .slice bl o len cp ex z =>
    cond (Nat.beq z sz && Nat.ble (len + k) 65536)
      (cond (Nat.ble (len + k) cp)
        ((s.write bl (o + len * sz) new).map fun s' => (.slice bl o (len + k) cp ex sz, s'))
        (growD bl o len ex sz new k s)) none
  | _ => none

def appendD (P : Program) (argTypes : List TypeId) (x y : DV) (s : St) : Option (DV × St) :=
  match argTypes with
  | [t, u] =>
    match P.underlying t, P.underlying u with
    | _, some (.int _) => none
    | some (.slice elem), some _ =>
      match P.info? elem with
      | none => none
      | some i =>
        cond (Nat.ble 1 i.size && Nat.ble i.bytes 65536 && zeroFits i)
          ((srcLen y).bind fun k =>
            (srcCells y i.size k s).bind fun new =>
              cond (Nat.beq new.length (k * i.size) && new.all DV.one) (appendTo x i.size k new s) none) none
    | _, _ => none
  | _ => none

def copyD (P : Program) (argTypes : List TypeId) (x y : DV) (s : St) : Option (DV × St) :=
  match argTypes with
  | t :: _ =>
    match P.underlying t with
    | some (.slice elem) =>
      match szOf P elem with
      | some z =>
        (srcLen y).bind fun k =>
        match x with
        | .c (.slice none 0 _) => some (.c (goInt 0), s)
        | .slice b o len _ _ sz =>
          let n := Nat.min k len
          cond (Nat.beq z sz)
          ((srcCells y z n s).bind fun new =>
            cond (Nat.beq new.length (n * z))
            (match new with
              | [] => some (.c (goInt n), s)
              | _ :: _ => (s.write b o new).map fun s' => (.c (goInt n), s')) none) none
        | _ => none
      | none => none
    | _ => none
  | [] => none

def modAt (es : List (Value × DV × Nat)) (i : Nat) (f : Value × DV × Nat → Value × DV × Nat) : List (Value × DV × Nat) :=
  match es, i with
  | [], _ => []
  | e :: r, 0 => f e :: r
  | e :: r, i + 1 => e :: modAt r i f

def mapUpdateD (P : Program) (t : TypeId) (m k x : DV) (s : St) : Option St :=
  match P.underlying t, m, k.toV with
  | some (.map kt _), .map b, some key =>
    (plainKey P kt).bind fun kind =>
    match s.obj b with
    | some (.map es clock) =>
      (findD kind key es 0).bind fun r =>
      match r with
      | some (i, _) => some { s with heap := s.heap.set b (.map (modAt es i fun (_, _, n) => (key, x, n)) clock) }
      | none => some { s with heap := s.heap.set b (.map (es ++ [(key, x, clock)]) (clock + 1)) }
    | _ => none
  | _, _, _ => none

def deleteD (P : Program) (t : TypeId) (m k : DV) (s : St) : Option St :=
  match P.underlying t, m, k.toV with
  | some (.map kt _), .map b, some key =>
    (plainKey P kt).bind fun kind =>
    match s.obj b with
    | some (.map es clock) =>
      (findD kind key es 0).bind fun r =>
      match r with
      | some (i, _) => some { s with heap := s.heap.set b (.map (es.eraseIdx i) clock) }
      | none => some s
    | _ => none
  | _, _, _ => none

/-- some (some v): a value; some none: nothing. -/
def effOp (P : Program) (o : Op) (ρ : Operand → DV) (s : St) : Option (Option DV × St) :=
  match o with
  | .alloc t => (zeroCellsD P t).bind fun z => (boxD (.agg z) s).map fun (v, s) => (some v, s)
  | .box _ x => (boxD (ρ x) s).map fun (v, s) => (some v, s)
  | .buildSlice t n parts => (buildSliceD P t n (parts.toList.map fun (i, x) => (i, ρ x)) s).map fun (v, s) => (some v, s)
  | .makeSlice t l c => (makeSliceD P t (ρ l) (ρ c) s).map fun (v, s) => (some v, s)
  | .makeMap t none =>
    match P.underlying t with
    | some _ => let (b, s') := s.new fun _ => .map [] 0; some (some (.map b), s')
    | none => none
  | .convert src dst x => cond (isString P src && isBytes P dst) ((stringToBytesD (ρ x) s).map fun (v, s) => (some v, s)) none
  | .store t a x => (storeD P t (ρ a) (ρ x) s).map fun s => (none, s)
  | .mapUpdate t m k x => (mapUpdateD P t (ρ m) (ρ k) (ρ x) s).map fun s => (none, s)
  | .call { callee := .builtin .append, args, argTypes } =>
    match args.toList with
    | [x, y] => (appendD P argTypes.toList (ρ x) (ρ y) s).map fun (v, s) => (some v, s)
    | _ => none
  | .call { callee := .builtin .copy, args, argTypes } =>
    match args.toList with
    | [x, y] => (copyD P argTypes.toList (ρ x) (ρ y) s).map fun (v, s) => (some v, s)
    | _ => none
  | .call { callee := .builtin .delete, args, argTypes } =>
    match args.toList, argTypes.toList with
    | [m, k], t :: _ => (deleteD P t (ρ m) (ρ k) s).map fun s => (some undefD, s)
    | _, _ => none
  | _ => none

/-! ### Calls -/
inductive Tgt where
  | fn (f : FuncId) (args : List DV)
  | yield (l : Nat) (args : List DV)

def funcTgt (v : DV) (args : List DV) : Option Tgt :=
  match v with
  | .c (.func (.func f) a b) => some (.fn f ((a.toList.map .c ++ args) ++ b.toList.map .c))
  | .func (.func f) a b => some (.fn f ((a ++ args) ++ b))
  | .yieldv l => some (.yield l args)
  | _ => none

/-- A method of an interface value's type that is its own, with the value itself as the receiver. -/
def methodTgt (P : Program) (recv : DV) (name : String) (args : List DV) : Option Tgt :=
  match recv with
  | .iface t v =>
    match P.info? t with
    | some i =>
      match i.methods.find? (·.name == name) with
      | some m =>
        match m.path.toList, m.func, P.underlying t with
        | [], some (f, true), some (.pointer _) => some (.fn f (v :: args))
        | [], some (f, false), some d =>
          match d with
          | .pointer _ => none
          | _ => some (.fn f (v :: args))
        | _, _, _ => none
      | none => none
    | none => none
  | _ => none

def callTgt (P : Program) (o : Op) (ρ : Operand → DV) : Option Tgt :=
  match o with
  | .call { callee := .value f, args, .. } => funcTgt (ρ f) (args.toList.map ρ)
  | .call { callee := .invoke r name, args, .. } => methodTgt P (ρ r) name (args.toList.map ρ)
  | _ => none

inductive Cls where
  | still | eff | call
  deriving DecidableEq

def clsOf (P : Program) (o : Op) : Cls :=
  match o with
  | .alloc _ | .box .. | .buildSlice .. | .makeSlice .. | .makeMap .. | .store .. | .mapUpdate .. => .eff
  | .convert src dst _ => if isString P src && isBytes P dst then .eff else .still
  | .call { callee := .builtin b, .. } =>
    match b with
    | .append | .copy | .delete => .eff
    | _ => .still
  | .call _ => .call
  | _ => .still

def stillOp (P : Program) (T : Tab) (o : Op) (ρ : Operand → DV) (s : St) : Option DV :=
  match pureOp P o ρ with
  | some v => some v
  | none =>
    match readOp P o ρ s with
    | some v => some v
    | none => T.op o (o.operands.toList.map ρ)

inductive X where
  | normal
  | exit (id : Nat)
  | goto (l : Nat)
  | ret
  deriving DecidableEq

def X.done : X → Bool
  | .normal | .ret => true
  | _ => false

structure Rec where
  call : FuncId → List DV → St → Option (DV × St)
  code : Code → Fr → St → Option (X × Fr × St)
  scope : Code → Code → Fr → St → Option (X × Fr × St)

def Fr.enter (_ : Program) (f : FuncId) (fn : Func) (args : List DV) : Fr :=
  { fn := f, tm := PM.nil.ofList 0 args, nt := if args.length ≤ fn.ntmps then fn.ntmps else args.length, marks := [], round := none }

def resultD (P : Program) (fr : Fr) (s : St) : List ResultVar → Option (List DV)
  | [] => some []
  | .tmp t :: r => (resultD P fr s r).map fun l => fr.eval (.tmp t) :: l
  | .cell a t :: r => (loadD P t (fr.eval (.tmp a)) s).bind fun v => (resultD P fr s r).map fun l => v :: l

def oneOrTup : List DV → DV
  | [x] => x
  | l => .tup l

/-- A function's blocks for deferred calls are shut. -/
def shutMarks (h : PM DObj) : List Nat → Option (PM DObj)
  | [] => some h
  | m :: ms =>
    match h.get m with
    | some .defd => shutMarks (h.set m (.dead m)) ms
    | _ => none

def callStep (P : Program) (T : Tab) (rc : Rec) (f : FuncId) (args : List DV) (s : St) : Option (DV × St) :=
  match T.call f with
  | some g => g args s
  | none =>
  match P.funcs[f]? with
  | none => none
  | some fn =>
    match fn.body with
    | none => none
    | some c =>
      match rc.code c (Fr.enter P f fn args) s with
      | some (x, fr, s') =>
        cond x.done
          ((shutMarks s'.heap fr.marks).bind fun h => (resultD P fr { s' with heap := h } fn.results.toList).map fun l => (oneOrTup l, { s' with heap := h })) none
      | none => none

def roundStep (rc : Rec) (l : Nat) (args : List DV) (s : St) : Option (DV × St) :=
  match s.obj l with
  | some (.loop L) =>
    cond (Nat.beq args.length L.params.length)
    (let fr : Fr := { fn := L.fn, tm := (L.params.zip args).foldl (fun tm (t, a) => cond (Nat.blt t L.nt) (tm.set t a) tm) L.tm, nt := L.nt, marks := [], round := some l }
    match rc.code L.assign fr s with
    | some (.normal, fr1, s1) =>
      match s1.obj l with
      | some (.loop L1) =>
        match L1.state with
        | .ready =>
          match rc.code L.body fr1 { s1 with heap := s1.heap.set l (.loop { L1 with state := .busy }) } with
          | some (x, fr2, s2) =>
            match fr2.marks, s2.obj l with
            | [], some (.loop L2) =>
              let jump : Option Code := match x with
                | .normal => none
                | .exit id => some (.exit id)
                | .goto t => some (.goto t)
                | .ret => some .ret
              some (.c (.bool jump.isNone), { s2 with heap := s2.heap.set l (.loop { L2 with state := if jump.isNone then .ready else .done, pending := jump }) })
            | _, _ => none
          | none => none
        | _ => none
      | _ => none
    | _ => none) none
  | _ => none

def tgtStep (rc : Rec) (t : Tgt) (s : St) : Option (DV × St) :=
  match t with
  | .fn f args => rc.call f args s
  | .yield l args => roundStep rc l args s

/-- Is an operation to be done? none: not known. -/
def wantedD (ops : Array Oper) (fr : Fr) (o : Oper) : Option Bool :=
  match o.guard with
  | none => some true
  | some (j, want) =>
    match (ops[j]?).bind (·.dst) with
    | some t =>
      match cond (Nat.blt t fr.nt) ((fr.tm.get t).getD undefD) undefD with
      | .c (.bool b) => some (b == want)
      | .c _ => some false
      | _ => none
    | none => some false

/-- One operation: its value, and the memory behind it. -/
def stepD (P : Program) (T : Tab) (rc : Rec) (o : Op) (fr : Fr) (s : St) : Option (DV × St) :=
  match clsOf P o with
  | .still => (stillOp P T o fr.eval s).map fun v => (v, s)
  | .eff => (effOp P o fr.eval s).map fun (v, s') => (v.getD undefD, s')
  | .call => (callTgt P o fr.eval).bind fun t => tgtStep rc t s

/-- One operation, in the order of the text. -/
def operD (P : Program) (T : Tab) (rc : Rec) (ops : Array Oper) (o : Oper) (fr : Fr) (s : St) : Option (Fr × St) :=
  match wantedD ops fr o with
  | none => none
  | some false => some (fr.put o.dst undefD, s)
  | some true => (stepD P T rc o.op fr s).map fun (v, s') => (fr.put o.dst v, s')

def opsD (P : Program) (T : Tab) (rc : Rec) (ops : Array Oper) : List Oper → Fr → St → Option (Fr × St)
  | [], fr, s => some (fr, s)
  | o :: rest, fr, s =>
    match operD P T rc ops o fr s with
    | some (fr', s') => opsD P T rc ops rest fr' s'
    | none => none

/-! ### A region that draws its order -/
mutual
def sameV : Value → Value → Bool
  | .bool a, .bool b => a == b
  | .int k a, .int l b => decide (k = l) && decide (a = b)
  | .string a, .string b => decide (a.data.toList = b.data.toList)
  | .pointer a, .pointer b => decide (a = b)
  | .slice a m n, .slice b k l => decide (a = b) && Nat.beq m k && Nat.beq n l
  | .map a, .map b => decide (a = b)
  | .nilFunc, .nilFunc => true
  | .nilIface, .nilIface => true
  | .iface t v, .iface u w => Nat.beq t u && sameV v w
  | .agg a, .agg b => sameVs a.toList b.toList
  | .tuple a, .tuple b => sameVs a.toList b.toList
  | .func f a b, .func g c d => decide (f = g) && sameVs a.toList c.toList && sameVs b.toList d.toList
  | _, _ => false
def sameVs : List Value → List Value → Bool
  | [], [] => true
  | x :: xs, y :: ys => sameV x y && sameVs xs ys
  | _, _ => false
end
mutual
def sameD : DV → DV → Bool
  | .c a, .c b => sameV a b
  | .sym i, .sym j => Nat.beq i j
  | .ptr b o, .ptr c p => Nat.beq b c && Nat.beq o p
  | .slice b o l c e z, .slice b' o' l' c' e' z' => Nat.beq b b' && Nat.beq o o' && Nat.beq l l' && Nat.beq c c' && (e == e') && Nat.beq z z'
  | .map b, .map c => Nat.beq b c
  | .iter b, .iter c => Nat.beq b c
  | .yieldv b, .yieldv c => Nat.beq b c
  | .func f a b, .func g c d => decide (f = g) && sameDs a c && sameDs b d
  | .iface t v, .iface u w => Nat.beq t u && sameD v w
  | .agg a, .agg b => sameDs a b
  | .tup a, .tup b => sameDs a b
  | _, _ => false
def sameDs : List DV → List DV → Bool
  | [], [] => true
  | x :: xs, y :: ys => sameD x y && sameDs xs ys
  | _, _ => false
end

/-- The temporaries that an operation looks at, and no others. -/
def maskTm (tm : PM DV) : List Tmp → PM DV
  | [] => .nil
  | t :: ts =>
    match tm.get t with
    | some v => (maskTm tm ts).set t v
    | none => maskTm tm ts

def Fr.mask (fr : Fr) (ts : List Tmp) : Fr := { fr with tm := maskTm fr.tm ts }

/-- One operation of a run in the order of the text: what was ahead of it, its value, what is behind it. -/
structure TR where
  o : Oper
  fr : Fr
  s : St
  wt : Bool
  d : DV
  s' : St
  fl : Option (Nat × List DV)

/-- The new variables of a region, laid ahead of it: no other operation of the region need come behind, or ahead of, them. -/
def layD (P : Program) : List Oper → St → Option (List (Oper × Option (Nat × List DV)) × St)
  | [], s => some ([], s)
  | o :: r, s =>
    match o.op, o.guard with
    | .alloc t, none =>
      match zeroCellsD P t with
      | some z => cond (z.all DV.one) ((layD P r (s.newRow z).2).map fun (l, s'') => ((o, some ((s.newRow z).1, z)) :: l, s'')) none
      | none => none
    | _, _ => (layD P r s).map fun (l, s'') => ((o, none) :: l, s'')

def traceD (P : Program) (T : Tab) (rc : Rec) (ops : Array Oper) : List (Oper × Option (Nat × List DV)) → Fr → St → Option (List TR × Fr × St)
  | [], fr, s => some ([], fr, s)
  | (o, some (b, z)) :: rest, fr, s => (traceD P T rc ops rest (fr.put o.dst (.ptr b 0)) s).map fun (l, r) => (⟨o, fr.mask (o.looksAt ops), s, true, .ptr b 0, s, some (b, z)⟩ :: l, r)
  | (o, none) :: rest, fr, s =>
    let m := fr.mask (o.looksAt ops)
    match wantedD ops m o with
    | none => none
    | some false => (traceD P T rc ops rest (fr.put o.dst undefD) s).map fun (l, r) => (⟨o, m, s, false, undefD, s, none⟩ :: l, r)
    | some true =>
      match stepD P T rc o.op m s with
      | none => none
      | some (d, s') => (traceD P T rc ops rest (fr.put o.dst d) s').map fun (l, r) => (⟨o, m, s, true, d, s', none⟩ :: l, r)

def TR.eff (P : Program) (x : TR) : Bool :=
  x.wt && x.fl.isNone && (match clsOf P x.o.op with
    | .still => false
    | _ => true)

/-- Does the value of an operation hang on memory? -/
def TR.loose (P : Program) (x : TR) : Bool :=
  x.wt && x.fl.isNone && (match clsOf P x.o.op with
    | .still => (pureOp P x.o.op x.fr.eval).isNone
    | _ => false)

def TR.sameAt (P : Program) (T : Tab) (x : TR) (s : St) : Bool :=
  match stillOp P T x.o.op x.fr.eval s with
  | some u => sameD u x.d
  | none => false

/-- Effects are ordered; what is read is the same wherever it may be read. -/
def checkD (P : Program) (T : Tab) (bf : Array Nat) (tr : List (TR × Nat)) : Bool :=
  let es := tr.filter fun x => x.1.eff P
  let ls := tr.filter fun x => x.1.loose P
  es.all fun (y, k) =>
    (es.all fun (_, i) => Nat.ble k i || (bf.getD k 0).testBit i) &&
    (ls.all fun (x, i) => cond (Nat.blt k i) ((bf.getD i 0).testBit k || x.sameAt P T y.s) ((bf.getD k 0).testBit i || x.sameAt P T y.s'))

/-- Is what lies in block b as it was laid? -/
def sameRow (s : St) (b : Nat) (z : List DV) : Bool :=
  match s.heap.get b with
  | some (.cells pm n f) => Nat.beq n z.length && Nat.beq f b && (match pm.toL 0 n with
    | some l => sameDs l z
    | none => false)
  | _ => false

/-- What is laid ahead is as it was laid wherever it may be made. -/
def laidD (P : Program) (bf : Array Nat) (s0 : St) (tr : List (TR × Nat)) : Bool :=
  tr.all fun (x, i) =>
    match x.fl with
    | none => true
    | some (b, z) => sameRow s0 b z && ((tr.filter fun y => y.1.eff P).all fun (y, k) => (bf.getD k 0).testBit i || sameRow y.s' b z)

def drawD (P : Program) (T : Tab) (rc : Rec) (ops : Array Oper) (fr : Fr) (s : St) : Option (Fr × St) :=
  match layD P ops.toList s with
  | some (l, s0) =>
    match traceD P T rc ops l fr s0 with
    | some (tr, r) => cond (checkD P T (Region.before ops) tr.zipIdx && laidD P (Region.before ops) s0 tr.zipIdx) (some r) none
    | none => none
  | none => none

/-- Every two operations that meet at a temporary, one of which writes it, are ordered; no order is without an end. -/
def drawOK (ops : Array Oper) : Bool :=
  let bf := Region.before ops
  let ord (i j : Nat) : Bool := Nat.beq i j || (bf.getD j 0).testBit i || (bf.getD i 0).testBit j
  let ds : List (Tmp × Nat) := ops.toList.zipIdx.filterMap fun (o, i) => o.dst.map fun d => (d, i)
  let gc : List Nat := if Region.departs ops then Region.linearise .gc ops 0 else []
  ops.toList.zipIdx.all fun (o, j) =>
    (o.after.toList.all fun e => Nat.blt e.on ops.size && (match e.ground with
      | .gcOnly _ => true
      | _ => Nat.blt e.on j) && (!Region.departs ops || !Region.binds .gc e || Nat.blt (gc.idxOf e.on) (gc.idxOf j))) &&
    ((o.dst.toList ++ o.looksAt ops).all fun t => ds.all fun (d, i) => !(Nat.beq d t) || ord i j)

def rangeStep (rc : Rec) (again : Code → Fr → St → Option (X × Fr × St)) (f : Operand) (params : Array Tmp) (assign body : Code) (fr : Fr) (s : St) : Option (X × Fr × St) :=
  match (match fr.round with
    | some l =>
      match s.obj l with
      | some (.loop L) => some (L.defers, ([] : List Nat), s)
      | _ => none
    | none => let (d, s') := s.new fun _ => .defd; some (d, [d], s')) with
  | none => none
  | some (d, mk, s1) =>
    let L : DLoop := { state := .ready, pending := none, fn := fr.fn, tm := fr.tm, nt := fr.nt, params := params.toList, assign, body, defers := d }
    let (l, s2) := s1.new fun _ => .loop L
    match funcTgt (fr.eval f) [.yieldv l] with
    | some (.fn g args) =>
      match rc.call g args s2 with
      | some (_, s3) =>
        match s3.obj l with
        | some (.loop L3) =>
          match L3.state with
          | .busy => none
          | _ =>
            let s4 : St := { s3 with heap := s3.heap.set l (.loop { L3 with state := .exhausted }) }
            let fr' : Fr := { fr with marks := mk ++ fr.marks }
            match L3.pending with
            | none => some (.normal, fr', s4)
            | some c => again c fr' s4
        | _ => none
      | none => none
    | _ => none

def codeStep (P : Program) (T : Tab) (rc : Rec) (c : Code) (fr : Fr) (s : St) : Option (X × Fr × St) :=
  match c with
  | .skip => some (.normal, fr, s)
  | .label _ => some (.normal, fr, s)
  | .exit id => some (.exit id, fr, s)
  | .goto l => some (.goto l, fr, s)
  | .ret => some (.ret, fr, s)
  | .seq a b =>
    match rc.code a fr s with
    | some (.normal, fr', s') => rc.code b fr' s'
    | r => r
  | .cond o a b =>
    match fr.eval o with
    | .c (.bool r) => rc.code (cond r a b) fr s
    | _ => none
  | .block id b =>
    match rc.code b fr s with
    | some (.exit j, fr', s') => some (cond (Nat.beq j id) .normal (.exit j), fr', s')
    | r => r
  | .loop b =>
    match rc.code b fr s with
    | some (.normal, fr', s') => rc.code (.loop b) fr' s'
    | r => r
  | .scope b => rc.scope b b fr s
  | .region _ ops false => (opsD P T rc ops ops.toList fr s).map fun (fr, s) => (.normal, fr, s)
  | .region _ ops true =>
    cond (drawOK ops) ((drawD P T rc ops fr s).map fun (fr, s) => (.normal, fr, s)) none
  | .rangeFunc f params assign body => rangeStep rc rc.code f params assign body fr s
  | .refuse _ => none

/-- 'start' is run within the scope whose text is 'body'. -/
def scopeStep (rc : Rec) (body start : Code) (fr : Fr) (s : St) : Option (X × Fr × St) :=
  match rc.code start fr s with
  | some (.goto l, fr', s') =>
    match findLabel body l with
    | some rest => rc.scope body rest fr' s'
    | none => some (.goto l, fr', s')
  | r => r

def recStep (P : Program) (T : Tab) (rc : Rec) : Rec := { call := callStep P T rc, code := codeStep P T rc, scope := scopeStep rc }

def recN (P : Program) (T : Tab) : Nat → Rec
  | 0 => { call := fun _ _ _ => none, code := fun _ _ _ => none, scope := fun _ _ _ _ => none }
  | n + 1 => recStep P T (recN P T n)

def St.empty : St := { heap := .nil, next := 0, fams := .nil }

end Go.Dm
