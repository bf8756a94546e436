/- A part of the proof that TopAnewTrack returns true at every input of bulk at most 1048576: an evaluator of the code, in text order. -/
import Derived.AtR
import Derived.Orders
set_option linter.unusedVariables false
set_option linter.unusedSimpArgs false
namespace Go.Abs
inductive TK where
  | bool | int (k : IntKind) | string | pointer (e : TypeId) | slice (e : TypeId) | array (n : Nat) (e : TypeId) | map (k e : TypeId) | struct | func | iface | other
structure TI where
  size : Nat
  agg : Bool
  kind : TK
  zero : Value
  bytes : Nat
def kindOf : TypeDesc → TK
  | .bool => .bool
  | .int k => .int k
  | .string => .string
  | .pointer e => .pointer e
  | .slice e => .slice e
  | .array n e => .array n e
  | .map k e => .map k e
  | .struct _ => .struct
  | .func .. => .func
  | .interface _ => .iface
  | _ => .other
def isAggK : TK → Bool
  | .struct | .array _ _ => true
  | _ => false
def cellsOf : Value → List Value
  | .agg cs => cs.toList
  | v => [v]
def isAggV : Value → Bool
  | .agg _ => true
  | _ => false
def closed1 : Value → Bool
  | .bool _ | .int .. | .string _ | .pointer none | .map none | .nilFunc | .nilIface | .slice none 0 0 => true
  | _ => false
def closed : Value → Bool
  | .agg cs => cs.all closed1
  | v => closed1 v
def tinfo (P : Program) (t : TypeId) : Option TI :=
  match P.info? t with
  | some i =>
    match P.underlying t with
    | some d =>
      match i.zero with
      | some z => if closed z && (cellsOf z).length == i.size && (isAggK (kindOf d) == isAggV z) then some ⟨i.size, isAggK (kindOf d), kindOf d, z, i.bytes⟩ else none
      | none => none
    | none => none
  | none => none
def fieldOf (P : Program) (s : TypeId) (f : Nat) : Option (Nat × TypeId) :=
  match P.underlying s with
  | some (.struct fs) =>
    match fs[f]? with
    | some x => match P.info? x.type with
      | some i => if i.size = 0 then none else some (x.offset, x.type)
      | none => none
    | none => none
  | _ => none
def places (P : Program) (t : TypeId) : Option (List (Nat × Nat)) :=
  match P.underlying t with
  | some (.struct fs) => fs.toList.mapM fun x => (P.info? x.type).map fun i => (x.offset, i.size)
  | some (.array n e) => match P.info? e with
    | some i => some ((List.range n).map fun k => (k * i.size, i.size))
    | none => none
  | _ => none
def flatFields (g : TypeId → Option (List TK)) : List Field → Nat → Option (List TK)
  | [], _ => some []
  | f :: fs, off =>
    if f.name = "_" ∨ f.offset ≠ off then none else
    match g f.type with
    | none => none
    | some ks => match flatFields g fs (off + ks.length) with
      | none => none
      | some r => some (ks ++ r)
def flatKinds (P : Program) : Nat → TypeId → Option (List TK)
  | 0, _ => none
  | d + 1, t =>
    match (match P.underlying t with
      | some .bool => some [TK.bool]
      | some (.int k) => some [.int k]
      | some .string => some [.string]
      | some (.struct fs) => if P.stoodInHeld t then none else flatFields (flatKinds P d) fs.toList 0
      | _ => none), P.info? t with
    | some ks, some i => if i.size = ks.length then some ks else none
    | _, _ => none
def eqInfo (P : Program) (t : TypeId) : Option (List TK) :=
  match tinfo P t with
  | some ti => if ti.agg = true ∧ P.eqGuardType P.depth t = false then flatKinds P 8 t else none
  | none => none
def keyInfo (P : Program) (t : TypeId) : Option (Bool × List TK) :=
  match tinfo P t with
  | some ti => (flatKinds P 8 t).map fun ks => (ti.agg, ks)
  | none => none
abbrev Env := Nat → Value
def upd (e : Env) (d : Nat) (v : Value) : Env := fun t => if t = d then v else e t
inductive Blk where
  | none
  | gone
  | cells (own : Bool) (grow : Nat) (cs : List Value)
  | map (es : List MapEntry) (clock : Nat)
  | loop (st : LoopState) (pend : Option Code) (sz : Nat) (env : Env) (ps : List Tmp) (asg body : Code)
structure AW where
  next : Nat
  get : Nat → Blk
def AW.alloc (W : AW) (x : Blk) : AW := ⟨W.next + 1, fun b => if b = W.next then x else W.get b⟩
def AW.set (W : AW) (k : Nat) (x : Blk) : AW := ⟨W.next, fun b => if b = k then x else W.get b⟩
def splice (cs : List Value) (o : Nat) (vs : List Value) : List Value := cs.take o ++ (vs ++ cs.drop (o + vs.length))
def AW.row (W : AW) (a : Addr) (n : Nat) : Option (List Value) :=
  match W.get a.block with
  | .cells _ _ cs => if a.off + n ≤ cs.length then some ((cs.drop a.off).take n) else none
  | _ => none
def AW.put (W : AW) (a : Addr) (vs : List Value) : Option AW :=
  match W.get a.block with
  | .cells true g cs => if a.off + vs.length ≤ cs.length then some (W.set a.block (.cells true g (splice cs a.off vs))) else none
  | _ => none
def mkV (ti : TI) (vs : List Value) : Option Value := if ti.agg then some (.agg ⟨vs⟩) else vs.head?
def partV (P : Program) (t : TypeId) (cs : List Value) (off : Nat) : Option Value :=
  match tinfo P t with
  | some ti => if ti.agg then some (.agg ⟨(cs.drop off).take ti.size⟩) else cs[off]?
  | none => none
def scalarEq : Value → Value → Bool
  | .int j a, .int k b => decide (j = k) && a == b
  | .bool a, .bool b => a == b
  | .string a, .string b => a == b
  | _, _ => false
def allEq : List Value → List Value → Bool
  | [], [] => true
  | a :: x, b :: y => scalarEq a b && allEq x y
  | _, _ => false
def fit1 : TK → Value → Bool
  | .int _, .int _ _ | .bool, .bool _ | .string, .string _ => true
  | _, _ => false
def fits : List TK → List Value → Bool
  | [], [] => true
  | k :: ks, v :: vs => fit1 k v && fits ks vs
  | _, _ => false
def sameKind1 : Value → Value → Bool
  | .int j _, .int k _ => decide (j = k)
  | .bool _, .bool _ | .string _, .string _ => true
  | _, _ => false
def sameKinds : List Value → List Value → Bool
  | [], [] => true
  | a :: x, b :: y => sameKind1 a b && sameKinds x y
  | _, _ => false
def flatEq (x y : Value) : Bool := allEq (cellsOf x) (cellsOf y)
def asPtr : Value → Option Addr
  | .pointer (some a) => some a
  | _ => none
def asInt' : Value → Option Int
  | .int _ n => some n
  | _ => none
def asBool' : Value → Option Bool
  | .bool b => some b
  | _ => none
def asTuple : Value → Option (List Value)
  | .tuple vs => some vs.toList
  | _ => none
def asAgg' : Value → Option (List Value)
  | .agg vs => some vs.toList
  | _ => none
def asSlice : Value → Option (Option Addr × Nat × Nat)
  | .slice a n c => some (a, n, c)
  | _ => none
def fillL (pl : List (Nat × Nat)) (cells : List Value) : List (Nat × Value) → Option (List Value)
  | [] => some cells
  | (i, v) :: rest =>
    match pl[i]? with
    | none => none
    | some (off, size) => if (cellsOf v).length = size ∧ off + size ≤ cells.length then fillL pl (splice cells off (cellsOf v)) rest else none
def repCells (n : Nat) (zs : List Value) : List Value := (List.replicate n zs).flatten
inductive ANext where
  | value (v : Value)
  | skip
  | enter (f : FuncId) (args : List Value)
  | round (l : Nat) (args : List Value)
  | defer (f : FuncId) (args : List Value)
  | recover
  | panic (v : Value)
structure OpR where
  x : ANext
  W : AW
  rd : List Nat
  wr : List Nat
def aEval (e : Env) : Operand → Value
  | .tmp t => e t
  | .const v => v
  | .global g => .pointer (some ⟨g, 0, none⟩)
  | .func f => .func (.func f) #[] #[]
def arithI (op : BinOp) (k : IntKind) (a b : Int) : Option Value :=
  match op with
  | .add => some (.int k (k.wrap (a + b)))
  | .sub => some (.int k (k.wrap (a - b)))
  | .mul => some (.int k (k.wrap (a * b)))
  | .quo => if b = 0 then none else some (.int k (k.wrap (a.tdiv b)))
  | .rem => if b = 0 then none else some (.int k (a.tmod b))
  | .and => some (.int k (k.wrap (BitVec.ofInt k.bits a &&& BitVec.ofInt k.bits b).toNat))
  | .or => some (.int k (k.wrap (BitVec.ofInt k.bits a ||| BitVec.ofInt k.bits b).toNat))
  | .xor => some (.int k (k.wrap (BitVec.ofInt k.bits a ^^^ BitVec.ofInt k.bits b).toNat))
  | .andNot => some (.int k (k.wrap (BitVec.ofInt k.bits a &&& ~~~ BitVec.ofInt k.bits b).toNat))
  | .eql => some (.bool (a == b))
  | .neq => some (.bool (a != b))
  | .lss => some (.bool (decide (a < b)))
  | .leq => some (.bool (decide (a ≤ b)))
  | .gtr => some (.bool (decide (a > b)))
  | .geq => some (.bool (decide (a ≥ b)))
  | _ => none
def arithS (op : BinOp) (a b : ByteArray) : Option Value :=
  match op with
  | .add => if a.size + b.size ≤ 4611686018427387904 then some (.string (a ++ b)) else none
  | .eql => some (.bool (a.toList == b.toList))
  | .neq => some (.bool (!(a.toList == b.toList)))
  | .lss => some (.bool (Op.bytesLess a.toList b.toList))
  | .leq => some (.bool (Op.bytesLess a.toList b.toList || a.toList == b.toList))
  | .gtr => some (.bool (!(Op.bytesLess a.toList b.toList || a.toList == b.toList)))
  | .geq => some (.bool (!Op.bytesLess a.toList b.toList))
  | _ => none
def eqV (P : Program) (t : TypeId) (lit : Bool) (x y : Value) : Option Bool :=
  match x, y with
  | .bool a, .bool b => match tinfo P t with
    | some ⟨_, _, .bool, _, _⟩ => some (a == b)
    | _ => none
  | .agg a, .agg b => match eqInfo P t with
    | some ks => if fits ks a.toList ∧ fits ks b.toList ∧ sameKinds a.toList b.toList then some (allEq a.toList b.toList) else none
    | none => none
  | .slice a _ _, .slice none _ _ => match tinfo P t with
    | some ⟨_, _, .slice _, _, _⟩ => some a.isNone
    | _ => none
  | .pointer a, .pointer none => match tinfo P t with
    | some ⟨_, _, .pointer _, _, _⟩ => some a.isNone
    | _ => none
  | .iface _ _, .nilIface => match tinfo P t with
    | some ⟨_, _, .iface, _, _⟩ => some false
    | _ => none
  | .nilIface, .nilIface => match tinfo P t with
    | some ⟨_, _, .iface, _, _⟩ => if lit then some true else none
    | _ => none
  | _, _ => none
def binV (P : Program) (op : BinOp) (t : TypeId) (lit : Bool) (x y : Value) : Option Value :=
  match x, y with
  | .int k a, .int k' b =>
    match op with
    | .shl => if b < 0 then none else some (.int k (k.wrap (a * 2 ^ (min b.toNat k.bits))))
    | .shr => if b < 0 then none else some (.int k (a.fdiv (2 ^ (min b.toNat k.bits))))
    | _ => if k = k' then arithI op k a b else none
  | .string a, .string b => arithS op a b
  | x, y =>
    match op with
    | .eql => (eqV P t lit x y).map .bool
    | .neq => (eqV P t lit x y).map fun b => .bool (!b)
    | _ => none
def unV (op : UnOp) (x : Value) : Option Value :=
  match op, x with
  | .neg, .int k n => some (.int k (k.wrap (0 - n)))
  | .not, .bool b => some (.bool !b)
  | _, _ => none
def findE (k : Value) : List MapEntry → Nat → Option (Nat × Value)
  | [], _ => none
  | e :: es, i => if flatEq k e.key then some (i, e.val) else findE k es (i + 1)
def keyOk (P : Program) (kt : TypeId) (k : Value) (es : List MapEntry) : Bool :=
  match keyInfo P kt with
  | some (ag, ks) => isAggV k == ag && fits ks (cellsOf k) && es.all fun e => isAggV e.key == ag && fits ks (cellsOf e.key) && sameKinds (cellsOf k) (cellsOf e.key)
  | none => false
def mapOf (W : AW) (v : Value) : Option (Option Nat × List MapEntry × Nat) :=
  match v with
  | .map none => some (none, [], 0)
  | .map (some r) => match W.get r with
    | .map es c => some (some r, es, c)
    | _ => none
  | _ => none
def lookupA (P : Program) (t : TypeId) (m k : Value) (ok : Bool) (W : AW) : Option OpR :=
  match tinfo P t with
  | some ⟨_, _, .map kt et, _, _⟩ =>
    match mapOf W m, tinfo P et with
    | some (r, es, _), some te =>
      if keyOk P kt k es then
        let (v, is) := match findE k es 0 with
          | some (_, v) => (v, true)
          | none => (te.zero, false)
        some ⟨.value (if ok then .tuple ⟨[v, .bool is]⟩ else v), W, r.toList, []⟩
      else none
    | _, _ => none
  | _ => none
def mapUpdateA (P : Program) (t : TypeId) (m k v : Value) (W : AW) : Option OpR :=
  match tinfo P t with
  | some ⟨_, _, .map kt _, _, _⟩ =>
    match mapOf W m with
    | some (some r, es, c) =>
      if keyOk P kt k es then
        match findE k es 0 with
        | some (i, _) => some ⟨.skip, W.set r (.map (es.modify i fun e => { e with key := k, val := v }) c), [r], [r]⟩
        | none => some ⟨.skip, W.set r (.map (es ++ [{ key := k, val := v, born := c }]) (c + 1)), [r], [r]⟩
      else none
    | _ => none
  | _ => none
def mapEntryA (P : Program) (t : TypeId) (m k : Value) (W : AW) : Option OpR :=
  match tinfo P t with
  | some ⟨_, _, .map kt et, _, _⟩ =>
    match mapOf W m, tinfo P et with
    | some (some r, es, c), some te =>
      if keyOk P kt k es then
        match findE k es 0 with
        | some (i, v) => some ⟨.value (.tuple ⟨[v, .int .i64 (((es[i]?).map (·.born)).getD 0)]⟩), W.set r (.map (es.modify i fun e => { e with key := k }) c), [r], [r]⟩
        | none => some ⟨.value (.tuple ⟨[te.zero, .int .i64 c]⟩), W.set r (.map (es ++ [{ key := k, val := te.zero, born := c }]) (c + 1)), [r], [r]⟩
      else none
    | _, _ => none
  | _ => none
def entryStoreA (m s v : Value) (W : AW) : Option OpR :=
  match mapOf W m, s with
  | some (some r, es, c), .int _ b =>
    match es.findIdx? (fun e => (e.born : Int) == b) with
    | some i => some ⟨.skip, W.set r (.map (es.modify i fun e => { e with val := v }) c), [r], [r]⟩
    | none => none
  | _, _ => none
def idx? (v : Option Value) (d : Nat) : Option Nat :=
  match v with
  | none => some d
  | some (.int _ i) => if 0 ≤ i then some i.toNat else none
  | some _ => none
def growOk (W : AW) (b size : Nat) : Bool :=
  match W.get b with
  | .cells _ g _ => g == 0 || g == size
  | _ => false
def sliceA (P : Program) (t : TypeId) (x : Value) (lo hi mx : Option Value) (W : AW) : Option (Value × List Nat) :=
  match tinfo P t with
  | none => none
  | some ti =>
    match ti.kind, x with
    | .string, .string s =>
      match mx, idx? hi s.size, idx? lo 0 with
      | none, some h, some l => if l ≤ h ∧ h ≤ s.size then some (.string (s.extract l h), []) else none
      | _, _, _ => none
    | .slice e, .slice a n c =>
      match tinfo P e, idx? mx c, idx? hi n, idx? lo 0 with
      | some te, some m, some h, some l =>
        if l ≤ h ∧ h ≤ m ∧ m ≤ c ∧ (mx.isSome → hi.isSome) then
          match a with
          | none => some (.slice none (h - l) (m - l), [])
          | some a => if growOk W a.block te.size then some (.slice (some ⟨a.block, a.off + l * te.size, none⟩) (h - l) (m - l), [a.block]) else none
        else none
      | _, _, _, _ => none
    | .array n e, .pointer (some a) =>
      match tinfo P e, idx? mx n, idx? hi n, idx? lo 0 with
      | some te, some m, some h, some l =>
        if l ≤ h ∧ h ≤ m ∧ m ≤ n ∧ (mx.isSome → hi.isSome) ∧ n ≠ 0 ∧ te.size ≠ 0 then
          match W.get a.block with
          | .cells _ 0 _ => some (.slice (some ⟨a.block, a.off + l * te.size, none⟩) (h - l) (m - l), [a.block])
          | _ => none
        else none
      | _, _, _, _ => none
    | _, _ => none
def srcCells (W : AW) (size : Nat) : Value → Option (List Value × Nat × List Nat)
  | .slice (some a) n _ => (W.row a (n * size)).map fun vs => (vs, n, [a.block])
  | .slice none _ _ => some ([], 0, [])
  | .string s => if size = 1 then some (s.data.toList.map fun b => .int .u8 b.toNat, s.size, []) else none
  | _ => none
def appendA (P : Program) (t : TypeId) (s x : Value) (W : AW) : Option OpR :=
  match tinfo P t with
  | some ⟨_, _, .slice e, _, _⟩ =>
    match tinfo P e, s with
    | some te, .slice base n c =>
      match srcCells W te.size x with
      | some (new, m, rd) =>
        if te.size = 0 ∨ te.bytes = 0 ∨ te.bytes > 65536 ∨ (n + m) * te.bytes > 35184372088832 then none else
        if n + m ≤ c then
          match base with
          | some a =>
            if m = 0 then some ⟨.value (.slice base (n + m) c), W, rd, []⟩ else
            match W.put ⟨a.block, a.off + n * te.size, none⟩ new with
            | some W' => some ⟨.value (.slice base (n + m) c), W', a.block :: rd, [a.block]⟩
            | none => none
          | none => some ⟨.value (.slice none (n + m) c), W, rd, []⟩
        else
          match base with
          | none => if n = 0 then some ⟨.value (.slice (some ⟨W.next, 0, none⟩) m m), W.alloc (.cells true te.size new), rd, []⟩ else none
          | some a =>
            match W.get a.block with
            | .cells own g cs =>
              if a.off + n * te.size ≤ cs.length then
                if g = 0 then some ⟨.value (.slice (some ⟨W.next, 0, none⟩) (n + m) (n + m)), W.alloc (.cells true te.size ((cs.drop a.off).take (n * te.size) ++ new)), a.block :: rd, []⟩
                else if own = true ∧ g = te.size then some ⟨.value (.slice (some ⟨W.next, 0, none⟩) (n + m) (n + m)), (W.set a.block .gone).alloc (.cells true te.size ((cs.drop a.off).take (n * te.size) ++ new)), a.block :: rd, [a.block]⟩
                else none
              else none
            | _ => none
      | none => none
    | _, _ => none
  | _ => none
def max2A : Value → Value → Option Value
  | .int k x, .int _ y => some (.int k (if y > x then y else x))
  | _, _ => none
def min2A : Value → Value → Option Value
  | .int k x, .int _ y => some (.int k (if y < x then y else x))
  | _, _ => none
def foldA (f : Value → Value → Option Value) : Value → List Value → Option Value
  | x, [] => some x
  | x, y :: r => match f x y with
    | some z => foldA f z r
    | none => none
def lenA (P : Program) (t : TypeId) (x : Value) (W : AW) : Option (Value × List Nat) :=
  match tinfo P t with
  | none => none
  | some ti =>
    match ti.kind, x with
    | .string, .string s => some (.int .i64 s.size, [])
    | .slice _, .slice _ n _ => some (.int .i64 n, [])
    | .array n _, _ => some (.int .i64 n, [])
    | .map _ _, .map none => some (.int .i64 0, [])
    | .map _ _, .map (some r) => match W.get r with
      | .map es _ => some (.int .i64 es.length, [r])
      | _ => none
    | _, _ => none
def callA (f : Value) (args : List Value) (W : AW) : Option OpR :=
  match f with
  | .func (.func g) first captured => some ⟨.enter g (first.toList ++ args ++ captured.toList), W, [], []⟩
  | .func (.yield l) first _ => match W.get l with
    | .loop _ _ sz _ ps _ _ => if (first.toList ++ args).length = ps.length ∧ ps.all (fun t => decide (t < sz)) then some ⟨.round l (first.toList ++ args), W, [l], []⟩ else none
    | _ => none
  | _ => none
def indexAddrA (P : Program) (t : TypeId) (x ix : Value) : Option Value :=
  match tinfo P t, asInt' ix with
  | some ti, some i =>
    match ti.kind, x with
    | .slice e, .slice (some a) n _ => match tinfo P e with
      | some te => if 0 ≤ i ∧ i < n then some (.pointer (some ⟨a.block, a.off + i.toNat * te.size, none⟩)) else none
      | none => none
    | .array n e, .pointer (some a) => match tinfo P e with
      | some te => if 0 ≤ i ∧ i < n then some (.pointer (some ⟨a.block, a.off + i.toNat * te.size, none⟩)) else none
      | none => none
    | _, _ => none
  | _, _ => none
def indexA (P : Program) (t : TypeId) (x ix : Value) : Option Value :=
  match tinfo P t, asInt' ix with
  | some ti, some i =>
    match ti.kind, x with
    | .array n e, .agg cs => match tinfo P e with
      | some te => if 0 ≤ i ∧ i < n then partV P e cs.toList (i.toNat * te.size) else none
      | none => none
    | .string, .string s => if 0 ≤ i ∧ i.toNat < s.size then some (.int .u8 ((s.data.toList.getD i.toNat 0).toNat)) else none
    | _, _ => none
  | _, _ => none
def noTup : Value → Bool
  | .tuple _ => false
  | _ => true
def byteOf' : Value → Option UInt8
  | .int .u8 i => some (UInt8.ofNat i.toNat)
  | _ => none
def okV (W : AW) (v : Value) : OpR := ⟨.value v, W, [], []⟩
def copyA (P : Program) (t : TypeId) (d s : Value) (W : AW) : Option OpR :=
  match tinfo P t with
  | some ⟨_, _, .slice el, _, _⟩ =>
    match tinfo P el, d, s with
    | some te, .slice base n _, .slice sb m _ =>
      if min m n * te.size = 0 then some ⟨.value (.int .i64 (min m n : Nat)), W, [], []⟩ else
      match base, sb with
      | some a, some b =>
        match W.row b (min m n * te.size) with
        | some vs => match W.put a vs with
          | some W' => some ⟨.value (.int .i64 (min m n : Nat)), W', [a.block, b.block], [a.block]⟩
          | none => none
        | none => none
      | _, _ => none
    | _, _, _ => none
  | _ => none
def clearA (P : Program) (t : TypeId) (x : Value) (W : AW) : Option OpR :=
  match tinfo P t with
  | some ⟨_, _, .slice el, _, _⟩ =>
    match tinfo P el, x with
    | some te, .slice base n _ =>
      if n * te.size = 0 then none else
      match base with
      | some a => match W.put a (repCells n (cellsOf te.zero)) with
        | some W' => some ⟨.value (.tuple #[]), W', [a.block], [a.block]⟩
        | none => none
      | none => none
    | _, _ => none
  | _ => none
def isLit : Operand → Bool
  | .const _ => true
  | _ => false
def aop (P : Program) (ro : Option Nat) (e : Env) (o : Oper) (W : AW) : Option OpR :=
  match o.op with
  | .move x | .assign x => some (okV W (aEval e x))
  | .pick c a b => (asBool' (aEval e c)).map fun t => okV W (if t then aEval e a else aEval e b)
  | .alloc t => (tinfo P t).map fun ti => ⟨.value (.pointer (some ⟨W.next, 0, none⟩)), W.alloc (.cells true 0 (cellsOf ti.zero)), [], []⟩
  | .box _ x => if noTup (aEval e x) = false then none else some ⟨.value (.pointer (some ⟨W.next, 0, none⟩)), W.alloc (.cells true 0 (cellsOf (aEval e x))), [], []⟩
  | .build t ps =>
    match tinfo P t, places P t with
    | some ti, some pl => if ps.toList.all (fun p => noTup (aEval e p.2)) = false then none else (fillL pl (cellsOf ti.zero) (ps.toList.map fun p => (p.1, aEval e p.2))).map fun cs => okV W (.agg ⟨cs⟩)
    | _, _ => none
  | .buildSlice t n ps =>
    match tinfo P t with
    | some ⟨_, _, .slice el, _, _⟩ => match tinfo P el with
      | some te => if n * te.size ≤ 16777216 ∧ ps.toList.all (fun p => noTup (aEval e p.2)) = true then
          (fillL ((List.range n).map fun k => (k * te.size, te.size)) (repCells n (cellsOf te.zero)) (ps.toList.map fun p => (p.1, aEval e p.2))).map fun cs =>
            ⟨.value (.slice (some ⟨W.next, 0, none⟩) n n), W.alloc (.cells true 0 cs), [], []⟩
        else none
      | none => none
    | _ => none
  | .load t x =>
    match tinfo P t, asPtr (aEval e x) with
    | some ti, some a => (W.row a ti.size).bind fun vs => (mkV ti vs).map fun v => ⟨.value v, W, [a.block], []⟩
    | _, _ => none
  | .store t x y =>
    match tinfo P t, asPtr (aEval e x) with
    | some ti, some a => if (cellsOf (aEval e y)).length = ti.size ∧ noTup (aEval e y) = true then (W.put a (cellsOf (aEval e y))).map fun W' => ⟨.skip, W', [a.block], [a.block]⟩ else none
    | _, _ => none
  | .nilCheck x =>
    match aEval e x with
    | .pointer (some a) => some (okV W (.pointer (some a)))
    | .func (.func f) x y => some (okV W (.func (.func f) x y))
    | .slice a n c => some (okV W (.slice a n c))
    | .map m => some (okV W (.map m))
    | _ => none
  | .binOp op t x y _ => (binV P op t (isLit y) (aEval e x) (aEval e y)).map (okV W)
  | .unOp op _ x => (unV op (aEval e x)).map (okV W)
  | .convert s d x =>
    match tinfo P s, tinfo P d with
    | some ts, some td =>
      match td.kind, aEval e x with
      | .int k, .int _ n => some (okV W (.int k (k.wrap n)))
      | .string, .string v => match ts.kind with
        | .string => some (okV W (.string v))
        | _ => none
      | .slice el, .string v => match tinfo P el with
        | some ⟨1, false, .int .u8, _, _⟩ => some ⟨.value (.slice (some ⟨W.next, 0, none⟩) v.size v.size), W.alloc (.cells true 1 (v.data.toList.map fun b => Value.int .u8 b.toNat)), [], []⟩
        | _ => none
      | .string, .slice a n _ => match ts.kind with
        | .slice el => match tinfo P el with
          | some ⟨_, _, .int .u8, _, _⟩ => match a with
            | none => some (okV W (.string .empty))
            | some a => (W.row a n).bind fun vs => (vs.mapM byteOf').map fun bs => ⟨.value (.string ⟨⟨bs⟩⟩), W, [a.block], []⟩
          | _ => none
        | _ => none
      | _, _ => none
    | _, _ => none
  | .makeInterface t x => match tinfo P t with
    | some ti => match ti.kind with
      | .iface => none
      | _ => some (okV W (.iface t (aEval e x)))
    | none => none
  | .makeFunc fn first captured => match fn with
    | .func f => some (okV W (.func (.func f) ⟨first.toList.map (aEval e)⟩ ⟨captured.toList.map (aEval e)⟩))
    | _ => none
  | .makeMap t r => match tinfo P t with
    | some ⟨_, _, .map _ _, _, _⟩ => if r.all (fun x => (asInt' (aEval e x)).isSome) then some ⟨.value (.map (some W.next)), W.alloc (.map [] 0), [], []⟩ else none
    | _ => none
  | .makeSlice t l c =>
    match tinfo P t, aEval e l, aEval e c with
    | some ⟨_, _, .slice el, _, _⟩, .int .i64 n, .int .i64 m => match tinfo P el with
      | some te => if 0 ≤ n ∧ n ≤ m ∧ m * te.bytes ≤ 35184372088832 ∧ m ≤ 35184372088832 then
          some ⟨.value (.slice (some ⟨W.next, 0, none⟩) n.toNat m.toNat), W.alloc (.cells true 0 (repCells m.toNat (cellsOf te.zero))), [], []⟩
        else none
      | none => none
    | _, _, _ => none
  | .slice t x lo hi mx => (sliceA P t (aEval e x) (lo.map (aEval e)) (hi.map (aEval e)) (mx.map (aEval e)) W).map fun r => ⟨.value r.1, W, r.2, []⟩
  | .fieldAddr s x f =>
    match fieldOf P s f, asPtr (aEval e x) with
    | some (off, _), some a => some (okV W (.pointer (some ⟨a.block, a.off + off, none⟩)))
    | _, _ => none
  | .field s x f =>
    match fieldOf P s f, asAgg' (aEval e x) with
    | some (off, t), some cs => (partV P t cs off).map (okV W)
    | _, _ => none
  | .indexAddr t x ix => (indexAddrA P t (aEval e x) (aEval e ix)).map (okV W)
  | .index t x ix => (indexA P t (aEval e x) (aEval e ix)).map (okV W)
  | .lookup t m k ok => lookupA P t (aEval e m) (aEval e k) ok W
  | .mapUpdate t m k v | .insert t m k v => mapUpdateA P t (aEval e m) (aEval e k) (aEval e v) W
  | .mapEntry t m k => mapEntryA P t (aEval e m) (aEval e k) W
  | .entryStore _ m s v => entryStoreA (aEval e m) (aEval e s) (aEval e v) W
  | .extract x i => (asTuple (aEval e x)).bind fun vs => (vs[i]?).map (okV W)
  | .typeAssert x _ t ok =>
    match tinfo P t, aEval e x with
    | some ti, .iface u v => match ti.kind with
      | .iface => none
      | _ => if u = t then some (okV W (if ok then .tuple ⟨[v, .bool true]⟩ else v)) else if ok then some (okV W (.tuple ⟨[ti.zero, .bool false]⟩)) else none
    | some ti, .nilIface => match ti.kind with
      | .iface => none
      | _ => if ok then some (okV W (.tuple ⟨[ti.zero, .bool false]⟩)) else none
    | _, _ => none
  | .panic x => match aEval e x with
    | .iface t v => some ⟨.panic (.iface t v), W, [], []⟩
    | _ => none
  | .defer c => match ro, c.callee with
    | none, .value f => match aEval e f with
      | .func (.func g) first captured => some ⟨.defer g (first.toList ++ c.args.toList.map (aEval e) ++ captured.toList), W, [], []⟩
      | _ => none
    | _, _ => none
  | .call c =>
    let args := c.args.toList.map (aEval e)
    match c.callee with
    | .value f => callA (aEval e f) args W
    | .builtin b =>
      match b, args with
      | .append, [s, x] => (c.argTypes[0]?).bind fun t => (c.argTypes[1]?).bind fun u => (tinfo P u).bind fun tu => match tu.kind with
        | .int _ => none
        | _ => appendA P t s x W
      | .len, [x] => (c.argTypes[0]?).bind fun t => (lenA P t x W).map fun r => ⟨.value r.1, W, r.2, []⟩
      | .max, x :: r => (foldA max2A x r).map (okV W)
      | .min, x :: r => (foldA min2A x r).map (okV W)
      | .recover, [] => match ro with
        | none => some ⟨.recover, W, [], []⟩
        | some _ => none
      | .copy, [d, s] => (c.argTypes[0]?).bind fun t => copyA P t d s W
      | .clear, [x] => (c.argTypes[0]?).bind fun t => clearA P t x W
      | _, _ => none
    | .invoke .. => none
  | _ => none
def operandOk : Operand → Bool
  | .const v => closed v
  | .global _ => false
  | _ => true
def operOk (o : Oper) : Bool := o.op.operands.all operandOk
def codeOk : Code → Bool
  | .region _ ops _ => ops.all operOk
  | .seq a b => codeOk a && codeOk b
  | .cond c a b => operandOk c && codeOk a && codeOk b
  | .block _ c | .loop c | .scope c => codeOk c
  | .rangeFunc f _ a b => operandOk f && codeOk a && codeOk b
  | _ => true
def progOk (P : Program) : Bool := P.funcs.all fun f => f.body.all codeOk
def yieldedA (all : Array Oper) (e : Env) (j : Nat) : Option Bool :=
  match (all[j]?).bind (·.dst) with
  | some d => asBool' (e d)
  | none => none
def wantedA (all : Array Oper) (e : Env) (o : Oper) : Bool :=
  match o.guard with
  | none => true
  | some (j, want) => yieldedA all e j == some want
def ordered (bf : Array Nat) (i j : Nat) : Bool := (bf.getD j 0).testBit i || (bf.getD i 0).testBit j
def plainOp (o : Oper) : Bool :=
  match o.op with
  | .defer _ | .call ⟨.builtin .recover, _, _⟩ => false
  | _ => true
def regionOk (ops : Array Oper) : Bool :=
  let bf := Region.before ops
  ops.all plainOp &&
  (List.range ops.size).all fun j =>
    ((ops.getD j default).after.all fun ed => !Region.binds .any ed || decide (ed.on < j)) &&
    (List.range j).all fun i => ordered bf i j || Oper.apart ops (ops.getD i default) (ops.getD j default)
structure FPr where
  rd : Option (List Nat)
  wr : List Nat
  lo : Nat
  hi : Nat
def apartWB (a b : FPr) : Bool :=
  a.wr.isEmpty || (a.wr.all (fun x => !b.wr.contains x && !(decide (b.lo ≤ x) && decide (x < b.hi))) && match b.rd with
    | none => false
    | some r => a.wr.all fun x => !r.contains x)
def noConfB (ops : Array Oper) (fps : List FPr) : Bool :=
  let bf := Region.before ops
  (List.range fps.length).all fun j => (List.range j).all fun i => ordered bf i j ||
    match fps[i]?, fps[j]? with
    | some x, some y => apartWB x y && apartWB y x
    | _, _ => false
inductive AExit where
  | normal | exit (id : Nat) | goto (l : Nat) | ret | panic (v : Value)
structure Aux where
  defs : List (FuncId × List Value) := []
  pan : Option Value := none
inductive AOut where
  | returned (v : Value)
  | panicked (v : Value)
inductive Task where
  | code (ro : Option Nat) (sz : Nat) (c : Code) (env : Env) (X : Aux) (W : AW)
  | ops (ro : Option Nat) (sz : Nat) (all : Array Oper) (rest : List Oper) (env : Env) (X : Aux) (W : AW)
  | call (f : FuncId) (args : List Value) (pan : Option Value) (W : AW)
  | round (l : Nat) (args : List Value) (W : AW)
  | fin (f : FuncId) (env : Env) (defs : List (FuncId × List Value)) (mode : Option Value) (W : AW)
inductive Res where
  | code (e : AExit) (env : Env) (X : Aux) (W : AW) (wr : List Nat)
  | ops (panic : Option Value) (env : Env) (X : Aux) (W : AW) (fps : List FPr)
  | call (o : AOut) (pan : Option Value) (W : AW) (wr : List Nat)
def roundOk (W : AW) : Option Nat → Bool
  | none => true
  | some l => match W.get l with
    | .loop .. => true
    | _ => false
def putE (sz : Nat) (dst : Option Tmp) (env : Env) (v : Value) : Option Env :=
  match dst with
  | none => some env
  | some d => if d < sz then some (upd env d v) else none
def argEnv (args : List Value) : Env := fun t => args.getD t undef
def jumpOf : AExit → Option Code
  | .ret => some .ret
  | .exit id => some (.exit id)
  | .goto l => some (.goto l)
  | _ => none
def exitOf : Code → Option AExit
  | .ret => some .ret
  | .exit id => some (.exit id)
  | .goto l => some (.goto l)
  | _ => none
def updAll (env : Env) : List (Nat × Value) → Env
  | [] => env
  | (t, v) :: r => updAll (upd env t v) r
def wrs (fps : List FPr) : List Nat := (fps.map (·.wr)).flatten
def resultsA (P : Program) (fn : Func) (env : Env) (W : AW) : Option Value :=
  ((fn.results.toList.mapM fun (r : ResultVar) => match r with
    | .tmp t => some (env t)
    | .cell a t => match tinfo P t, asPtr (env a) with
      | some ti, some a => (W.row a ti.size).bind (mkV ti)
      | _, _ => none)).map fun vs => match vs with
    | [v] => v
    | vs => .tuple ⟨vs⟩
def allBefore (ops : Array Oper) (i : Nat) : Bool := decide (i + 1 = ops.size) && (List.range i).all fun k => ((Region.before ops).getD i 0).testBit k
def AW.wf (W : AW) : Prop := ∀ b, W.next ≤ b → W.get b = .none
structure AFr (W W' : AW) (wr : List Nat) : Prop where
  next : W.next ≤ W'.next
  same : ∀ b, b < W.next → b ∉ wr → W'.get b = W.get b
  lt : ∀ b ∈ wr, b < W'.next
structure Orc where
  run : FuncId → List Value → AW → Option (Value × AW)
  good : ∀ f args W v W', run f args W = some (v, W') → W.wf → W'.wf ∧ AFr W W' []
def ev (P : Program) (O : Orc) : Nat → Task → Option Res
  | 0, _ => none
  | n + 1, .code ro sz c env X W =>
    match c with
    | .skip | .label _ => some (.code .normal env X W [])
    | .ret => some (.code .ret env X W [])
    | .exit id => some (.code (.exit id) env X W [])
    | .goto l => some (.code (.goto l) env X W [])
    | .refuse _ => none
    | .seq a b =>
      match ev P O n (.code ro sz a env X W) with
      | some (.code .normal env X W wr) =>
        match ev P O n (.code ro sz b env X W) with
        | some (.code e env X W wr2) => some (.code e env X W (wr ++ wr2))
        | _ => none
      | some (.code e env X W wr) => some (.code e env X W wr)
      | _ => none
    | .cond c x y =>
      match aEval env c with
      | .bool t => ev P O n (.code ro sz (if t then x else y) env X W)
      | _ => none
    | .block id c =>
      match ev P O n (.code ro sz c env X W) with
      | some (.code (.exit id') env X W wr) => some (.code (if id' = id then .normal else .exit id') env X W wr)
      | some (.code e env X W wr) => some (.code e env X W wr)
      | _ => none
    | .scope c =>
      match ev P O n (.code ro sz c env X W) with
      | some (.code (.goto _) _ _ _ _) => none
      | some (.code e env X W wr) => some (.code e env X W wr)
      | _ => none
    | .loop c =>
      match ev P O n (.code ro sz c env X W) with
      | some (.code .normal env X W wr) =>
        match ev P O n (.code ro sz (.loop c) env X W) with
        | some (.code e env X W wr2) => some (.code e env X W (wr ++ wr2))
        | _ => none
      | some (.code e env X W wr) => some (.code e env X W wr)
      | _ => none
    | .region _ ops draw =>
      if draw && !regionOk ops then none else
      match ev P O n (.ops ro sz ops ops.toList env X W) with
      | some (.ops p env X W fps) =>
        if draw && !noConfB ops fps then none else
        match p with
        | none => some (.code .normal env X W (wrs fps))
        | some v => if draw && !allBefore ops (fps.length - 1) then none else some (.code (.panic v) env X W (wrs fps))
      | _ => none
    | .rangeFunc f ps asg body =>
      if roundOk W ro = false then none else
      match aEval env f with
      | .func (.func g) first captured =>
        match ev P O n (.call g (first.toList ++ [.func (.yield W.next) #[] #[]] ++ captured.toList) none (W.alloc (.loop .ready none sz env ps.toList asg body))) with
        | some (.call (.returned _) none W' wr) =>
          match W'.get W.next with
          | .loop st pend sz' env' ps' asg' body' =>
            if st = .busy then none else
            let W'' := W'.set W.next (.loop .exhausted pend sz' env' ps' asg' body')
            match pend with
            | none => some (.code .normal env X W'' (wr ++ [W.next]))
            | some c => (exitOf c).map fun e => .code e env X W'' (wr ++ [W.next])
          | _ => none
        | some (.call (.panicked v) none W' wr) => some (.code (.panic v) env X W' wr)
        | _ => none
      | _ => none
  | n + 1, .ops ro sz all rest env X W =>
    match rest with
    | [] => some (.ops none env X W [])
    | o :: rest =>
      if wantedA all env o = true then
        match aop P ro env o W with
        | none => none
        | some r =>
          let go (v : Value) (X : Aux) (W : AW) (fp : FPr) : Option Res :=
            match putE sz o.dst env v with
            | none => none
            | some env =>
              match ev P O n (.ops ro sz all rest env X W) with
              | some (.ops p env X W fps) => some (.ops p env X W (fp :: fps))
              | _ => none
          match r.x with
          | .value v => go v X r.W ⟨some r.rd, r.wr, W.next, r.W.next⟩
          | .skip => go undef X r.W ⟨some r.rd, r.wr, W.next, r.W.next⟩
          | .defer f args => go undef { X with defs := (f, args) :: X.defs } r.W ⟨some r.rd, r.wr, W.next, r.W.next⟩
          | .recover => match X.pan with
            | some v => go v { X with pan := none } r.W ⟨some r.rd, r.wr, W.next, r.W.next⟩
            | none => go .nilIface X r.W ⟨some r.rd, r.wr, W.next, r.W.next⟩
          | .panic v => some (.ops (some v) env X r.W [⟨some r.rd, r.wr, W.next, r.W.next⟩])
          | .enter f args =>
            match ev P O n (.call f args none r.W) with
            | some (.call (.returned v) none W' wr) => go v X W' ⟨none, wr, W.next, W'.next⟩
            | some (.call (.panicked v) none W' wr) => some (.ops (some v) env X W' [⟨none, wr, W.next, W'.next⟩])
            | _ => none
          | .round l args =>
            match ev P O n (.round l args r.W) with
            | some (.call (.returned v) none W' wr) => go v X W' ⟨none, wr, W.next, W'.next⟩
            | some (.call (.panicked v) none W' wr) => some (.ops (some v) env X W' [⟨none, wr, W.next, W'.next⟩])
            | _ => none
      else
        match putE sz o.dst env undef with
        | none => none
        | some env =>
          match ev P O n (.ops ro sz all rest env X W) with
          | some (.ops p env X W' fps) => some (.ops p env X W' (⟨some [], [], W.next, W.next⟩ :: fps))
          | _ => none
  | n + 1, .call f args pan W =>
    match P.funcs[f]? with
    | none => none
    | some fn =>
      if fn.name == "runtime.NumGoroutine" then none else
      match fn.body with
      | none => none
      | some body =>
        match (if pan.isNone then O.run f args W else none) with
        | some (v, W') => some (.call (.returned v) none W' [])
        | none =>
        match ev P O n (.code none (max args.length fn.ntmps) body (argEnv args) { defs := [], pan := pan } W) with
        | some (.code e env X W wr) =>
          match e with
          | .normal | .ret =>
            match ev P O n (.fin f env X.defs none W) with
            | some (.call o _ W wr2) => some (.call o X.pan W (wr ++ wr2))
            | _ => none
          | .panic v =>
            match ev P O n (.fin f env X.defs (some v) W) with
            | some (.call o _ W wr2) => some (.call o X.pan W (wr ++ wr2))
            | _ => none
          | _ => none
        | _ => none
  | n + 1, .fin f env defs mode W =>
    match defs with
    | [] =>
      match mode with
      | some v => some (.call (.panicked v) none W [])
      | none => match P.funcs[f]? with
        | none => none
        | some fn => (resultsA P fn env W).map fun v => .call (.returned v) none W []
    | (g, args) :: ds =>
      match ev P O n (.call g args mode W) with
      | some (.call (.returned _) mode' W wr) =>
        match ev P O n (.fin f env ds mode' W) with
        | some (.call o m W wr2) => some (.call o m W (wr ++ wr2))
        | _ => none
      | _ => none
  | n + 1, .round l args W =>
    match W.get l with
    | .loop _ _ sz env ps asg body =>
      if args.length ≠ ps.length then none else
      match ev P O n (.code (some l) sz asg (updAll env (ps.zip args)) {} W) with
      | some (.code .normal env1 X1 W1 wr1) =>
        match W1.get l with
        | .loop .ready pend sz' env' ps' asg' body' =>
          match ev P O n (.code (some l) sz body env1 X1 (W1.set l (.loop .busy pend sz' env' ps' asg' body'))) with
          | some (.code e _ X2 W2 wr2) =>
            if X2.defs.isEmpty then
              match e with
              | .panic v => some (.call (.panicked v) none W2 (wr1 ++ l :: wr2))
              | e =>
                match W2.get l with
                | .loop _ _ sz2 env2 ps2 asg2 body2 =>
                  let j := jumpOf e
                  some (.call (.returned (.bool j.isNone)) none (W2.set l (.loop (if j.isNone then .ready else .done) j sz2 env2 ps2 asg2 body2)) (wr1 ++ l :: (wr2 ++ [l])))
                | _ => none
            else none
          | _ => none
        | _ => none
      | _ => none
    | _ => none
end Go.Abs
