/- A deterministic reading of the program's code over a heap of objects ('shadow'): definitions. -/
import Derived.Orders
import Derived.Below
import Derived.KernelRfl
namespace Go.Sx
open Go

/-- The capacity that is not known. -/
def unk : Nat := 18446744073709551616

/-- Where an object lies: block, first cell, cells up to the block's end, cells of an element. -/
structure Loc where
  b : Nat
  d : Nat
  e : Nat
  z : Nat

/-- Objects: a row of cells (element type, may it be appended to, is it only read), a map, one that was consumed. -/
inductive SObj where
  | row (cs : List Value) (ty : TypeId) (grow ro : Bool)
  | map (es : List (Value × Value))
  | dead

/-- The way to a number in a tree. -/
def wayF : Nat → Nat → List Bool
  | 0, _ => []
  | n + 1, k => if k = 0 then [] else if k % 2 = 1 then true :: wayF n (k / 2) else false :: wayF n (k / 2 - 1)
def way (k : Nat) : List Bool := wayF k k

/-- Objects by number, as a tree. -/
inductive OTr where
  | leaf
  | node (o : SObj) (l r : OTr)

noncomputable def OTr.look (t : OTr) : List Bool → SObj :=
  OTr.rec (motive := fun _ => List Bool → SObj) (fun _ => .dead) (fun v _ _ gl gr p => List.rec (motive := fun _ => SObj) v (fun b p _ => Bool.rec (motive := fun _ => SObj) (gr p) (gl p) b) p) t
noncomputable def OTr.lay (p : List Bool) : SObj → OTr → OTr :=
  List.rec (motive := fun _ => SObj → OTr → OTr)
    (fun u t => OTr.rec (motive := fun _ => OTr) (.node u .leaf .leaf) (fun _ l r _ _ => .node u l r) t)
    (fun b _ ih u t => OTr.rec (motive := fun _ => OTr)
      (Bool.rec (motive := fun _ => OTr) (.node .dead .leaf (ih u .leaf)) (.node .dead (ih u .leaf) .leaf) b)
      (fun v l r _ _ => Bool.rec (motive := fun _ => OTr) (.node v l (ih u r)) (.node v (ih u l) r) b) t) p
noncomputable def OTr.get (t : OTr) (k : Nat) : SObj := t.look (way k)
noncomputable def OTr.set (t : OTr) (k : Nat) (u : SObj) : OTr := OTr.lay (way k) u t

structure SHeap where
  next : Nat
  floor : Nat
  objs : OTr

noncomputable def SHeap.get (h : SHeap) (i : Nat) : SObj := if i < h.next then h.objs.get i else .dead
noncomputable def SHeap.push (h : SHeap) (o : SObj) : SHeap := { next := h.next + 1, floor := h.floor, objs := h.objs.set h.next o }
noncomputable def SHeap.put (h : SHeap) (i : Nat) (o : SObj) : SHeap := { next := h.next, floor := h.floor, objs := h.objs.set i o }
def SHeap.fl (h : SHeap) (f : Nat) : SHeap := { next := h.next, floor := f, objs := h.objs }
/-- (Nothing is asked of a heap's form.) -/
def SHeap.good (h : SHeap) : Prop := h.next = h.next

/-- Slots, as a tree. -/
inductive Tr where
  | leaf
  | node (v : Value) (l r : Tr)

noncomputable def Tr.look (t : Tr) : List Bool → Value :=
  Tr.rec (motive := fun _ => List Bool → Value) (fun _ => undef) (fun v _ _ gl gr p => List.rec (motive := fun _ => Value) v (fun b p _ => Bool.rec (motive := fun _ => Value) (gr p) (gl p) b) p) t
noncomputable def Tr.lay (p : List Bool) : Value → Tr → Tr :=
  List.rec (motive := fun _ => Value → Tr → Tr)
    (fun u t => Tr.rec (motive := fun _ => Tr) (.node u .leaf .leaf) (fun _ l r _ _ => .node u l r) t)
    (fun b _ ih u t => Tr.rec (motive := fun _ => Tr)
      (Bool.rec (motive := fun _ => Tr) (.node undef .leaf (ih u .leaf)) (.node undef (ih u .leaf) .leaf) b)
      (fun v l r _ _ => Bool.rec (motive := fun _ => Tr) (.node v l (ih u r)) (.node v (ih u l) r) b) t) p
noncomputable def Tr.get (t : Tr) (k : Nat) : Value := t.look (way k)
noncomputable def Tr.set (t : Tr) (k : Nat) (u : Value) : Tr := Tr.lay (way k) u t
noncomputable def Tr.put (t : Tr) (dst : Option Tmp) (u : Value) : Tr := match dst with | some d => t.set d u | none => t

noncomputable def ev (T : Tr) : Operand → Value
  | .tmp t => T.get t
  | .const v => v
  | .global g => .pointer (some ⟨g, 0, none⟩)
  | .func f => .func (.func f) #[] #[]

/-- A computation that looks at the program alone. -/
def pureRun {α : Type} (P : Program) : Sem α → Option α
  | .pure a => some a
  | .program k => pureRun P (k P)
  | .mark _ k => pureRun P k
  | _ => none

/-- Values of one cell without an address in them. -/
def flat1 : Value → Bool
  | .bool _ | .int _ _ | .string _ | .nilFunc | .nilIface | .pointer none | .map none | .slice none 0 0 => true
  | _ => false
def flat : Value → Bool
  | .agg cs => cs.toList.all flat1
  | v => flat1 v

def one : Value → Bool
  | .agg _ | .tuple _ => false
  | _ => true

def szOf (P : Program) (t : TypeId) : Option Nat := (P.info? t).map (·.size)
def byOf (P : Program) (t : TypeId) : Option Nat := (P.info? t).map (·.bytes)
def zeroOf (P : Program) (t : TypeId) : Option Value := match P.info? t with | some i => i.zero | none => none
def aggOf (P : Program) (t : TypeId) : Option Bool := match P.underlying t with | some (.struct _) | some (.array _ _) => some true | some _ => some false | none => none

/-- n cells from a place on. -/
def cut (cs : List Value) (off n : Nat) : Option (List Value) := let l := (cs.drop off).take n; if l.length = n then some l else none

noncomputable def loadS (P : Program) (h : SHeap) (t : TypeId) (v : Value) : Option Value :=
  match v with
  | .pointer (some ⟨id, off, none⟩) =>
    match h.get id with
    | .row cs _ _ _ =>
      match aggOf P t with
      | some true => match szOf P t with
        | some n => match cut cs off n with
          | some l => some (.agg l.toArray)
          | none => none
        | none => none
      | some false => cs[off]?
      | none => none
    | _ => none
  | _ => none

/-- Cells laid over a list from a place on. -/
def lay (cs : List Value) (off : Nat) (new : List Value) : List Value := cs.take off ++ new ++ cs.drop (off + new.length)

noncomputable def storeRow (h : SHeap) (id off : Nat) (new : List Value) : Option SHeap :=
  match h.get id with
  | .row cs ty g false => if h.floor ≤ id && off + new.length ≤ cs.length && new.all one then some (h.put id (.row (lay cs off new) ty g false)) else none
  | _ => none

noncomputable def storeS (P : Program) (h : SHeap) (t : TypeId) (a v : Value) : Option SHeap :=
  match a with
  | .pointer (some ⟨id, off, none⟩) =>
    if szOf P t = some v.cells.size then storeRow h id off v.cells.toList else none
  | _ => none

def asN : Value → Option Int
  | .int _ n => some n
  | _ => none

def idxAddr (P : Program) (t : TypeId) (x i : Value) : Option Value :=
  match P.underlying t, x, i with
  | some (.slice e), .slice (some a) len _, .int _ n =>
    if 0 ≤ n ∧ n < (len : Int) then match szOf P e with
      | some s => some (.pointer (some (a.add (n.toNat * s))))
      | none => none
    else none
  | some (.array len e), .pointer (some a), .int _ n =>
    if 0 ≤ n ∧ n < (len : Int) then match szOf P e with
      | some s => some (.pointer (some (a.add (n.toNat * s))))
      | none => none
    else none
  | _, _, _ => none

/-- A bound of a slice expression: not there, or from lo to hi. -/
def bound (x : Option Value) (dflt lo hi : Nat) : Option Nat :=
  match x with
  | none => some dflt
  | some (.int _ n) => if (lo : Int) ≤ n ∧ n ≤ (hi : Int) then some n.toNat else none
  | _ => none

noncomputable def sliceS (P : Program) (hp : SHeap) (t : TypeId) (x : Value) (lo hi mx : Option Value) : Option Value :=
  match P.underlying t, x with
  | some (.slice e), .slice a len cap =>
    match szOf P e with
    | some s =>
      if cap = unk then
        match mx, bound hi len 0 len with
        | none, some h => match bound lo 0 0 h, a with
          | some l, some ⟨id, off, none⟩ =>
            if l = 0 then some (.slice a h unk) else
            match hp.get id with
            | .row _ ty _ false => if szOf P ty = some s then some (.slice (some ⟨id, off + l * s, none⟩) (h - l) unk) else none
            | _ => none
          | _, _ => none
        | _, _ => none
      else
        match (match mx with | none => some cap | some _ => (match hi with | some _ => bound mx 0 0 cap | none => none)) with
        | some m => match bound hi len 0 m with
          | some h => match bound lo 0 0 h with
            | some l => some (.slice (if m = l then a else a.map (·.add (l * s))) (h - l) (m - l))
            | none => none
          | none => none
        | none => none
    | none => none
  | some (.string), .string s =>
    if mx.isSome then none else
    match bound hi s.size 0 s.size with
    | some h => match bound lo 0 0 h with
      | some l => some (.string (s.extract l h))
      | none => none
    | none => none
  | some (.array n e), .pointer (some a) =>
    if mx.isSome || decide (281474976710656 < n) then none else
    match bound hi n 0 n with
    | some h => match bound lo 0 0 h with
      | some l => match szOf P e with
        | some s => some (.slice (some (if n = l then a else a.add (l * s))) (h - l) (n - l))
        | none => none
      | none => none
    | none => none
  | _, _ => none

def fieldAddrS (P : Program) (s : TypeId) (x : Value) (f : Nat) : Option Value :=
  match P.underlying s, x with
  | some (.struct fs), .pointer (some a) =>
    match fs[f]? with
    | some fd => match szOf P fd.type with
      | some 0 => none
      | some _ => some (.pointer (some (a.add fd.offset)))
      | none => none
    | none => none
  | _, _ => none

def fieldS (P : Program) (s : TypeId) (x : Value) (f : Nat) : Option Value :=
  match P.underlying s, x with
  | some (.struct fs), .agg cs =>
    match fs[f]? with
    | some fd => match aggOf P fd.type with
      | some true => match szOf P fd.type with
        | some n => some (.agg (cs.extract fd.offset (fd.offset + n)))
        | none => none
      | some false => cs[fd.offset]?
      | none => none
    | none => none
  | _, _ => none

def places (P : Program) : List Field → Option (List (Nat × Nat))
  | [] => some []
  | f :: fs => match szOf P f.type with
    | some n => match places P fs with
      | some l => some ((f.offset, n) :: l)
      | none => none
    | none => none

def fillS (place : Nat → Option (Nat × Nat)) (cells : List Value) : List (Nat × Value) → Option (List Value)
  | [] => some cells
  | (i, v) :: rest =>
    match place i with
    | none => none
    | some (off, size) =>
      if v.cells.size ≠ size || off + v.cells.size > cells.length then none
      else fillS place (lay cells off v.cells.toList) rest

def buildS (P : Program) (t : TypeId) (parts : List (Nat × Value)) : Option Value :=
  match zeroOf P t with
  | some z =>
    if flat z then
      match P.underlying t with
      | some (.struct fs) => match places P fs.toList with
        | some pl => match fillS (fun i => pl[i]?) z.cells.toList parts with
          | some cs => some (.agg cs.toArray)
          | none => none
        | none => none
      | some (.array _ e) => match szOf P e with
        | some s => match fillS (fun i => some (i * s, s)) z.cells.toList parts with
          | some cs => some (.agg cs.toArray)
          | none => none
        | none => none
      | _ => none
    else none
  | none => none

/-- n times the cells of a zero value. -/
def zeros (z : List Value) : Nat → List Value
  | 0 => []
  | n + 1 => z ++ zeros z n

noncomputable def buildSliceS (P : Program) (h : SHeap) (t : TypeId) (len : Nat) (parts : List (Nat × Value)) : Option (Value × SHeap) :=
  match P.underlying t with
  | some (.slice e) =>
    match szOf P e, zeroOf P e with
    | some s, some z =>
      if flat z && z.cells.size == s && decide (0 < s) && decide (len * s ≤ 16777216) then
        match fillS (fun i => some (i * s, s)) (zeros z.cells.toList len) parts with
        | some cs => some (.slice (some ⟨h.next, 0, none⟩) len len, h.push (.row cs e false false))
        | none => none
      else none
    | _, _ => none
  | _ => none

noncomputable def makeSliceS (P : Program) (h : SHeap) (t : TypeId) (l c : Value) : Option (Value × SHeap) :=
  match P.underlying t, l, c with
  | some (.slice e), .int _ l, .int _ c =>
    match szOf P e, zeroOf P e, byOf P e with
    | some s, some z, some by_ =>
      if flat z && z.cells.size == s && decide (0 < s) && decide (0 ≤ l) && decide (l ≤ c) && decide ((by_ : Int) * c ≤ 281474976710656) && decide (c ≤ 281474976710656) then
        some (.slice (some ⟨h.next, 0, none⟩) l.toNat c.toNat, h.push (.row (zeros z.cells.toList c.toNat) e false false))
      else none
    | _, _, _ => none
  | _, _, _ => none

/-- The cells of the first n elements of a slice. -/
noncomputable def srcCells (h : SHeap) (s n : Nat) (x : Value) : Option (List Value) :=
  match x with
  | .slice none _ _ => if n = 0 then some [] else none
  | .slice (some ⟨id, off, none⟩) _ _ => if n = 0 then some [] else
    match h.get id with
    | .row cs _ _ _ => cut cs off (n * s)
    | _ => none
  | _ => none

/-- append of elements that lie in a slice. -/
noncomputable def appendS (P : Program) (h : SHeap) (t : TypeId) (dst src : Value) : Option (Value × SHeap) :=
  match P.underlying t, dst, src with
  | some (.slice e), .slice base len cap, .slice sb n sc =>
    match szOf P e, byOf P e, zeroOf P e with
    | some s, some by_, some z =>
      if decide (0 < s) && z.cells.size == s && decide (len ≤ cap) then
      match srcCells h s n (.slice sb n sc) with
      | some new =>
        if new.all one then
        if cap = unk then
          match base with
          | some ⟨id, off, none⟩ =>
            if decide ((len + n) * by_ ≤ 140737488355328) && decide (len + n ≤ 140737488355328) && decide (h.floor ≤ id) then
              if n = 0 then some (dst, h) else
              match h.get id with
              | .row cs ty true false =>
                if ty = e then
                match cut cs off (len * s) with
                | some old => if old.all one then some (.slice (some ⟨h.next, 0, none⟩) (len + n) unk, (h.put id .dead).push (.row (old ++ new) e true false)) else none
                | none => none
                else none
              | _ => none
            else none
          | _ => none
        else if len + n ≤ cap then
          if n = 0 then some (.slice base (len + n) cap, h) else
          match base with
          | some ⟨id, off, none⟩ => match storeRow h id (off + len * s) new with
            | some h' => some (.slice base (len + n) cap, h')
            | none => none
          | _ => none
        else if decide ((len + n) * by_ ≤ 140737488355328) && decide (cap * by_ ≤ 140737488355328) && decide (len + n ≤ 140737488355328) && decide (cap ≤ 140737488355328) then
          match srcCells h s len (.slice base len cap) with
          | some old => some (.slice (some ⟨h.next, 0, none⟩) (len + n) unk, h.push (.row (old ++ new) e true false))
          | none => none
        else none
        else none
      | none => none
      else none
    | _, _, _ => none
  | _, _, _ => none

noncomputable def copyS (P : Program) (h : SHeap) (t : TypeId) (dst src : Value) : Option (Value × SHeap) :=
  match P.underlying t, dst, src with
  | some (.slice e), .slice base len _, .slice sb n sc =>
    match szOf P e with
    | some s =>
      let m := min n len
      match srcCells h s m (.slice sb n sc) with
      | some new => match base with
        | some ⟨id, off, none⟩ => if m = 0 then some (.int .i64 m, h) else match storeRow h id off new with
          | some h' => some (.int .i64 m, h')
          | none => none
        | none => some (.int .i64 m, h)
        | _ => none
      | none => none
    | none => none
  | _, _, _ => none

/-- Keys of maps: integers and strings. -/
def keyEq : Value → Value → Option Bool
  | .int k a, .int k' b => if k = k' then some (a == b) else none
  | .string a, .string b => some (a == b)
  | _, _ => none

def mapFind (k : Value) : List (Value × Value) → Option (Option Value)
  | [] => some none
  | (x, v) :: es => match keyEq k x with
    | some true => some (some v)
    | some false => mapFind k es
    | none => none

def mapSet (k v : Value) : List (Value × Value) → List (Value × Value)
  | [] => [(k, v)]
  | (x, u) :: es => if keyEq k x = some true then (k, v) :: es else (x, u) :: mapSet k v es

def keyOk (P : Program) (t : TypeId) (k : Value) : Bool :=
  match P.underlying t, k with
  | some (.int _), .int _ _ | some .string, .string _ => true
  | _, _ => false

noncomputable def lookupS (P : Program) (h : SHeap) (t : TypeId) (m k : Value) (ok : Bool) : Option Value :=
  match P.underlying t with
  | some (.map kt et) =>
    if keyOk P kt k then
      match (match m with | .map none => some [] | .map (some id) => (match h.get id with | .map es => some es | _ => none) | _ => none) with
      | some es => match mapFind k es with
        | some (some v) => some (if ok then .tuple #[v, .bool true] else v)
        | some none => match zeroOf P et with
          | some z => if flat z then some (if ok then .tuple #[z, .bool false] else z) else none
          | none => none
        | none => none
      | none => none
    else none
  | _ => none

noncomputable def updateS (P : Program) (h : SHeap) (t : TypeId) (m k v : Value) : Option SHeap :=
  match P.underlying t, m with
  | some (.map kt _), .map (some id) =>
    if keyOk P kt k && decide (h.floor ≤ id) then
      match h.get id with
      | .map es => match mapFind k es with
        | some _ => some (h.put id (.map (mapSet k v es)))
        | none => none
      | _ => none
    else none
  | _, _ => none

noncomputable def lenS (P : Program) (h : SHeap) (t : TypeId) (x : Value) : Option Value :=
  match P.underlying t, x with
  | some .string, .string s => some (.int .i64 s.size)
  | some (.slice _), .slice _ n _ => some (.int .i64 n)
  | some (.array n _), _ => some (.int .i64 n)
  | some (.map _ _), .map none => some (.int .i64 0)
  | some (.map _ _), .map (some id) => match h.get id with
    | .map es => some (.int .i64 es.length)
    | _ => none
  | _, _ => none

def maxS : List Value → Option Value
  | .int k x :: rest => rest.foldlM (fun a b => match a, b with | .int k x, .int _ y => some (.int k (if y > x then y else x)) | _, _ => none) (.int k x)
  | _ => none
def minS : List Value → Option Value
  | .int k x :: rest => rest.foldlM (fun a b => match a, b with | .int k x, .int _ y => some (.int k (if y < x then y else x)) | _, _ => none) (.int k x)
  | _ => none

/-- A value of an interface asked for a type: the value that it holds, or none. -/
def assertIn (P : Program) (d : TypeDesc) (asserted : TypeId) (x : Value) : Option (Option Value) :=
  match d, x with
  | .interface _, .nilIface => some none
  | .interface want, .iface t v => (match P.info? t with
    | some i => (match Instr.missingMethod want i.methods with
      | none => some (some (.iface t v))
      | some _ => some none)
    | none => none)
  | _, .nilIface => some none
  | _, .iface t v => if t = asserted then some (some v) else some none
  | _, _ => none
def assertS (P : Program) (x : Value) (asserted : TypeId) (ok : Bool) : Option Value :=
  match P.underlying asserted with
  | none => none
  | some d =>
    match assertIn P d asserted x with
    | some (some v) => some (if ok then .tuple #[v, .bool true] else v)
    | some none => if ok then (match zeroOf P asserted with
      | some z => if flat z then some (.tuple #[z, .bool false]) else none
      | none => none) else none
    | none => none

/-- The method of a type, and its receiver. -/
def methodS (P : Program) (t : TypeId) (v : Value) (name : String) : Option (FuncId × Value) :=
  match P.info? t with
  | some i => match i.methods.find? (·.name == name) with
    | some m => if m.path.isEmpty then (match m.func, P.underlying t with
      | some (f, true), some (.pointer _) => some (f, v)
      | some (_, true), some _ => none
      | some (_, false), some (.pointer _) => none
      | some (f, false), some _ => some (f, v)
      | _, _ => none) else none
    | none => none
  | none => none

/-- Two-place operations. -/
def binS (P : Program) (op : BinOp) (t : TypeId) (x y : Operand) (a b : Value) : Option Value :=
  if flat a && flat b then match pureRun P (do eqGuard op t x y a b; binOp op t a b) with
    | some u => if flat u then some u else none
    | none => none
  else match op, P.underlying t, a, b with
    | .eql, some (.pointer _), .pointer (some _), .pointer none | .eql, some (.pointer _), .pointer none, .pointer (some _) => some (.bool false)
    | .neq, some (.pointer _), .pointer (some _), .pointer none | .neq, some (.pointer _), .pointer none, .pointer (some _) => some (.bool true)
    | .eql, some (.slice _), .slice (some _) _ _, .slice none 0 0 => some (.bool false)
    | .neq, some (.slice _), .slice (some _) _ _, .slice none 0 0 => some (.bool true)
    | .eql, some (.interface _), .iface _ _, .nilIface | .eql, some (.interface _), .nilIface, .iface _ _ => some (.bool false)
    | .neq, some (.interface _), .iface _ _, .nilIface | .neq, some (.interface _), .nilIface, .iface _ _ => some (.bool true)
    | _, _, _, _ => none

def bytesStr : List Value → Option (List UInt8)
  | [] => some []
  | .int .u8 n :: r => match bytesStr r with | some l => some (UInt8.ofNat n.toNat :: l) | none => none
  | _ => none

noncomputable def convS (P : Program) (h : SHeap) (src dst : TypeId) (x : Value) : Option Value :=
  match P.underlying src, P.underlying dst, x with
  | some _, some (.int k), .int _ n => some (.int k (k.wrap n))
  | some _, some .string, .string s => some (.string s)
  | some (.slice e), some .string, .slice a n c =>
    match P.underlying e with
    | some (.int .u8) => match srcCells h 1 n (.slice a n c) with
      | some cs => match bytesStr cs with
        | some l => some (.string ⟨l.toArray⟩)
        | none => none
      | none => none
    | _ => none
  | _, _, _ => none

inductive SExit where
  | normal | exit (id : Nat) | ret
  deriving DecidableEq

structure St where
  T : Tr
  h : SHeap

abbrev SCall := FuncId → List Value → SHeap → Option (Value × SHeap)

noncomputable def evs (T : Tr) (l : Array Operand) : List Value := l.toList.map (ev T)

noncomputable def callS (P : Program) (call : SCall) (T : Tr) (h : SHeap) (c : Call) : Option (Value × SHeap) :=
  match c.callee with
  | .builtin .len => match c.argTypes.toList, evs T c.args with
    | [t], [x] => (lenS P h t x).map (·, h)
    | _, _ => none
  | .builtin .append => match c.argTypes.toList, evs T c.args with
    | [t, t'], [d, s] => if t = t' then appendS P h t d s else none
    | _, _ => none
  | .builtin .copy => match c.argTypes.toList, evs T c.args with
    | [t, t'], [d, s] => if t = t' then copyS P h t d s else none
    | _, _ => none
  | .builtin .max => (maxS (evs T c.args)).map (·, h)
  | .builtin .min => (minS (evs T c.args)).map (·, h)
  | .value f => match ev T f with
    | .func (.func k) first captured => call k (first.toList ++ evs T c.args ++ captured.toList) h
    | _ => none
  | .invoke r m => match ev T r with
    | .iface t v => match methodS P t v m with
      | some (k, v') => call k (v' :: evs T c.args) h
      | none => none
    | _ => none
  | _ => none

noncomputable def sop (P : Program) (call : SCall) (T : Tr) (h : SHeap) : Op → Option (Value × SHeap)
  | .move x => some (ev T x, h)
  | .assign x => some (ev T x, h)
  | .pick c a b => match ev T c with
    | .bool t => some (if t then ev T a else ev T b, h)
    | _ => none
  | .alloc e => match zeroOf P e with
    | some z => if flat z then some (.pointer (some ⟨h.next, 0, none⟩), h.push (.row z.cells.toList e false false)) else none
    | none => none
  | .box e v => if (ev T v).cells.toList.all one then match szOf P e with
      | some _ => some (.pointer (some ⟨h.next, 0, none⟩), h.push (.row (ev T v).cells.toList e false false))
      | none => none
    else none
  | .build t parts => (buildS P t (parts.toList.map fun (i, x) => (i, ev T x))).map (·, h)
  | .buildSlice t len parts => buildSliceS P h t len (parts.toList.map fun (i, x) => (i, ev T x))
  | .load t a => (loadS P h t (ev T a)).map (·, h)
  | .store t a v => (storeS P h t (ev T a) (ev T v)).map (undef, ·)
  | .nilCheck x => match ev T x with
    | .pointer (some a) => some (.pointer (some a), h)
    | .func (.func k) first captured => some (.func (.func k) first captured, h)
    | _ => none
  | .binOp op t x y _ => (binS P op t x y (ev T x) (ev T y)).map (·, h)
  | .unOp op _ x => if flat (ev T x) then match pureRun P (Op.unary op (ev T x)) with
      | some u => if flat u then some (u, h) else none
      | none => none
    else none
  | .convert src dst x => (convS P h src dst (ev T x)).map (·, h)
  | .makeFunc fn first captured => some (.func fn (first.map (ev T)) (captured.map (ev T)), h)
  | .makeInterface t x => match P.underlying t with
    | some (.interface _) => none
    | some _ => some (.iface t (ev T x), h)
    | none => none
  | .typeAssert x _ asserted ok => (assertS P (ev T x) asserted ok).map (·, h)
  | .makeMap _ none => some (.map (some h.next), h.push (.map []))
  | .makeSlice t l c => makeSliceS P h t (ev T l) (ev T c)
  | .slice t x lo hi mx => (sliceS P h t (ev T x) (lo.map (ev T)) (hi.map (ev T)) (mx.map (ev T))).map (·, h)
  | .fieldAddr s x f => (fieldAddrS P s (ev T x) f).map (·, h)
  | .field s x f => (fieldS P s (ev T x) f).map (·, h)
  | .indexAddr t x i => (idxAddr P t (ev T x) (ev T i)).map (·, h)
  | .index t x i => if flat (ev T x) && flat (ev T i) then match pureRun P (Instr.index t (ev T x) (ev T i)) with
      | some u => if flat u then some (u, h) else none
      | none => none
    else none
  | .lookup t m k ok => (lookupS P h t (ev T m) (ev T k) ok).map (·, h)
  | .mapUpdate t m k v => (updateS P h t (ev T m) (ev T k) (ev T v)).map (undef, ·)
  | .insert t m k v => (updateS P h t (ev T m) (ev T k) (ev T v)).map (undef, ·)
  | .extract t i => match ev T t with
    | .tuple vs => (vs[i]?).map (·, h)
    | _ => none
  | .call c => callS P call T h c
  | _ => none

/-- Is the operation to run? -/
noncomputable def wantS (ops : Array Oper) (T : Tr) (o : Oper) : Bool :=
  match o.guard with
  | none => true
  | some (j, want) => match (ops[j]?).bind (·.dst) with
    | some d => (match T.get d with | .bool b => b == want | _ => false)
    | none => false

noncomputable def stepS (P : Program) (call : SCall) (ops : Array Oper) (o : Oper) (s : St) : Option St :=
  if wantS ops s.T o then match sop P call s.T s.h o.op with
    | some (v, h') => some ⟨s.T.put o.dst v, h'⟩
    | none => none
  else some ⟨s.T.put o.dst undef, s.h⟩

noncomputable def seqS (P : Program) (call : SCall) (ops : Array Oper) : List Oper → St → Option St
  | [], s => some s
  | o :: rest, s => match stepS P call ops o s with
    | some s' => seqS P call ops rest s'
    | none => none

/-- In a region whose order is open: what is called or appended to may not write what was there when the region began; what is read must have been there. -/
inductive Cls where
  | pure | read (a : Operand) | new | act | store
def clsOf : Op → Cls
  | .load _ a => .read a
  | .lookup _ m _ _ => .read m
  | .alloc _ | .box _ _ | .makeMap _ _ | .makeSlice _ _ _ | .buildSlice _ _ _ => .new
  | .store _ _ _ => .store
  | .mapUpdate _ _ _ _ => .store
  | .insert _ _ _ _ => .store
  | .convert _ _ x => .read x
  | .slice _ x _ _ _ => .read x
  | .call c => match c.callee with
    | .builtin .len | .builtin .max | .builtin .min => .pure
    | _ => .act
  | _ => .pure

def idOf : Value → Option Nat
  | .pointer (some a) => some a.block
  | .map (some i) => some i
  | .slice (some a) _ _ => some a.block
  | _ => none


/-- Neither stands behind the other. -/
def unord (b : Array Nat) (i j : Nat) : Bool := i != j && !(b.getD i 0).testBit j && !(b.getD j 0).testBit i
def isRead (o : Oper) : Bool := match clsOf o.op with | .read _ => true | _ => false
def isAct (o : Oper) : Bool := match clsOf o.op with | .act => true | _ => false
def isNew (o : Oper) : Bool := match clsOf o.op with | .new => true | _ => false
def isStore (o : Oper) : Bool := match clsOf o.op with | .store => true | _ => false

/-- A read that stands in no order with what is called; what is called in no order with a read; what is read ahead of a store, in no order with it. -/
def looseRead (ops : Array Oper) (k : Nat) : Bool :=
  let b := Region.before ops
  ops.toList.zipIdx.any fun (o, i) => (isAct o || (isNew o && decide (i < k))) && unord b i k
def looseAct (ops : Array Oper) (k : Nat) : Bool :=
  let b := Region.before ops
  ops.toList.zipIdx.any fun (o, i) => isRead o && unord b i k
def looseReads (ops : Array Oper) (k : Nat) : List Operand :=
  let b := Region.before ops
  ops.toList.zipIdx.filterMap fun (o, i) => match clsOf o.op with
    | .read a => if i < k && unord b i k then some a else none
    | _ => none

def ahead (start : Nat) : Option Nat → Bool
  | some id => decide (id < start)
  | none => true

noncomputable def stepD (P : Program) (call : SCall) (ops : Array Oper) (start i : Nat) (o : Oper) (s : St) : Option St :=
  if wantS ops s.T o then
    match clsOf o.op with
    | .read a => if looseRead ops i && !ahead start (idOf (ev s.T a)) then none else stepS P call ops o s
    | .act => if looseAct ops i then match stepS P call ops o ⟨s.T, s.h.fl (max s.h.floor start)⟩ with
        | some s' => some ⟨s'.T, s'.h.fl s.h.floor⟩
        | none => none
      else stepS P call ops o s
    | .store => match o.op with
      | .store _ a _ => if (looseReads ops i).all (fun x => idOf (ev s.T x) != idOf (ev s.T a)) then stepS P call ops o s else none
      | .insert _ m _ _ => if (looseReads ops i).all (fun x => idOf (ev s.T x) != idOf (ev s.T m)) then stepS P call ops o s else none
      | .mapUpdate _ m _ _ => if (looseReads ops i).all (fun x => idOf (ev s.T x) != idOf (ev s.T m)) then stepS P call ops o s else none
      | _ => none
    | .pure => match o.op with
      | .call c => (match c.args.toList.map (ev s.T) with | [.map _] => none | _ => stepS P call ops o s)
      | _ => stepS P call ops o s
    | .new => stepS P call ops o s
  else some ⟨s.T.put o.dst undef, s.h⟩

noncomputable def seqD (P : Program) (call : SCall) (ops : Array Oper) (start : Nat) : Nat → List Oper → St → Option St
  | _, [], s => some s
  | i, o :: rest, s => match stepD P call ops start i o s with
    | some s' => seqD P call ops start (i + 1) rest s'
    | none => none

def loopS (f : St → Option (SExit × St)) : Nat → St → Option (SExit × St)
  | 0, _ => none
  | n + 1, s => match f s with
    | some (.normal, s') => loopS f n s'
    | r => r

noncomputable def codeS (P : Program) (call : SCall) (n : Nat) : Code → St → Option (SExit × St)
  | .skip, s => some (.normal, s)
  | .region _ ops draw, s => if draw then (seqD P call ops s.h.next 0 ops.toList s).map (.normal, ·) else (seqS P call ops ops.toList s).map (.normal, ·)
  | .seq a b, s => match codeS P call n a s with
    | some (.normal, s') => codeS P call n b s'
    | r => r
  | .cond c a b, s => match ev s.T c with
    | .bool true => codeS P call n a s
    | .bool false => codeS P call n b s
    | _ => none
  | .block id c, s => match codeS P call n c s with
    | some (.exit i, s') => if i = id then some (.normal, s') else some (.exit i, s')
    | r => r
  | .loop c, s => loopS (codeS P call n c) n s
  | .exit id, s => some (.exit id, s)
  | .ret, s => some (.ret, s)
  | _, _ => none

noncomputable def resS (P : Program) (s : St) : List ResultVar → Option (List Value)
  | [] => some []
  | .tmp t :: r => match resS P s r with | some l => some (s.T.get t :: l) | none => none
  | .cell a t :: r => match loadS P s.h t (s.T.get a), resS P s r with | some v, some l => some (v :: l) | _, _ => none

noncomputable def tmps0 : Nat → List Value → Tr → Tr
  | _, [], T => T
  | i, v :: vs, T => tmps0 (i + 1) vs (T.set i v)

noncomputable def callF (P : Program) : Nat → SCall
  | 0, _, _, _ => none
  | n + 1, f, args, h =>
    match P.funcs[f]? with
    | some fn => match fn.body with
      | some c => if args.length ≤ fn.ntmps then
          match codeS P (callF P n) n c ⟨tmps0 0 args .leaf, h⟩ with
          | some (.normal, s) | some (.ret, s) => match resS P s fn.results.toList with
            | some [v] => some (v, s.h)
            | some vs => some (.tuple vs.toArray, s.h)
            | none => none
          | _ => none
        else none
      | none => none
    | none => none

end Go.Sx
