/- Part 1 of what the claim leans on: 2 texts laid one behind another. -/
import Derived.Orders
import Derived.Below
import Derived.KernelRfl
theorem Go.Sx.aQ {a b:Prop} (x:a) (y:b):a∧b:=⟨x,y⟩
namespace Go.Sx
open Go
set_option maxHeartbeats 64000000
def unk:Nat:=18446744073709551616
structure Loc where
 b:Nat
 d:Nat
 e:Nat
 z:Nat
inductive SObj where
 | row (cs:List Value) (ty:TypeId) (grow ro:Bool)
 | map (es:List (Value × Value))
 | dead
def wayF:Nat→Nat→List Bool
 | 0,_=>[]
 | n+1,k=>if k=0 then [] else if k%2=1 then true :: wayF n (k/2) else false :: wayF n (k/2-1)
def way (k:Nat):List Bool:=wayF k k
inductive OTr where
 | leaf
 | node (o:SObj) (l r:OTr)
noncomputable def OTr.look (t:OTr):List Bool→SObj:=
 OTr.rec (motive:=fun _=>List Bool→SObj) (fun _=>.dead) (fun v _ _ gl gr p=>List.rec (motive:=fun _=>SObj) v (fun b p _=>Bool.rec (motive:=fun _=>SObj) (gr p) (gl p) b) p) t
noncomputable def OTr.lay (p:List Bool):SObj→OTr→OTr:=
 List.rec (motive:=fun _=>SObj→OTr→OTr)
  (fun u t=>OTr.rec (motive:=fun _=>OTr) (.node u .leaf .leaf) (fun _ l r _ _=>.node u l r) t)
  (fun b _ ih u t=>OTr.rec (motive:=fun _=>OTr)
   (Bool.rec (motive:=fun _=>OTr) (.node .dead .leaf (ih u .leaf)) (.node .dead (ih u .leaf) .leaf) b)
   (fun v l r _ _=>Bool.rec (motive:=fun _=>OTr) (.node v l (ih u r)) (.node v (ih u l) r) b) t) p
noncomputable def OTr.get (t:OTr) (k:Nat):SObj:=t.look (way k)
noncomputable def OTr.set (t:OTr) (k:Nat) (u:SObj):OTr:=OTr.lay (way k) u t
structure SHeap where
 next:Nat
 floor:Nat
 objs:OTr
noncomputable def SHeap.get (h:SHeap) (i:Nat):SObj:=if i<h.next then h.objs.get i else .dead
noncomputable def SHeap.push (h:SHeap) (o:SObj):SHeap:={ next:=h.next+1,floor:=h.floor,objs:=h.objs.set h.next o }
noncomputable def SHeap.put (h:SHeap) (i:Nat) (o:SObj):SHeap:={ next:=h.next,floor:=h.floor,objs:=h.objs.set i o }
def SHeap.fl (h:SHeap) (f:Nat):SHeap:={ next:=h.next,floor:=f,objs:=h.objs }
def SHeap.good (h:SHeap):Prop:=h.next=h.next
inductive Tr where
 | leaf
 | node (v:Value) (l r:Tr)
noncomputable def Tr.look (t:Tr):List Bool→Value:=
 Tr.rec (motive:=fun _=>List Bool→Value) (fun _=>undef) (fun v _ _ gl gr p=>List.rec (motive:=fun _=>Value) v (fun b p _=>Bool.rec (motive:=fun _=>Value) (gr p) (gl p) b) p) t
noncomputable def Tr.lay (p:List Bool):Value→Tr→Tr:=
 List.rec (motive:=fun _=>Value→Tr→Tr)
  (fun u t=>Tr.rec (motive:=fun _=>Tr) (.node u .leaf .leaf) (fun _ l r _ _=>.node u l r) t)
  (fun b _ ih u t=>Tr.rec (motive:=fun _=>Tr)
   (Bool.rec (motive:=fun _=>Tr) (.node undef .leaf (ih u .leaf)) (.node undef (ih u .leaf) .leaf) b)
   (fun v l r _ _=>Bool.rec (motive:=fun _=>Tr) (.node v l (ih u r)) (.node v (ih u l) r) b) t) p
noncomputable def Tr.get (t:Tr) (k:Nat):Value:=t.look (way k)
noncomputable def Tr.set (t:Tr) (k:Nat) (u:Value):Tr:=Tr.lay (way k) u t
noncomputable def Tr.put (t:Tr) (dst:Option Tmp) (u:Value):Tr:=match dst with | some d=>t.set d u | none=>t
noncomputable def ev (T:Tr):Operand→Value
 | .tmp t=>T.get t
 | .const v=>v
 | .global g=>.pointer (some ⟨g,0,none⟩)
 | .func f=>.func (.func f) #[] #[]
def J0k {α:Type} (P:Program):Sem α→Option α
 | .pure a=>some a
 | .program k=>J0k P (k P)
 | .mark _ k=>J0k P k
 | _=>none
def J1i:Value→Bool
 | .bool _ | .int _ _ | .string _ | .nilFunc | .nilIface | .pointer none | .map none | .slice none 0 0=>true
 | _=>false
def flat:Value→Bool
 | .agg cs=>cs.toList.all J1i
 | v=>J1i v
def one:Value→Bool
 | .agg _ | .tuple _=>false
 | _=>true
def szOf (P:Program) (t:TypeId):Option Nat:=(P.info? t).map (·.size)
def byOf (P:Program) (t:TypeId):Option Nat:=(P.info? t).map (·.bytes)
def J1w (P:Program) (t:TypeId):Option Value:=match P.info? t with | some i=>i.zero | none=>none
def J2X (P:Program) (t:TypeId):Option Bool:=match P.underlying t with | some (.struct _) | some (.array _ _)=>some true | some _=>some false | none=>none
def cut (cs:List Value) (off n:Nat):Option (List Value):=let l:=(cs.drop off).take n;if l.length=n then some l else none
noncomputable def J2x (P:Program) (h:SHeap) (t:TypeId) (v:Value):Option Value:=
 match v with
 | .pointer (some ⟨id,off,none⟩)=>
  match h.get id with
  | .row cs _ _ _=>
   match J2X P t with
   | some true=>match szOf P t with
    | some n=>match cut cs off n with
     | some l=>some (.agg l.toArray)
     | none=>none
    | none=>none
   | some false=>cs[off]?
   | none=>none
  | _=>none
 | _=>none
def lay (cs:List Value) (off:Nat) (new:List Value):List Value:=cs.take off++new++cs.drop (off+new.length)
noncomputable def J1q (h:SHeap) (id off:Nat) (new:List Value):Option SHeap:=
 match h.get id with
 | .row cs ty g false=>if h.floor≤id&&off+new.length≤cs.length&&new.all one then some (h.put id (.row (lay cs off new) ty g false)) else none
 | _=>none
noncomputable def J0K (P:Program) (h:SHeap) (t:TypeId) (a v:Value):Option SHeap:=
 match a with
 | .pointer (some ⟨id,off,none⟩)=>
  if szOf P t=some v.cells.size then J1q h id off v.cells.toList else none
 | _=>none
def J0R (P:Program) (t:TypeId) (x i:Value):Option Value:=
 match P.underlying t,x,i with
 | some (.slice e),.slice (some a) len _,.int _ n=>
  if 0≤n∧n<(len:Int) then match szOf P e with
   | some s=>some (.pointer (some (a.add (n.toNat*s))))
   | none=>none
  else none
 | some (.array len e),.pointer (some a),.int _ n=>
  if 0≤n∧n<(len:Int) then match szOf P e with
   | some s=>some (.pointer (some (a.add (n.toNat*s))))
   | none=>none
  else none
 | _,_,_=>none
def J3a (x:Option Value) (dflt lo hi:Nat):Option Nat:=
 match x with
 | none=>some dflt
 | some (.int _ n)=>if (lo:Int)≤n∧n≤(hi:Int) then some n.toNat else none
 | _=>none
noncomputable def J2M (P:Program) (hp:SHeap) (t:TypeId) (x:Value) (lo hi mx:Option Value):Option Value:=
 match P.underlying t,x with
 | some (.slice e),.slice a len cap=>
  match szOf P e with
  | some s=>
   if cap=unk then
    match mx,J3a hi len 0 len with
    | none,some h=>match J3a lo 0 0 h,a with
     | some l,some ⟨id,off,none⟩=>
      if l=0 then some (.slice a h unk) else
      match hp.get id with
      | .row _ ty _ false=>if szOf P ty=some s then some (.slice (some ⟨id,off+l*s,none⟩) (h-l) unk) else none
      | _=>none
     | _,_=>none
    | _,_=>none
   else
    match (match mx with | none=>some cap | some _=>(match hi with | some _=>J3a mx 0 0 cap | none=>none)) with
    | some m=>match J3a hi len 0 m with
     | some h=>match J3a lo 0 0 h with
      | some l=>some (.slice (if m=l then a else a.map (·.add (l*s))) (h-l) (m-l))
      | none=>none
     | none=>none
    | none=>none
  | none=>none
 | some (.string),.string s=>
  if mx.isSome then none else
  match J3a hi s.size 0 s.size with
  | some h=>match J3a lo 0 0 h with
   | some l=>some (.string (s.extract l h))
   | none=>none
  | none=>none
 | some (.array n e),.pointer (some a)=>
  if mx.isSome||decide (281474976710656<n) then none else
  match J3a hi n 0 n with
  | some h=>match J3a lo 0 0 h with
   | some l=>match szOf P e with
    | some s=>some (.slice (some (if n=l then a else a.add (l*s))) (h-l) (n-l))
    | none=>none
   | none=>none
  | none=>none
 | _,_=>none
def J08 (P:Program) (s:TypeId) (x:Value) (f:Nat):Option Value:=
 match P.underlying s,x with
 | some (.struct fs),.pointer (some a)=>
  match fs[f]? with
  | some fd=>match szOf P fd.type with
   | some 0=>none
   | some _=>some (.pointer (some (a.add fd.offset)))
   | none=>none
  | none=>none
 | _,_=>none
def Jcf (P:Program) (s:TypeId) (x:Value) (f:Nat):Option Value:=
 match P.underlying s,x with
 | some (.struct fs),.agg cs=>
  match fs[f]? with
  | some fd=>match J2X P fd.type with
   | some true=>match szOf P fd.type with
    | some n=>some (.agg (cs.extract fd.offset (fd.offset+n)))
    | none=>none
   | some false=>cs[fd.offset]?
   | none=>none
  | none=>none
 | _,_=>none
def J2Q (P:Program):List Field→Option (List (Nat × Nat))
 | []=>some []
 | f :: fs=>match szOf P f.type with
  | some n=>match J2Q P fs with
   | some l=>some ((f.offset,n) :: l)
   | none=>none
  | none=>none
def J5k (place:Nat→Option (Nat × Nat)) (cells:List Value):List (Nat × Value)→Option (List Value)
 | []=>some cells
 | (i,v) :: rest=>
  match place i with
  | none=>none
  | some (off,size)=>
   if v.cells.size≠size||off+v.cells.size>cells.length then none
   else J5k place (lay cells off v.cells.toList) rest
def J1P (P:Program) (t:TypeId) (parts:List (Nat × Value)):Option Value:=
 match J1w P t with
 | some z=>
  if flat z then
   match P.underlying t with
   | some (.struct fs)=>match J2Q P fs.toList with
    | some pl=>match J5k (fun i=>pl[i]?) z.cells.toList parts with
     | some cs=>some (.agg cs.toArray)
     | none=>none
    | none=>none
   | some (.array _ e)=>match szOf P e with
    | some s=>match J5k (fun i=>some (i*s,s)) z.cells.toList parts with
     | some cs=>some (.agg cs.toArray)
     | none=>none
    | none=>none
   | _=>none
  else none
 | none=>none
def J3e (z:List Value):Nat→List Value
 | 0=>[]
 | n+1=>z++J3e z n
noncomputable def J0Q (P:Program) (h:SHeap) (t:TypeId) (len:Nat) (parts:List (Nat × Value)):Option (Value × SHeap):=
 match P.underlying t with
 | some (.slice e)=>
  match szOf P e,J1w P e with
  | some s,some z=>
   if flat z&&z.cells.size==s&&decide (0<s)&&decide (len*s≤16777216) then
    match J5k (fun i=>some (i*s,s)) (J3e z.cells.toList len) parts with
    | some cs=>some (.slice (some ⟨h.next,0,none⟩) len len,h.push (.row cs e false false))
    | none=>none
   else none
  | _,_=>none
 | _=>none
noncomputable def J2l (P:Program) (h:SHeap) (t:TypeId) (l c:Value):Option (Value × SHeap):=
 match P.underlying t,l,c with
 | some (.slice e),.int _ l,.int _ c=>
  match szOf P e,J1w P e,byOf P e with
  | some s,some z,some by_=>
   if flat z&&z.cells.size==s&&decide (0<s)&&decide (0≤l)&&decide (l≤c)&&decide ((by_:Int)*c≤281474976710656)&&decide (c≤281474976710656) then
    some (.slice (some ⟨h.next,0,none⟩) l.toNat c.toNat,h.push (.row (J3e z.cells.toList c.toNat) e false false))
   else none
  | _,_,_=>none
 | _,_,_=>none
noncomputable def J16 (h:SHeap) (s n:Nat) (x:Value):Option (List Value):=
 match x with
 | .slice none _ _=>if n=0 then some [] else none
 | .slice (some ⟨id,off,none⟩) _ _=>if n=0 then some [] else
  match h.get id with
  | .row cs _ _ _=>cut cs off (n*s)
  | _=>none
 | _=>none
noncomputable def J1o (P:Program) (h:SHeap) (t:TypeId) (dst src:Value):Option (Value × SHeap):=
 match P.underlying t,dst,src with
 | some (.slice e),.slice base len cap,.slice sb n sc=>
  match szOf P e,byOf P e,J1w P e with
  | some s,some by_,some z=>
   if decide (0<s)&&z.cells.size==s&&decide (len≤cap) then
   match J16 h s n (.slice sb n sc) with
   | some new=>
    if new.all one then
    if cap=unk then
     match base with
     | some ⟨id,off,none⟩=>
      if decide ((len+n)*by_≤140737488355328)&&decide (len+n≤140737488355328)&&decide (h.floor≤id) then
       if n=0 then some (dst,h) else
       match h.get id with
       | .row cs ty true false=>
        if ty=e then
        match cut cs off (len*s) with
        | some old=>if old.all one then some (.slice (some ⟨h.next,0,none⟩) (len+n) unk,(h.put id .dead).push (.row (old++new) e true false)) else none
        | none=>none
        else none
       | _=>none
      else none
     | _=>none
    else if len+n≤cap then
     if n=0 then some (.slice base (len+n) cap,h) else
     match base with
     | some ⟨id,off,none⟩=>match J1q h id (off+len*s) new with
      | some h'=>some (.slice base (len+n) cap,h')
      | none=>none
     | _=>none
    else if decide ((len+n)*by_≤140737488355328)&&decide (cap*by_≤140737488355328)&&decide (len+n≤140737488355328)&&decide (cap≤140737488355328) then
     match J16 h s len (.slice base len cap) with
     | some old=>some (.slice (some ⟨h.next,0,none⟩) (len+n) unk,h.push (.row (old++new) e true false))
     | none=>none
    else none
    else none
   | none=>none
   else none
  | _,_,_=>none
 | _,_,_=>none
noncomputable def J8N (P:Program) (h:SHeap) (t:TypeId) (dst src:Value):Option (Value × SHeap):=
 match P.underlying t,dst,src with
 | some (.slice e),.slice base len _,.slice sb n sc=>
  match szOf P e with
  | some s=>
   let m:=min n len
   match J16 h s m (.slice sb n sc) with
   | some new=>match base with
    | some ⟨id,off,none⟩=>if m=0 then some (.int .i64 m,h) else match J1q h id off new with
     | some h'=>some (.int .i64 m,h')
     | none=>none
    | none=>some (.int .i64 m,h)
    | _=>none
   | none=>none
  | none=>none
 | _,_,_=>none
def J4s:Value→Value→Option Bool
 | .int k a,.int k' b=>if k=k' then some (a==b) else none
 | .string a,.string b=>some (a==b)
 | _,_=>none
def J2y (k:Value):List (Value × Value)→Option (Option Value)
 | []=>some none
 | (x,v) :: es=>match J4s k x with
  | some true=>some (some v)
  | some false=>J2y k es
  | none=>none
def J2h (k v:Value):List (Value × Value)→List (Value × Value)
 | []=>[(k,v)]
 | (x,u) :: es=>if J4s k x=some true then (k,v) :: es else (x,u) :: J2h k v es
def J61 (P:Program) (t:TypeId) (k:Value):Bool:=
 match P.underlying t,k with
 | some (.int _),.int _ _ | some .string,.string _=>true
 | _,_=>false
noncomputable def J4D (P:Program) (h:SHeap) (t:TypeId) (m k:Value) (ok:Bool):Option Value:=
 match P.underlying t with
 | some (.map kt et)=>
  if J61 P kt k then
   match (match m with | .map none=>some [] | .map (some id)=>(match h.get id with | .map es=>some es | _=>none) | _=>none) with
   | some es=>match J2y k es with
    | some (some v)=>some (if ok then .tuple #[v,.bool true] else v)
    | some none=>match J1w P et with
     | some z=>if flat z then some (if ok then .tuple #[z,.bool false] else z) else none
     | none=>none
    | none=>none
   | none=>none
  else none
 | _=>none
noncomputable def J3h (P:Program) (h:SHeap) (t:TypeId) (m k v:Value):Option SHeap:=
 match P.underlying t,m with
 | some (.map kt _),.map (some id)=>
  if J61 P kt k&&decide (h.floor≤id) then
   match h.get id with
   | .map es=>match J2y k es with
    | some _=>some (h.put id (.map (J2h k v es)))
    | none=>none
   | _=>none
  else none
 | _,_=>none
noncomputable def lenS (P:Program) (h:SHeap) (t:TypeId) (x:Value):Option Value:=
 match P.underlying t,x with
 | some .string,.string s=>some (.int .i64 s.size)
 | some (.slice _),.slice _ n _=>some (.int .i64 n)
 | some (.array n _),_=>some (.int .i64 n)
 | some (.map _ _),.map none=>some (.int .i64 0)
 | some (.map _ _),.map (some id)=>match h.get id with
  | .map es=>some (.int .i64 es.length)
  | _=>none
 | _,_=>none
def maxS:List Value→Option Value
 | .int k x :: rest=>rest.foldlM (fun a b=>match a,b with | .int k x,.int _ y=>some (.int k (if y>x then y else x)) | _,_=>none) (.int k x)
 | _=>none
def minS:List Value→Option Value
 | .int k x :: rest=>rest.foldlM (fun a b=>match a,b with | .int k x,.int _ y=>some (.int k (if y<x then y else x)) | _,_=>none) (.int k x)
 | _=>none
def J37 (P:Program) (d:TypeDesc) (asserted:TypeId) (x:Value):Option (Option Value):=
 match d,x with
 | .interface _,.nilIface=>some none
 | .interface want,.iface t v=>(match P.info? t with
  | some i=>(match Instr.missingMethod want i.methods with
   | none=>some (some (.iface t v))
   | some _=>some none)
  | none=>none)
 | _,.nilIface=>some none
 | _,.iface t v=>if t=asserted then some (some v) else some none
 | _,_=>none
def J9C (P:Program) (x:Value) (asserted:TypeId) (ok:Bool):Option Value:=
 match P.underlying asserted with
 | none=>none
 | some d=>
  match J37 P d asserted x with
  | some (some v)=>some (if ok then .tuple #[v,.bool true] else v)
  | some none=>if ok then (match J1w P asserted with
   | some z=>if flat z then some (.tuple #[z,.bool false]) else none
   | none=>none) else none
  | none=>none
def J9j (P:Program) (t:TypeId) (v:Value) (name:String):Option (FuncId × Value):=
 match P.info? t with
 | some i=>match i.methods.find? (·.name==name) with
  | some m=>if m.path.isEmpty then (match m.func,P.underlying t with
   | some (f,true),some (.pointer _)=>some (f,v)
   | some (_,true),some _=>none
   | some (_,false),some (.pointer _)=>none
   | some (f,false),some _=>some (f,v)
   | _,_=>none) else none
  | none=>none
 | none=>none
def binS (P:Program) (op:BinOp) (t:TypeId) (x y:Operand) (a b:Value):Option Value:=
 if flat a&&flat b then match J0k P (do eqGuard op t x y a b;binOp op t a b) with
  | some u=>if flat u then some u else none
  | none=>none
 else match op,P.underlying t,a,b with
  | .eql,some (.pointer _),.pointer (some _),.pointer none | .eql,some (.pointer _),.pointer none,.pointer (some _)=>some (.bool false)
  | .neq,some (.pointer _),.pointer (some _),.pointer none | .neq,some (.pointer _),.pointer none,.pointer (some _)=>some (.bool true)
  | .eql,some (.slice _),.slice (some _) _ _,.slice none 0 0=>some (.bool false)
  | .neq,some (.slice _),.slice (some _) _ _,.slice none 0 0=>some (.bool true)
  | .eql,some (.interface _),.iface _ _,.nilIface | .eql,some (.interface _),.nilIface,.iface _ _=>some (.bool false)
  | .neq,some (.interface _),.iface _ _,.nilIface | .neq,some (.interface _),.nilIface,.iface _ _=>some (.bool true)
  | _,_,_,_=>none
def J5f:List Value→Option (List UInt8)
 | []=>some []
 | .int .u8 n :: r=>match J5f r with | some l=>some (UInt8.ofNat n.toNat :: l) | none=>none
 | _=>none
noncomputable def Jbc (P:Program) (h:SHeap) (src dst:TypeId) (x:Value):Option Value:=
 match P.underlying src,P.underlying dst,x with
 | some _,some (.int k),.int _ n=>some (.int k (k.wrap n))
 | some _,some .string,.string s=>some (.string s)
 | some (.slice e),some .string,.slice a n c=>
  match P.underlying e with
  | some (.int .u8)=>match J16 h 1 n (.slice a n c) with
   | some cs=>match J5f cs with
    | some l=>some (.string ⟨l.toArray⟩)
    | none=>none
   | none=>none
  | _=>none
 | _,_,_=>none
inductive SExit where
 | normal | exit (id:Nat) | ret
 deriving DecidableEq
structure St where
 T:Tr
 h:SHeap
abbrev J0r:=FuncId→List Value→SHeap→Option (Value × SHeap)
noncomputable def evs (T:Tr) (l:Array Operand):List Value:=l.toList.map (ev T)
noncomputable def J01 (P:Program) (call:J0r) (T:Tr) (h:SHeap) (c:Call):Option (Value × SHeap):=
 match c.callee with
 | .builtin .len=>match c.argTypes.toList,evs T c.args with
  | [t],[x]=>(lenS P h t x).map (·,h)
  | _,_=>none
 | .builtin .append=>match c.argTypes.toList,evs T c.args with
  | [t,t'],[d,s]=>if t=t' then J1o P h t d s else none
  | _,_=>none
 | .builtin .copy=>match c.argTypes.toList,evs T c.args with
  | [t,t'],[d,s]=>if t=t' then J8N P h t d s else none
  | _,_=>none
 | .builtin .max=>(maxS (evs T c.args)).map (·,h)
 | .builtin .min=>(minS (evs T c.args)).map (·,h)
 | .value f=>match ev T f with
  | .func (.func k) first captured=>call k (first.toList++evs T c.args++captured.toList) h
  | _=>none
 | .invoke r m=>match ev T r with
  | .iface t v=>match J9j P t v m with
   | some (k,v')=>call k (v' :: evs T c.args) h
   | none=>none
  | _=>none
 | _=>none
noncomputable def sop (P:Program) (call:J0r) (T:Tr) (h:SHeap):Op→Option (Value × SHeap)
 | .move x=>some (ev T x,h)
 | .assign x=>some (ev T x,h)
 | .pick c a b=>match ev T c with
  | .bool t=>some (if t then ev T a else ev T b,h)
  | _=>none
 | .alloc e=>match J1w P e with
  | some z=>if flat z then some (.pointer (some ⟨h.next,0,none⟩),h.push (.row z.cells.toList e false false)) else none
  | none=>none
 | .box e v=>if (ev T v).cells.toList.all one then match szOf P e with
   | some _=>some (.pointer (some ⟨h.next,0,none⟩),h.push (.row (ev T v).cells.toList e false false))
   | none=>none
  else none
 | .build t parts=>(J1P P t (parts.toList.map fun (i,x)=>(i,ev T x))).map (·,h)
 | .buildSlice t len parts=>J0Q P h t len (parts.toList.map fun (i,x)=>(i,ev T x))
 | .load t a=>(J2x P h t (ev T a)).map (·,h)
 | .store t a v=>(J0K P h t (ev T a) (ev T v)).map (undef,·)
 | .nilCheck x=>match ev T x with
  | .pointer (some a)=>some (.pointer (some a),h)
  | .func (.func k) first captured=>some (.func (.func k) first captured,h)
  | _=>none
 | .binOp op t x y _=>(binS P op t x y (ev T x) (ev T y)).map (·,h)
 | .unOp op _ x=>if flat (ev T x) then match J0k P (Op.unary op (ev T x)) with
   | some u=>if flat u then some (u,h) else none
   | none=>none
  else none
 | .convert src dst x=>(Jbc P h src dst (ev T x)).map (·,h)
 | .makeFunc fn first captured=>some (.func fn (first.map (ev T)) (captured.map (ev T)),h)
 | .makeInterface t x=>match P.underlying t with
  | some (.interface _)=>none
  | some _=>some (.iface t (ev T x),h)
  | none=>none
 | .typeAssert x _ asserted ok=>(J9C P (ev T x) asserted ok).map (·,h)
 | .makeMap _ none=>some (.map (some h.next),h.push (.map []))
 | .makeSlice t l c=>J2l P h t (ev T l) (ev T c)
 | .slice t x lo hi mx=>(J2M P h t (ev T x) (lo.map (ev T)) (hi.map (ev T)) (mx.map (ev T))).map (·,h)
 | .fieldAddr s x f=>(J08 P s (ev T x) f).map (·,h)
 | .field s x f=>(Jcf P s (ev T x) f).map (·,h)
 | .indexAddr t x i=>(J0R P t (ev T x) (ev T i)).map (·,h)
 | .index t x i=>if flat (ev T x)&&flat (ev T i) then match J0k P (Instr.index t (ev T x) (ev T i)) with
   | some u=>if flat u then some (u,h) else none
   | none=>none
  else none
 | .lookup t m k ok=>(J4D P h t (ev T m) (ev T k) ok).map (·,h)
 | .mapUpdate t m k v=>(J3h P h t (ev T m) (ev T k) (ev T v)).map (undef,·)
 | .insert t m k v=>(J3h P h t (ev T m) (ev T k) (ev T v)).map (undef,·)
 | .extract t i=>match ev T t with
  | .tuple vs=>(vs[i]?).map (·,h)
  | _=>none
 | .call c=>J01 P call T h c
 | _=>none
noncomputable def J27 (ops:Array Oper) (T:Tr) (o:Oper):Bool:=
 match o.guard with
 | none=>true
 | some (j,want)=>match (ops[j]?).bind (·.dst) with
  | some d=>(match T.get d with | .bool b=>b==want | _=>false)
  | none=>false
noncomputable def J2P (P:Program) (call:J0r) (ops:Array Oper) (o:Oper) (s:St):Option St:=
 if J27 ops s.T o then match sop P call s.T s.h o.op with
  | some (v,h')=>some ⟨s.T.put o.dst v,h'⟩
  | none=>none
 else some ⟨s.T.put o.dst undef,s.h⟩
noncomputable def seqS (P:Program) (call:J0r) (ops:Array Oper):List Oper→St→Option St
 | [],s=>some s
 | o :: rest,s=>match J2P P call ops o s with
  | some s'=>seqS P call ops rest s'
  | none=>none
inductive Cls where
 | pure | read (a:Operand) | new | act | store
def J04:Op→Cls
 | .load _ a=>.read a
 | .lookup _ m _ _=>.read m
 | .alloc _ | .box _ _ | .makeMap _ _ | .makeSlice _ _ _ | .buildSlice _ _ _=>.new
 | .store _ _ _=>.store
 | .mapUpdate _ _ _ _=>.store
 | .insert _ _ _ _=>.store
 | .convert _ _ x=>.read x
 | .slice _ x _ _ _=>.read x
 | .call c=>match c.callee with
  | .builtin .len | .builtin .max | .builtin .min=>.pure
  | _=>.act
 | _=>.pure
def idOf:Value→Option Nat
 | .pointer (some a)=>some a.block
 | .map (some i)=>some i
 | .slice (some a) _ _=>some a.block
 | _=>none
def J4n (b:Array Nat) (i j:Nat):Bool:=i != j && !(b.getD i 0).testBit j && !(b.getD j 0).testBit i
def J6C (o:Oper):Bool:=match J04 o.op with | .read _=>true | _=>false
def J2w (o:Oper):Bool:=match J04 o.op with | .act=>true | _=>false
def J50 (o:Oper):Bool:=match J04 o.op with | .new=>true | _=>false
def J11 (o:Oper):Bool:=match J04 o.op with | .store=>true | _=>false
def J2p (ops:Array Oper) (k:Nat):Bool:=
 let b:=Region.before ops
 ops.toList.zipIdx.any fun (o,i)=>(J2w o||(J50 o&&decide (i<k)))&&J4n b i k
def J2S (ops:Array Oper) (k:Nat):Bool:=
 let b:=Region.before ops
 ops.toList.zipIdx.any fun (o,i)=>J6C o&&J4n b i k
def J1H (ops:Array Oper) (k:Nat):List Operand:=
 let b:=Region.before ops
 ops.toList.zipIdx.filterMap fun (o,i)=>match J04 o.op with
  | .read a=>if i<k&&J4n b i k then some a else none
  | _=>none
def ahead (start:Nat):Option Nat→Bool
 | some id=>decide (id<start)
 | none=>true
noncomputable def J7X (P:Program) (call:J0r) (ops:Array Oper) (start i:Nat) (o:Oper) (s:St):Option St:=
 if J27 ops s.T o then
  match J04 o.op with
  | .read a=>if J2p ops i && !ahead start (idOf (ev s.T a)) then none else J2P P call ops o s
  | .act=>if J2S ops i then match J2P P call ops o ⟨s.T,s.h.fl (max s.h.floor start)⟩ with
    | some s'=>some ⟨s'.T,s'.h.fl s.h.floor⟩
    | none=>none
   else J2P P call ops o s
  | .store=>match o.op with
   | .store _ a _=>if (J1H ops i).all (fun x=>idOf (ev s.T x) != idOf (ev s.T a)) then J2P P call ops o s else none
   | .insert _ m _ _=>if (J1H ops i).all (fun x=>idOf (ev s.T x) != idOf (ev s.T m)) then J2P P call ops o s else none
   | .mapUpdate _ m _ _=>if (J1H ops i).all (fun x=>idOf (ev s.T x) != idOf (ev s.T m)) then J2P P call ops o s else none
   | _=>none
  | .pure=>match o.op with
   | .call c=>(match c.args.toList.map (ev s.T) with | [.map _]=>none | _=>J2P P call ops o s)
   | _=>J2P P call ops o s
  | .new=>J2P P call ops o s
 else some ⟨s.T.put o.dst undef,s.h⟩
noncomputable def seqD (P:Program) (call:J0r) (ops:Array Oper) (start:Nat):Nat→List Oper→St→Option St
 | _,[],s=>some s
 | i,o :: rest,s=>match J7X P call ops start i o s with
  | some s'=>seqD P call ops start (i+1) rest s'
  | none=>none
def J5m (f:St→Option (SExit × St)):Nat→St→Option (SExit × St)
 | 0,_=>none
 | n+1,s=>match f s with
  | some (.normal,s')=>J5m f n s'
  | r=>r
noncomputable def J1e (P:Program) (call:J0r) (n:Nat):Code→St→Option (SExit × St)
 | .skip,s=>some (.normal,s)
 | .region _ ops draw,s=>if draw then (seqD P call ops s.h.next 0 ops.toList s).map (.normal,·) else (seqS P call ops ops.toList s).map (.normal,·)
 | .seq a b,s=>match J1e P call n a s with
  | some (.normal,s')=>J1e P call n b s'
  | r=>r
 | .cond c a b,s=>match ev s.T c with
  | .bool true=>J1e P call n a s
  | .bool false=>J1e P call n b s
  | _=>none
 | .block id c,s=>match J1e P call n c s with
  | some (.exit i,s')=>if i=id then some (.normal,s') else some (.exit i,s')
  | r=>r
 | .loop c,s=>J5m (J1e P call n c) n s
 | .exit id,s=>some (.exit id,s)
 | .ret,s=>some (.ret,s)
 | _,_=>none
noncomputable def resS (P:Program) (s:St):List ResultVar→Option (List Value)
 | []=>some []
 | .tmp t :: r=>match resS P s r with | some l=>some (s.T.get t :: l) | none=>none
 | .cell a t :: r=>match J2x P s.h t (s.T.get a),resS P s r with | some v,some l=>some (v :: l) | _,_=>none
noncomputable def J00:Nat→List Value→Tr→Tr
 | _,[],T=>T
 | i,v :: vs,T=>J00 (i+1) vs (T.set i v)
noncomputable def J5H (P:Program):Nat→J0r
 | 0,_,_,_=>none
 | n + 1,f,args,h=>
  match P.funcs[f]? with
  | some fn=>match fn.body with
   | some c=>if args.length≤fn.ntmps then
     match J1e P (J5H P n) n c ⟨J00 0 args .leaf,h⟩ with
     | some (.normal,s) | some (.ret,s)=>match resS P s fn.results.toList with
      | some [v]=>some (v,s.h)
      | some vs=>some (.tuple vs.toArray,s.h)
      | none=>none
     | _=>none
    else none
   | none=>none
  | none=>none
end Go.Sx
namespace Go.Sx
open Go
inductive All2 {α β:Type} (R:α→β→Prop):List α→List β→Prop
 | nil:All2 R [] []
 | cons {a b l m}:R a b→All2 R l m→All2 R (a :: l) (b :: m)
namespace All2
variable {α β:Type} {R S:α→β→Prop}
theorem length {l:List α} {m:List β} (h:All2 R l m):l.length=m.length:=by
 induction h with
 | nil=>rfl
 | cons _ _ ih=>simp[ih]
theorem mono {l:List α} {m:List β} (hs:∀ a b,R a b→S a b) (h:All2 R l m):All2 S l m:=by
 induction h with
 | nil=>exact .nil
 | cons h _ ih=>exact .cons (hs _ _ h) ih
theorem append {l l':List α} {m m':List β} (h:All2 R l m) (h':All2 R l' m'):All2 R (l++l') (m++m'):=by
 induction h with
 | nil=>exact h'
 | cons h _ ih=>exact .cons h ih
theorem get {l:List α} {m:List β} (h:All2 R l m) {i:Nat} {a:α} (ha:l[i]?=some a):∃ b,m[i]?=some b∧R a b:=by
 induction h generalizing i with
 | nil=>simp at ha
 | cons h _ ih=>
  cases i with
  | zero=>simp at ha;subst ha;exact⟨_,rfl,h⟩
  | succ i=>simp at ha;simpa using ih ha
theorem getR {l:List α} {m:List β} (h:All2 R l m) {i:Nat} {b:β} (hb:m[i]?=some b):∃ a,l[i]?=some a∧R a b:=by
 induction h generalizing i with
 | nil=>simp at hb
 | cons h _ ih=>
  cases i with
  | zero=>simp at hb;subst hb;exact⟨_,rfl,h⟩
  | succ i=>simp at hb;simpa using ih hb
theorem of_get {l:List α} {m:List β} (hl:l.length=m.length) (h:∀ (i:Nat) (a:α) (b:β),l[i]?=some a→m[i]?=some b→R a b):All2 R l m:=by
 induction l generalizing m with
 | nil=>cases m with
  | nil=>exact .nil
  | cons _ _=>simp at hl
 | cons a l ih=>cases m with
  | nil=>simp at hl
  | cons b m=>exact .cons (h 0 a b rfl rfl) (ih (by simpa using hl) fun i x y hx hy=>h (i+1) x y (by simpa using hx) (by simpa using hy))
theorem drop {l:List α} {m:List β} (h:All2 R l m) (n:Nat):All2 R (l.drop n) (m.drop n):=
 of_get (by simp[h.length]) fun i a b ha hb=>by
  rw[List.getElem?_drop] at ha hb
  obtain⟨b',hb',r⟩:=h.get ha
  rw[hb'] at hb
  cases hb
  exact r
theorem take {l:List α} {m:List β} (h:All2 R l m) (n:Nat):All2 R (l.take n) (m.take n):=by
 induction h generalizing n with
 | nil=>simpa using All2.nil
 | cons h _ ih=>cases n with
  | zero=>simpa using All2.nil
  | succ n=>simpa using All2.cons h (ih n)
theorem map {γ δ:Type} {f:α→γ} {g:β→δ} {S:γ→δ→Prop} {l:List α} {m:List β} (h:All2 R l m) (hs:∀ a b,R a b→S (f a) (g b)):All2 S (l.map f) (m.map g):=by
 induction h with
 | nil=>exact .nil
 | cons h _ ih=>exact .cons (hs _ _ h) ih
theorem same {l:List α} {R:α→α→Prop} (h:∀ a∈l,R a a):All2 R l l:=by
 induction l with
 | nil=>exact .nil
 | cons a l ih=>exact .cons (h a (by simp)) (ih fun b hb=>h b (by simp[hb]))
theorem set {l:List α} {m:List β} (h:All2 R l m) {i:Nat} {a:α} {b:β} (hr:R a b):All2 R (l.set i a) (m.set i b):=by
 induction h generalizing i with
 | nil=>exact .nil
 | cons h ht ih=>cases i with
  | zero=>exact .cons hr ht
  | succ i=>exact .cons h (ih (i:=i))
end All2
abbrev Map:=Nat→Option Loc
inductive vrel (ρ:Map):Value→Value→Prop
 | flat {v}:J1i v=true→vrel ρ v v
 | ptr {id off L}:ρ id=some L→vrel ρ (.pointer (some ⟨id,off,none⟩)) (.pointer (some ⟨L.b,L.d+off,none⟩))
 | slice {id off L n c}:ρ id=some L→c<unk→vrel ρ (.slice (some ⟨id,off,none⟩) n c) (.slice (some ⟨L.b,L.d+off,none⟩) n c)
 | sliceU {id off L n c a}:ρ id=some L→n≤c→(c=0∨(a=⟨L.b,L.d+off,none⟩∧off+c*L.z=L.e))→vrel ρ (.slice (some ⟨id,off,none⟩) n unk) (.slice (some a) n c)
 | map {id L}:ρ id=some L→vrel ρ (.map (some id)) (.map (some L.b))
 | func {fn f f' c c'}:All2 (vrel ρ) f.toList f'.toList→All2 (vrel ρ) c.toList c'.toList→vrel ρ (.func fn f c) (.func fn f' c')
 | iface {t v v'}:vrel ρ v v'→vrel ρ (.iface t v) (.iface t v')
 | agg {cs cs'}:All2 (vrel ρ) cs.toList cs'.toList→vrel ρ (.agg cs) (.agg cs')
 | tuple {cs cs'}:All2 (vrel ρ) cs.toList cs'.toList→vrel ρ (.tuple cs) (.tuple cs')
theorem vrel.mono {ρ ρ':Map} (hx:∀ i L,ρ i=some L→ρ' i=some L) {v V:Value} (h:vrel ρ v V):vrel ρ' v V:=by
 refine vrel.rec (motive_1:=fun v V _=>vrel ρ' v V) (motive_2:=fun l m _=>All2 (vrel ρ') l m) ?_ ?_ ?_ ?_ ?_ ?_ ?_ ?_ ?_ ?_ ?_ h
 ·intro v hv;exact .flat hv
 ·intro id off L hL;exact .ptr (hx _ _ hL)
 ·intro id off L n c hL hc;exact .slice (hx _ _ hL) hc
 ·intro id off L n c a hL hn ha;exact .sliceU (hx _ _ hL) hn ha
 ·intro id L hL;exact .map (hx _ _ hL)
 ·intro fn f f' c c' _ _ h1 h2;exact .func h1 h2
 ·intro t v v' _ h;exact .iface h
 ·intro cs cs' _ h;exact .agg h
 ·intro cs cs' _ h;exact .tuple h
 ·exact .nil
 ·intro a b l m _ _ h1 h2;exact .cons h1 h2
theorem J1Q {ρ:Map} {v V:Value} (hf:J1i v=true) (h:vrel ρ v V):V=v:=by
 cases h with
 | flat _=>rfl
 | sliceU _ _ _=>simp[J1i] at hf
 | _=>simp[J1i] at hf
theorem J91 {ρ:Map} {l m:List Value} (h:All2 (vrel ρ) l m) (hf:l.all J1i=true):m=l:=by
 induction h with
 | nil=>rfl
 | cons h _ ih=>
  simp at hf
  rw[J1Q hf.1 h,ih (by simpa using hf.2)]
theorem J4F {ρ:Map} {v V:Value} (hf:flat v=true) (h:vrel ρ v V):V=v:=by
 cases h with
 | agg h=>
  simp only[flat] at hf
  have:=J91 h hf
  congr 1
  exact Array.toList_inj.1 this
 | flat hv=>rfl
 | _=>first | rfl | simp[flat,J1i] at hf
theorem J1X {ρ:Map} {v:Value} (hf:flat v=true):vrel ρ v v:=by
 unfold flat at hf
 split at hf
 ·rename_i cs
  refine .agg (All2.same fun a ha=>.flat ?_)
  exact List.all_eq_true.1 hf a ha
 ·exact .flat hf
theorem J32 {ρ:Map}:vrel ρ undef undef:=.tuple .nil
theorem J4O {ρ:Map} {v V:Value} (h:vrel ρ v V):All2 (vrel ρ) v.cells.toList V.cells.toList:=by
 cases h with
 | agg h=>exact h
 | flat hv=>
  have:v.cells=#[v]:=by
   cases v <;> simp[J1i] at hv <;> rfl
  rw[this]
  exact .cons (.flat hv) .nil
 | ptr h=>exact .cons (.ptr h) .nil
 | slice h h'=>exact .cons (.slice h h') .nil
 | sliceU h h1 h2=>exact .cons (.sliceU h h1 h2) .nil
 | map h=>exact .cons (.map h) .nil
 | func h h'=>exact .cons (.func h h') .nil
 | iface h=>exact .cons (.iface h) .nil
 | tuple h=>exact .cons (.tuple h) .nil
theorem Ja5 {ρ:Map} {v V:Value} (h:vrel ρ v V):one V=one v:=by
 cases h <;> rfl
theorem J3G {ρ:Map} {b:Bool} {V:Value} (h:vrel ρ (.bool b) V):V=.bool b:=J1Q rfl h
theorem J2G {ρ:Map} {k:IntKind} {n:Int} {V:Value} (h:vrel ρ (.int k n) V):V=.int k n:=J1Q rfl h
theorem J4U {ρ:Map} {s:ByteArray} {V:Value} (h:vrel ρ (.string s) V):V=.string s:=J1Q rfl h
theorem J7L {ρ:Map} {id off:Nat} {V:Value} (h:vrel ρ (.pointer (some ⟨id,off,none⟩)) V):∃ L,ρ id=some L∧V=.pointer (some ⟨L.b,L.d+off,none⟩):=by
 cases h with
 | flat h=>simp[J1i] at h
 | ptr h=>exact⟨_,h,rfl⟩
theorem J3D {ρ:Map} {a:Addr} {V:Value} (h:vrel ρ (.pointer (some a)) V):∃ L,ρ a.block=some L∧a.spot=none∧V=.pointer (some ⟨L.b,L.d+a.off,none⟩):=by
 cases h with
 | flat h=>simp[J1i] at h
 | ptr h=>exact⟨_,h,rfl,rfl⟩
theorem J7T {ρ:Map} {id:Nat} {V:Value} (h:vrel ρ (.map (some id)) V):∃ L,ρ id=some L∧V=.map (some L.b):=by
 cases h with
 | flat h=>simp[J1i] at h
 | map h=>exact⟨_,h,rfl⟩
theorem JeH {ρ:Map} {cs:Array Value} {V:Value} (h:vrel ρ (.agg cs) V):∃ cs',V=.agg cs'∧All2 (vrel ρ) cs.toList cs'.toList:=by
 cases h with
 | flat h=>simp[J1i] at h
 | agg h=>exact⟨_,rfl,h⟩
theorem Jbv {ρ:Map} {cs:Array Value} {V:Value} (h:vrel ρ (.tuple cs) V):∃ cs',V=.tuple cs'∧All2 (vrel ρ) cs.toList cs'.toList:=by
 cases h with
 | flat h=>simp[J1i] at h
 | tuple h=>exact⟨_,rfl,h⟩
theorem J6O {ρ:Map} {fn:Fn} {f c:Array Value} {V:Value} (h:vrel ρ (.func fn f c) V):∃ f' c',V=.func fn f' c'∧All2 (vrel ρ) f.toList f'.toList∧All2 (vrel ρ) c.toList c'.toList:=by
 cases h with
 | flat h=>simp[J1i] at h
 | func h h'=>exact⟨_,_,rfl,h,h'⟩
theorem Jcu:∀ (n m k:Nat),k≤n→k≤m→wayF n k=wayF m k:=by
 intro n
 induction n with
 | zero=>
  intro m k h1 h2
  obtain rfl:k=0:=by omega
  cases m <;> simp[wayF]
 | succ n ih=>
  intro m k h1 h2
  cases m with
  | zero=>
   obtain rfl:k=0:=by omega
   simp[wayF]
  | succ m=>
   simp only[wayF]
   by_cases hk:k=0
   ·simp[hk]
   ·rw[if_neg hk,if_neg hk,ih m (k/2) (by omega) (by omega),ih m (k/2-1) (by omega) (by omega)]
theorem JfM (k:Nat):way k=if k=0 then [] else if k%2=1 then true :: way (k/2) else false :: way (k/2-1):=by
 unfold way
 cases k with
 | zero=>rfl
 | succ k=>
  simp only[wayF,Nat.add_one_ne_zero,if_false]
  rw[Jcu k ((k+1)/2) ((k+1)/2) (by omega) (by omega),Jcu k ((k+1)/2-1) ((k+1)/2-1) (by omega) (by omega)]
theorem JcQ:∀ {k j:Nat},way k=way j→k=j:=by
 intro k
 induction k using Nat.strongRecOn with
 | ind k ih=>
  intro j h
  rw[JfM k,JfM j] at h
  by_cases hk:k=0
  ·by_cases hj:j=0
   ·omega
   ·rw[if_pos hk,if_neg hj] at h
    split at h <;> cases h
  ·by_cases hj:j=0
   ·rw[if_neg hk,if_pos hj] at h
    split at h <;> cases h
   ·rw[if_neg hk,if_neg hj] at h
    by_cases k2:k%2=1 <;> by_cases j2:j%2=1
    ·rw[if_pos k2,if_pos j2] at h
     have:=ih (k/2) (by omega) (List.cons.inj h).2
     omega
    ·rw[if_pos k2,if_neg j2] at h
     cases (List.cons.inj h).1
    ·rw[if_neg k2,if_pos j2] at h
     cases (List.cons.inj h).1
    ·rw[if_neg k2,if_neg j2] at h
     have:=ih (k/2-1) (by omega) (List.cons.inj h).2
     omega
theorem OTr.look_lay (p:List Bool):∀ (q:List Bool) (t:OTr) (u:SObj),(OTr.lay p u t).look q=if q=p then u else t.look q:=by
 induction p with
 | nil=>
  intro q t u
  cases q with
  | nil=>cases t <;> rfl
  | cons c q=>cases t <;> cases c <;> rfl
 | cons b p ih=>
  intro q t u
  cases q with
  | nil=>cases t <;> cases b <;> rfl
  | cons c q=>
   have h1:=fun t=>ih q t u
   cases t <;> cases b <;> cases c <;> first | rfl | (refine(h1 _).trans ?_;by_cases e:q=p <;> simp[e] <;> rfl)
theorem OTr.get_set (t:OTr) (k j:Nat) (u:SObj):(t.set k u).get j=if j=k then u else t.get j:=by
 unfold OTr.get OTr.set
 rw[OTr.look_lay]
 by_cases e:j=k
 ·rw[if_pos e,if_pos (by rw[e])]
 ·rw[if_neg e,if_neg (fun h=>e (JcQ h))]
section
variable {h:SHeap} {o:SObj} {i j:Nat}
theorem J3j (hi:h.next≤i):h.get i=.dead:=by unfold SHeap.get;rw[if_neg (by omega)]
theorem J0h:(h.push o).get h.next=o:=by
 unfold SHeap.get SHeap.push
 simp[OTr.get_set]
theorem J06 (hi:i<h.next):(h.push o).get i=h.get i:=by
 unfold SHeap.get SHeap.push
 simp only[hi,if_true]
 rw[if_pos (by omega),OTr.get_set,if_neg (by omega)]
theorem J3n (hne:i≠h.next):(h.push o).get i=h.get i:=by
 rcases Nat.lt_or_gt_of_ne hne with hi | hi
 ·exact J06 hi
 ·rw[J3j (h:=h) (by omega),J3j (h:=h.push o) (by simp[SHeap.push];omega)]
theorem J0b (_hl:h.good) (hi:i<h.next):(h.put i o).get i=o:=by
 unfold SHeap.get SHeap.put
 simp only[hi,if_true]
 rw[OTr.get_set,if_pos rfl]
theorem J05 (_hi:i<h.next) (hne:i≠j):(h.put i o).get j=h.get j:=by
 unfold SHeap.get SHeap.put
 simp only
 by_cases hj:j<h.next
 ·simp only[hj,if_true]
  rw[OTr.get_set,if_neg (by omega)]
 ·simp[hj]
theorem J8c (_hl:h.good):(h.push o).good:=rfl
theorem J6u (_hl:h.good):(h.put i o).good:=rfl
theorem Jdx (hn:h.get i≠.dead):i<h.next:=by
 rcases Nat.lt_or_ge i h.next with hi | hi
 ·exact hi
 ·exact absurd (J3j hi) hn
end
theorem Tr.look_lay (p:List Bool):∀ (q:List Bool) (t:Tr) (u:Value),(Tr.lay p u t).look q=if q=p then u else t.look q:=by
 induction p with
 | nil=>
  intro q t u
  cases q with
  | nil=>cases t <;> rfl
  | cons c q=>cases t <;> cases c <;> rfl
 | cons b p ih=>
  intro q t u
  cases q with
  | nil=>cases t <;> cases b <;> rfl
  | cons c q=>
   have h1:=fun t=>ih q t u
   cases t <;> cases b <;> cases c <;> first | rfl | (refine(h1 _).trans ?_;by_cases e:q=p <;> simp[e] <;> rfl)
theorem Tr.get_set (t:Tr) (k j:Nat) (u:Value):(t.set k u).get j=if j=k then u else t.get j:=by
 unfold Tr.get Tr.set
 rw[Tr.look_lay]
 by_cases e:j=k
 ·rw[if_pos e,if_pos (by rw[e])]
 ·rw[if_neg e,if_neg (fun h=>e (JcQ h))]
def live:SObj→Prop
 | .dead=>False
 | _=>True
def wr:SObj→Prop
 | .row _ _ _ ro=>ro=false
 | .map _=>True
 | .dead=>False
theorem wr.live {o:SObj} (h:wr o):live o:=by cases o <;> simp_all [wr,Sx.live]
def objR (P:Program) (ρ:Map) (W:World) (i:Nat):SObj→Prop
 | .dead=>True
 | .row cs ty _ ro=>∃ L CS ty' fr,ρ i=some L∧W.heap[L.b]?=some (.cells CS ty' fr)∧(∀ (k:Nat) (v:Value),cs[k]?=some v→∃ V,CS[L.d+k]?=some V∧vrel ρ v V) ∧
   (ro=false→fr=(0,0)∧ty'=ty∧L.d+L.e=CS.size∧szOf P ty=some L.z)
 | .map es=>∃ L ES clk,ρ i=some L∧W.heap[L.b]?=some (.map ES clk)∧All2 (fun e E=>vrel ρ e.1 E.key∧vrel ρ e.2 E.val) es ES.toList
structure Rel (P:Program) (ρ:Map) (h:SHeap) (W:World):Prop where
 len:h.good
 dom:∀ i,h.next≤i→ρ i=none
 glob:∀ g,g<P.globals.size→∃ L,ρ g=some L∧L.b=g∧L.d=0
 obj:∀ i,objR P ρ W i (h.get i)
 inj:∀ i j L L',wr (h.get i)→live (h.get j)→i≠j→ρ i=some L→ρ j=some L'→L.b≠L'.b
structure Fr (ρ:Map) (h:SHeap) (W W':World):Prop where
 os:W'.os=W.os
 tape:W'.tape=W.tape
 output:W'.output=W.output
 size:W.heap.size≤W'.heap.size
 blk:∀ b,b<W.heap.size→(∀ i L,wr (h.get i)→h.floor≤i→ρ i=some L→L.b≠b)→W'.heap[b]?=W.heap[b]?
structure Nx (P:Program) (ρ:Map) (h:SHeap) (W:World) (ρ':Map) (h':SHeap) (W':World):Prop where
 ext:∀ i L,ρ i=some L→ρ' i=some L
 old:∀ i,i<h.next→ρ' i=ρ i
 rel:Rel P ρ' h' W'
 fr:Fr ρ h W W'
 nx:h.next≤h'.next
 floor:h'.floor=h.floor
 keep:∀ i,i<h.next→i<h.floor→h'.get i=h.get i
 was:∀ i,i<h.next→wr (h'.get i)→wr (h.get i)
 wasl:∀ i,i<h.next→live (h'.get i)→live (h.get i)
 own:∀ i L,h.next≤i→live (h'.get i)→ρ' i=some L→W.heap.size≤L.b∨∃ j L0,wr (h.get j)∧h.floor≤j∧ρ j=some L0∧L0.b=L.b
theorem objR.at_ {P:Program} {ρ:Map} {W:World} {i:Nat} {o:SObj} (h:objR P ρ W i o) (hl:live o):∃ L,ρ i=some L∧L.b<W.heap.size:=by
 cases o with
 | dead=>exact hl.elim
 | row cs ty g ro=>
  obtain⟨L,CS,ty',fr,h1,h2,_⟩:=h
  exact⟨L,h1,by
   rcases Nat.lt_or_ge L.b W.heap.size with hb | hb
   ·exact hb
   ·rw[Array.getElem?_eq_none hb] at h2;cases h2⟩
 | map es=>
  obtain⟨L,ES,clk,h1,h2,_⟩:=h
  exact⟨L,h1,by
   rcases Nat.lt_or_ge L.b W.heap.size with hb | hb
   ·exact hb
   ·rw[Array.getElem?_eq_none hb] at h2;cases h2⟩
theorem objR.mono {P:Program} {ρ ρ':Map} {W W':World} {i:Nat} {o:SObj} (hx:∀ i L,ρ i=some L→ρ' i=some L) (hb:∀ L,ρ i=some L→live o→W'.heap[L.b]?=W.heap[L.b]?) (h:objR P ρ W i o):objR P ρ' W' i o:=by
 cases o with
 | dead=>trivial
 | row cs ty g ro=>
  obtain⟨L,CS,ty',fr,h1,h2,h3,h4⟩:=h
  exact⟨L,CS,ty',fr,hx _ _ h1,(hb L h1 trivial).trans h2,fun k v hv=>let ⟨V,hV,hr⟩:=h3 k v hv;⟨V,hV,hr.mono hx⟩,h4⟩
 | map es=>
  obtain⟨L,ES,clk,h1,h2,h3⟩:=h
  exact⟨L,ES,clk,hx _ _ h1,(hb L h1 trivial).trans h2,h3.mono fun a b h=>⟨h.1.mono hx,h.2.mono hx⟩⟩
theorem Fr.refl (ρ:Map) (h:SHeap) (W:World):Fr ρ h W W:=⟨rfl,rfl,rfl,Nat.le_refl _,fun _ _ _=>rfl⟩
theorem Nx.refl {P:Program} {ρ:Map} {h:SHeap} {W:World} (hR:Rel P ρ h W):Nx P ρ h W ρ h W:=
 ⟨fun _ _ h=>h,fun _ _=>rfl,hR,Fr.refl _ _ _,Nat.le_refl _,rfl,fun _ _ _=>rfl,fun _ _ h=>h,fun _ _ h=>h,fun i L hi hw _=>by rw[J3j hi] at hw;exact hw.elim⟩
theorem Nx.trans {P:Program} {ρ ρ' ρ'':Map} {h h' h'':SHeap} {W W' W'':World} (hR:Rel P ρ h W) (a:Nx P ρ h W ρ' h' W') (b:Nx P ρ' h' W' ρ'' h'' W''):Nx P ρ h W ρ'' h'' W'':=by
 have key:∀ i L,wr (h'.get i)→h'.floor≤i→ρ' i=some L→W.heap.size≤L.b∨∃ j L0,wr (h.get j)∧h.floor≤j∧ρ j=some L0∧L0.b=L.b:=by
  intro i L hw hf hL
  rcases Nat.lt_or_ge i h.next with hi | hi
  ·have hw0:=a.was i hi hw
   obtain⟨L0,hL0,_⟩:=(hR.obj i).at_ hw0.live
   have:=a.ext i L0 hL0
   rw[hL] at this
   cases this
   exact .inr ⟨i,L,hw0,by rw[← a.floor];exact hf,hL0,rfl⟩
  ·exact a.own i L hi hw.live hL
 refine⟨fun i L hi=>b.ext _ _ (a.ext _ _ hi),fun i hi=>(b.old i (Nat.lt_of_lt_of_le hi a.nx)).trans (a.old i hi),b.rel,⟨b.fr.os.trans a.fr.os,b.fr.tape.trans a.fr.tape,b.fr.output.trans a.fr.output,Nat.le_trans a.fr.size b.fr.size,?_⟩,Nat.le_trans a.nx b.nx,b.floor.trans a.floor,?_,?_,?_,?_⟩
 ·intro k hk hno
  rw[b.fr.blk k (Nat.lt_of_lt_of_le hk a.fr.size) ?_,a.fr.blk k hk hno]
  intro i L hw hf hL e
  rcases key i L hw hf hL with hs | ⟨j,L0,hwj,hfj,hLj,ej⟩
  ·omega
  ·exact hno j L0 hwj hfj hLj (ej.trans e)
 ·intro i hi hf
  rw[b.keep i (Nat.lt_of_lt_of_le hi a.nx) (by rw[a.floor];exact hf),a.keep i hi hf]
 ·intro i hi hw
  exact a.was i hi (b.was i (Nat.lt_of_lt_of_le hi a.nx) hw)
 ·intro i hi hw
  exact a.wasl i hi (b.wasl i (Nat.lt_of_lt_of_le hi a.nx) hw)
 ·intro i L hi hw hL
  rcases Nat.lt_or_ge i h'.next with hi' | hi'
  ·have hw':=b.wasl i hi' hw
   obtain⟨L0,hL0,_⟩:=(a.rel.obj i).at_ hw'
   have:=b.ext i L0 hL0
   rw[hL] at this
   cases this
   exact a.own i L hi hw' hL0
  ·rcases b.own i L hi' hw hL with hs | ⟨j,L0,hwj,hfj,hLj,ej⟩
   ·exact .inl (Nat.le_trans a.fr.size hs)
   ·rcases key j L0 hwj hfj hLj with hs | ⟨j2,L2,h1,h2,h3,h4⟩
    ·exact .inl (by omega)
    ·exact .inr ⟨j2,L2,h1,h2,h3,h4.trans ej⟩
end Go.Sx
