/- Part 1 of what the claim leans on: 2 texts laid one behind another. -/
import Derived.Orders
import Derived.Below
import Derived.KernelRfl
theorem Go.Sx.aQ {a b:Prop} (x:a) (y:b):a∧b:=⟨x,y⟩
namespace Go.Sx
open Go
set_option maxHeartbeats 64000000
def AG:Nat:=18446744073709551616
structure Loc where
 b:Nat
 d:Nat
 e:Nat
 z:Nat
inductive BB where
 | row (cs:List Value) (ty:TypeId) (grow ro:Bool)
 | map (es:List (Value × Value))
 | dead
def M3:Nat→Nat→List Bool
 | 0,_=>[]
 | n+1,k=>if k=0 then [] else if k%2=1 then true :: M3 n (k/2) else false :: M3 n (k/2-1)
def JW (k:Nat):List Bool:=M3 k k
inductive DP where
 | leaf
 | node (o:BB) (l r:DP)
noncomputable def DP.look (t:DP):List Bool→BB:=
 DP.rec (motive:=fun _=>List Bool→BB) (fun _=>.dead) (fun v _ _ gl gr p=>List.rec (motive:=fun _=>BB) v (fun b p _=>Bool.rec (motive:=fun _=>BB) (gr p) (gl p) b) p) t
noncomputable def DP.lay (p:List Bool):BB→DP→DP:=
 List.rec (motive:=fun _=>BB→DP→DP)
  (fun u t=>DP.rec (motive:=fun _=>DP) (.node u .leaf .leaf) (fun _ l r _ _=>.node u l r) t)
  (fun b _ ih u t=>DP.rec (motive:=fun _=>DP)
   (Bool.rec (motive:=fun _=>DP) (.node .dead .leaf (ih u .leaf)) (.node .dead (ih u .leaf) .leaf) b)
   (fun v l r _ _=>Bool.rec (motive:=fun _=>DP) (.node v l (ih u r)) (.node v (ih u l) r) b) t) p
noncomputable def DP.get (t:DP) (k:Nat):BB:=t.look (JW k)
noncomputable def DP.set (t:DP) (k:Nat) (u:BB):DP:=DP.lay (JW k) u t
structure AA where
 next:Nat
 floor:Nat
 objs:DP
noncomputable def AA.get (h:AA) (i:Nat):BB:=if i<h.next then h.objs.get i else .dead
noncomputable def AA.push (h:AA) (o:BB):AA:={ next:=h.next+1,floor:=h.floor,objs:=h.objs.set h.next o }
noncomputable def AA.put (h:AA) (i:Nat) (o:BB):AA:={ next:=h.next,floor:=h.floor,objs:=h.objs.set i o }
def AA.fl (h:AA) (f:Nat):AA:={ next:=h.next,floor:=f,objs:=h.objs }
def AA.good (h:AA):Prop:=h.next=h.next
inductive Tr where
 | leaf
 | node (v:Value) (l r:Tr)
noncomputable def Tr.look (t:Tr):List Bool→Value:=
 Tr.rec (motive:=fun _=>List Bool→Value) (fun _=>undef) (fun v _ _ gl gr p=>List.rec (motive:=fun _=>Value) v (fun b p _=>Bool.rec (motive:=fun _=>Value) (gr p) (gl p) b) p) t
noncomputable def Tr.lay (p:List Bool):Value→Tr→Tr:=
 List.rec (motive:=fun _=>Value→Tr→Tr)
  (fun u t=>Tr.rec (motive:=fun _=>Tr) (.node u .leaf .leaf) (fun _ l r _ _=>.node u l r) t)
  (fun b _ ih u t=>Tr.rec (motive:=fun _=>Tr)
   (Bool.rec (motive:=fun _=>Tr) (.node undef .leaf (ih u .leaf)) (.node undef (ih u .leaf) .leaf) b)
   (fun v l r _ _=>Bool.rec (motive:=fun _=>Tr) (.node v l (ih u r)) (.node v (ih u l) r) b) t) p
noncomputable def Tr.get (t:Tr) (k:Nat):Value:=t.look (JW k)
noncomputable def Tr.set (t:Tr) (k:Nat) (u:Value):Tr:=Tr.lay (JW k) u t
noncomputable def Tr.put (t:Tr) (dst:Option Tmp) (u:Value):Tr:=match dst with | some d=>t.set d u | none=>t
noncomputable def ev (T:Tr):Operand→Value
 | .tmp t=>T.get t
 | .const v=>v
 | .global g=>.pointer (some ⟨g,0,none⟩)
 | .func f=>.func (.func f) #[] #[]
def BC {α:Type} (P:Program):Sem α→Option α
 | .pure a=>some a
 | .program k=>BC P (k P)
 | .mark _ k=>BC P k
 | _=>none
def BO:Value→Bool
 | .bool _ | .int _ _ | .string _ | .nilFunc | .nilIface | .pointer none | .map none | .slice none 0 0=>true
 | _=>false
def flat:Value→Bool
 | .agg cs=>cs.toList.all BO
 | v=>BO v
def one:Value→Bool
 | .agg _ | .tuple _=>false
 | _=>true
def BP (P:Program) (t:TypeId):Option Nat:=(P.info? t).map (·.size)
def G_ (P:Program) (t:TypeId):Option Nat:=(P.info? t).map (·.bytes)
def DI (P:Program) (t:TypeId):Option Value:=match P.info? t with | some i=>i.zero | none=>none
def FK (P:Program) (t:TypeId):Option Bool:=match P.underlying t with | some (.struct _) | some (.array _ _)=>some true | some _=>some false | none=>none
def D1 (cs:List Value) (off n:Nat):Option (List Value):=let l:=(cs.drop off).take n;if l.length=n then some l else none
noncomputable def EO (P:Program) (h:AA) (t:TypeId) (v:Value):Option Value:=
 match v with
 | .pointer (some ⟨id,off,none⟩)=>
  match h.get id with
  | .row cs _ _ _=>
   match FK P t with
   | some true=>match BP P t with
    | some n=>match D1 cs off n with
     | some l=>some (.agg l.toArray)
     | none=>none
    | none=>none
   | some false=>cs[off]?
   | none=>none
  | _=>none
 | _=>none
def lay (cs:List Value) (off:Nat) (new:List Value):List Value:=cs.take off++new++cs.drop (off+new.length)
noncomputable def GL (h:AA) (id off:Nat) (new:List Value):Option AA:=
 match h.get id with
 | .row cs ty g false=>if h.floor≤id&&off+new.length≤cs.length&&new.all one then some (h.put id (.row (lay cs off new) ty g false)) else none
 | _=>none
noncomputable def BW (P:Program) (h:AA) (t:TypeId) (a v:Value):Option AA:=
 match a with
 | .pointer (some ⟨id,off,none⟩)=>
  if BP P t=some v.cells.size then GL h id off v.cells.toList else none
 | _=>none
def CY (P:Program) (t:TypeId) (x i:Value):Option Value:=
 match P.underlying t,x,i with
 | some (.slice e),.slice (some a) len _,.int _ n=>
  if 0≤n∧n<(len:Int) then match BP P e with
   | some s=>some (.pointer (some (a.add (n.toNat*s))))
   | none=>none
  else none
 | some (.array len e),.pointer (some a),.int _ n=>
  if 0≤n∧n<(len:Int) then match BP P e with
   | some s=>some (.pointer (some (a.add (n.toNat*s))))
   | none=>none
  else none
 | _,_,_=>none
def F3 (x:Option Value) (dflt lo hi:Nat):Option Nat:=
 match x with
 | none=>some dflt
 | some (.int _ n)=>if (lo:Int)≤n∧n≤(hi:Int) then some n.toNat else none
 | _=>none
noncomputable def G7 (P:Program) (hp:AA) (t:TypeId) (x:Value) (lo hi mx:Option Value):Option Value:=
 match P.underlying t,x with
 | some (.slice e),.slice a len cap=>
  match BP P e with
  | some s=>
   if cap=AG then
    match mx,F3 hi len 0 len with
    | none,some h=>match F3 lo 0 0 h,a with
     | some l,some ⟨id,off,none⟩=>
      if l=0 then some (.slice a h AG) else
      match hp.get id with
      | .row _ ty _ false=>if BP P ty=some s then some (.slice (some ⟨id,off+l*s,none⟩) (h-l) AG) else none
      | _=>none
     | _,_=>none
    | _,_=>none
   else
    match (match mx with | none=>some cap | some _=>(match hi with | some _=>F3 mx 0 0 cap | none=>none)) with
    | some m=>match F3 hi len 0 m with
     | some h=>match F3 lo 0 0 h with
      | some l=>some (.slice (if m=l then a else a.map (·.add (l*s))) (h-l) (m-l))
      | none=>none
     | none=>none
    | none=>none
  | none=>none
 | some (.string),.string s=>
  if mx.isSome then none else
  match F3 hi s.size 0 s.size with
  | some h=>match F3 lo 0 0 h with
   | some l=>some (.string (s.extract l h))
   | none=>none
  | none=>none
 | some (.array n e),.pointer (some a)=>
  if mx.isSome||decide (281474976710656<n) then none else
  match F3 hi n 0 n with
  | some h=>match F3 lo 0 0 h with
   | some l=>match BP P e with
    | some s=>some (.slice (some (if n=l then a else a.add (l*s))) (h-l) (n-l))
    | none=>none
   | none=>none
  | none=>none
 | _,_=>none
def BH (P:Program) (s:TypeId) (x:Value) (f:Nat):Option Value:=
 match P.underlying s,x with
 | some (.struct fs),.pointer (some a)=>
  match fs[f]? with
  | some fd=>match BP P fd.type with
   | some 0=>none
   | some _=>some (.pointer (some (a.add fd.offset)))
   | none=>none
  | none=>none
 | _,_=>none
def bB (P:Program) (s:TypeId) (x:Value) (f:Nat):Option Value:=
 match P.underlying s,x with
 | some (.struct fs),.agg cs=>
  match fs[f]? with
  | some fd=>match FK P fd.type with
   | some true=>match BP P fd.type with
    | some n=>some (.agg (cs.extract fd.offset (fd.offset+n)))
    | none=>none
   | some false=>cs[fd.offset]?
   | none=>none
  | none=>none
 | _,_=>none
def G6 (P:Program):List Field→Option (List (Nat × Nat))
 | []=>some []
 | f :: fs=>match BP P f.type with
  | some n=>match G6 P fs with
   | some l=>some ((f.offset,n) :: l)
   | none=>none
  | none=>none
def GU (place:Nat→Option (Nat × Nat)) (cells:List Value):List (Nat × Value)→Option (List Value)
 | []=>some cells
 | (i,v) :: rest=>
  match place i with
  | none=>none
  | some (off,size)=>
   if v.cells.size≠size||off+v.cells.size>cells.length then none
   else GU place (lay cells off v.cells.toList) rest
def DR (P:Program) (t:TypeId) (parts:List (Nat × Value)):Option Value:=
 match DI P t with
 | some z=>
  if flat z then
   match P.underlying t with
   | some (.struct fs)=>match G6 P fs.toList with
    | some pl=>match GU (fun i=>pl[i]?) z.cells.toList parts with
     | some cs=>some (.agg cs.toArray)
     | none=>none
    | none=>none
   | some (.array _ e)=>match BP P e with
    | some s=>match GU (fun i=>some (i*s,s)) z.cells.toList parts with
     | some cs=>some (.agg cs.toArray)
     | none=>none
    | none=>none
   | _=>none
  else none
 | none=>none
def ER (z:List Value):Nat→List Value
 | 0=>[]
 | n+1=>z++ER z n
noncomputable def EA (P:Program) (h:AA) (t:TypeId) (len:Nat) (parts:List (Nat × Value)):Option (Value × AA):=
 match P.underlying t with
 | some (.slice e)=>
  match BP P e,DI P e with
  | some s,some z=>
   if flat z&&z.cells.size==s&&decide (0<s)&&decide (len*s≤16777216) then
    match GU (fun i=>some (i*s,s)) (ER z.cells.toList len) parts with
    | some cs=>some (.slice (some ⟨h.next,0,none⟩) len len,h.push (.row cs e false false))
    | none=>none
   else none
  | _,_=>none
 | _=>none
noncomputable def MK (P:Program) (h:AA) (t:TypeId) (l c:Value):Option (Value × AA):=
 match P.underlying t,l,c with
 | some (.slice e),.int _ l,.int _ c=>
  match BP P e,DI P e,G_ P e with
  | some s,some z,some by_=>
   if flat z&&z.cells.size==s&&decide (0<s)&&decide (0≤l)&&decide (l≤c)&&decide ((by_:Int)*c≤281474976710656)&&decide (c≤281474976710656) then
    some (.slice (some ⟨h.next,0,none⟩) l.toNat c.toNat,h.push (.row (ER z.cells.toList c.toNat) e false false))
   else none
  | _,_,_=>none
 | _,_,_=>none
noncomputable def CL (h:AA) (s n:Nat) (x:Value):Option (List Value):=
 match x with
 | .slice none _ _=>if n=0 then some [] else none
 | .slice (some ⟨id,off,none⟩) _ _=>if n=0 then some [] else
  match h.get id with
  | .row cs _ _ _=>D1 cs off (n*s)
  | _=>none
 | _=>none
noncomputable def C4 (P:Program) (h:AA) (t:TypeId) (dst src:Value):Option (Value × AA):=
 match P.underlying t,dst,src with
 | some (.slice e),.slice base len cap,.slice sb n sc=>
  match BP P e,G_ P e,DI P e with
  | some s,some by_,some z=>
   if decide (0<s)&&z.cells.size==s&&decide (len≤cap) then
   match CL h s n (.slice sb n sc) with
   | some new=>
    if new.all one then
    if cap=AG then
     match base with
     | some ⟨id,off,none⟩=>
      if decide ((len+n)*by_≤140737488355328)&&decide (len+n≤140737488355328)&&decide (h.floor≤id) then
       if n=0 then some (dst,h) else
       match h.get id with
       | .row cs ty true false=>
        if ty=e then
        match D1 cs off (len*s) with
        | some old=>if old.all one then some (.slice (some ⟨h.next,0,none⟩) (len+n) AG,(h.put id .dead).push (.row (old++new) e true false)) else none
        | none=>none
        else none
       | _=>none
      else none
     | _=>none
    else if len+n≤cap then
     if n=0 then some (.slice base (len+n) cap,h) else
     match base with
     | some ⟨id,off,none⟩=>match GL h id (off+len*s) new with
      | some h'=>some (.slice base (len+n) cap,h')
      | none=>none
     | _=>none
    else if decide ((len+n)*by_≤140737488355328)&&decide (cap*by_≤140737488355328)&&decide (len+n≤140737488355328)&&decide (cap≤140737488355328) then
     match CL h s len (.slice base len cap) with
     | some old=>some (.slice (some ⟨h.next,0,none⟩) (len+n) AG,h.push (.row (old++new) e true false))
     | none=>none
    else none
    else none
   | none=>none
   else none
  | _,_,_=>none
 | _,_,_=>none
noncomputable def NT (P:Program) (h:AA) (t:TypeId) (dst src:Value):Option (Value × AA):=
 match P.underlying t,dst,src with
 | some (.slice e),.slice base len _,.slice sb n sc=>
  match BP P e with
  | some s=>
   let m:=min n len
   match CL h s m (.slice sb n sc) with
   | some new=>match base with
    | some ⟨id,off,none⟩=>if m=0 then some (.int .i64 m,h) else match GL h id off new with
     | some h'=>some (.int .i64 m,h')
     | none=>none
    | none=>some (.int .i64 m,h)
    | _=>none
   | none=>none
  | none=>none
 | _,_,_=>none
def IM:Value→Value→Option Bool
 | .int k a,.int k' b=>if k=k' then some (a==b) else none
 | .string a,.string b=>some (a==b)
 | _,_=>none
def I5 (k:Value):List (Value × Value)→Option (Option Value)
 | []=>some none
 | (x,v) :: es=>match IM k x with
  | some true=>some (some v)
  | some false=>I5 k es
  | none=>none
def F5 (k v:Value):List (Value × Value)→List (Value × Value)
 | []=>[(k,v)]
 | (x,u) :: es=>if IM k x=some true then (k,v) :: es else (x,u) :: F5 k v es
def KS (P:Program) (t:TypeId) (k:Value):Bool:=
 match P.underlying t,k with
 | some (.int _),.int _ _ | some .string,.string _=>true
 | _,_=>false
noncomputable def NV (P:Program) (h:AA) (t:TypeId) (m k:Value) (ok:Bool):Option Value:=
 match P.underlying t with
 | some (.map kt et)=>
  if KS P kt k then
   match (match m with | .map none=>some [] | .map (some id)=>(match h.get id with | .map es=>some es | _=>none) | _=>none) with
   | some es=>match I5 k es with
    | some (some v)=>some (if ok then .tuple #[v,.bool true] else v)
    | some none=>match DI P et with
     | some z=>if flat z then some (if ok then .tuple #[z,.bool false] else z) else none
     | none=>none
    | none=>none
   | none=>none
  else none
 | _=>none
noncomputable def KY (P:Program) (h:AA) (t:TypeId) (m k v:Value):Option AA:=
 match P.underlying t,m with
 | some (.map kt _),.map (some id)=>
  if KS P kt k&&decide (h.floor≤id) then
   match h.get id with
   | .map es=>match I5 k es with
    | some _=>some (h.put id (.map (F5 k v es)))
    | none=>none
   | _=>none
  else none
 | _,_=>none
noncomputable def B_ (P:Program) (h:AA) (t:TypeId) (x:Value):Option Value:=
 match P.underlying t,x with
 | some .string,.string s=>some (.int .i64 s.size)
 | some (.slice _),.slice _ n _=>some (.int .i64 n)
 | some (.array n _),_=>some (.int .i64 n)
 | some (.map _ _),.map none=>some (.int .i64 0)
 | some (.map _ _),.map (some id)=>match h.get id with
  | .map es=>some (.int .i64 es.length)
  | _=>none
 | _,_=>none
def SI:List Value→Option Value
 | .int k x :: rest=>rest.foldlM (fun a b=>match a,b with | .int k x,.int _ y=>some (.int k (if y>x then y else x)) | _,_=>none) (.int k x)
 | _=>none
def SH:List Value→Option Value
 | .int k x :: rest=>rest.foldlM (fun a b=>match a,b with | .int k x,.int _ y=>some (.int k (if y<x then y else x)) | _,_=>none) (.int k x)
 | _=>none
def L5 (P:Program) (d:TypeDesc) (asserted:TypeId) (x:Value):Option (Option Value):=
 match d,x with
 | .interface _,.nilIface=>some none
 | .interface want,.iface t v=>(match P.info? t with
  | some i=>(match Instr.missingMethod want i.methods with
   | none=>some (some (.iface t v))
   | some _=>some none)
  | none=>none)
 | _,.nilIface=>some none
 | _,.iface t v=>if t=asserted then some (some v) else some none
 | _,_=>none
def YL (P:Program) (x:Value) (asserted:TypeId) (ok:Bool):Option Value:=
 match P.underlying asserted with
 | none=>none
 | some d=>
  match L5 P d asserted x with
  | some (some v)=>some (if ok then .tuple #[v,.bool true] else v)
  | some none=>if ok then (match DI P asserted with
   | some z=>if flat z then some (.tuple #[z,.bool false]) else none
   | none=>none) else none
  | none=>none
def aH (P:Program) (t:TypeId) (v:Value) (name:String):Option (FuncId × Value):=
 match P.info? t with
 | some i=>match i.methods.find? (·.name==name) with
  | some m=>if m.path.isEmpty then (match m.func,P.underlying t with
   | some (f,true),some (.pointer _)=>some (f,v)
   | some (_,true),some _=>none
   | some (_,false),some (.pointer _)=>none
   | some (f,false),some _=>some (f,v)
   | _,_=>none) else none
  | none=>none
 | none=>none
def B0 (P:Program) (op:BinOp) (t:TypeId) (x y:Operand) (a b:Value):Option Value:=
 if flat a&&flat b then match BC P (do eqGuard op t x y a b;binOp op t a b) with
  | some u=>if flat u then some u else none
  | none=>none
 else match op,P.underlying t,a,b with
  | .eql,some (.pointer _),.pointer (some _),.pointer none | .eql,some (.pointer _),.pointer none,.pointer (some _)=>some (.bool false)
  | .neq,some (.pointer _),.pointer (some _),.pointer none | .neq,some (.pointer _),.pointer none,.pointer (some _)=>some (.bool true)
  | .eql,some (.slice _),.slice (some _) _ _,.slice none 0 0=>some (.bool false)
  | .neq,some (.slice _),.slice (some _) _ _,.slice none 0 0=>some (.bool true)
  | .eql,some (.interface _),.iface _ _,.nilIface | .eql,some (.interface _),.nilIface,.iface _ _=>some (.bool false)
  | .neq,some (.interface _),.iface _ _,.nilIface | .neq,some (.interface _),.nilIface,.iface _ _=>some (.bool true)
  | _,_,_,_=>none
def P9:List Value→Option (List UInt8)
 | []=>some []
 | .int .u8 n :: r=>match P9 r with | some l=>some (UInt8.ofNat n.toNat :: l) | none=>none
 | _=>none
noncomputable def MH (P:Program) (h:AA) (src dst:TypeId) (x:Value):Option Value:=
 match P.underlying src,P.underlying dst,x with
 | some _,some (.int k),.int _ n=>some (.int k (k.wrap n))
 | some _,some .string,.string s=>some (.string s)
 | some (.slice e),some .string,.slice a n c=>
  match P.underlying e with
  | some (.int .u8)=>match CL h 1 n (.slice a n c) with
   | some cs=>match P9 cs with
    | some l=>some (.string ⟨l.toArray⟩)
    | none=>none
   | none=>none
  | _=>none
 | _,_,_=>none
inductive DB where
 | normal | exit (id:Nat) | ret
 deriving DecidableEq
structure St where
 T:Tr
 h:AA
abbrev AK:=FuncId→List Value→AA→Option (Value × AA)
noncomputable def HE (T:Tr) (l:Array Operand):List Value:=l.toList.map (ev T)
noncomputable def M1 (P:Program) (call:AK) (T:Tr) (h:AA) (c:Call):Option (Value × AA):=
 match c.callee with
 | .builtin .len=>match c.argTypes.toList,HE T c.args with
  | [t],[x]=>(B_ P h t x).map (·,h)
  | _,_=>none
 | .builtin .append=>match c.argTypes.toList,HE T c.args with
  | [t,t'],[d,s]=>if t=t' then C4 P h t d s else none
  | _,_=>none
 | .builtin .copy=>match c.argTypes.toList,HE T c.args with
  | [t,t'],[d,s]=>if t=t' then NT P h t d s else none
  | _,_=>none
 | .builtin .max=>(SI (HE T c.args)).map (·,h)
 | .builtin .min=>(SH (HE T c.args)).map (·,h)
 | .value f=>match ev T f with
  | .func (.func k) first captured=>call k (first.toList++HE T c.args++captured.toList) h
  | _=>none
 | .invoke r m=>match ev T r with
  | .iface t v=>match aH P t v m with
   | some (k,v')=>call k (v' :: HE T c.args) h
   | none=>none
  | _=>none
 | _=>none
noncomputable def AJ (P:Program) (call:AK) (T:Tr) (h:AA):Op→Option (Value × AA)
 | .move x=>some (ev T x,h)
 | .assign x=>some (ev T x,h)
 | .pick c a b=>match ev T c with
  | .bool t=>some (if t then ev T a else ev T b,h)
  | _=>none
 | .alloc e=>match DI P e with
  | some z=>if flat z then some (.pointer (some ⟨h.next,0,none⟩),h.push (.row z.cells.toList e false false)) else none
  | none=>none
 | .box e v=>if (ev T v).cells.toList.all one then match BP P e with
   | some _=>some (.pointer (some ⟨h.next,0,none⟩),h.push (.row (ev T v).cells.toList e false false))
   | none=>none
  else none
 | .build t parts=>(DR P t (parts.toList.map fun (i,x)=>(i,ev T x))).map (·,h)
 | .buildSlice t len parts=>EA P h t len (parts.toList.map fun (i,x)=>(i,ev T x))
 | .load t a=>(EO P h t (ev T a)).map (·,h)
 | .store t a v=>(BW P h t (ev T a) (ev T v)).map (undef,·)
 | .nilCheck x=>match ev T x with
  | .pointer (some a)=>some (.pointer (some a),h)
  | .func (.func k) first captured=>some (.func (.func k) first captured,h)
  | _=>none
 | .binOp op t x y _=>(B0 P op t x y (ev T x) (ev T y)).map (·,h)
 | .unOp op _ x=>if flat (ev T x) then match BC P (Op.unary op (ev T x)) with
   | some u=>if flat u then some (u,h) else none
   | none=>none
  else none
 | .convert src dst x=>(MH P h src dst (ev T x)).map (·,h)
 | .makeFunc fn first captured=>some (.func fn (first.map (ev T)) (captured.map (ev T)),h)
 | .makeInterface t x=>match P.underlying t with
  | some (.interface _)=>none
  | some _=>some (.iface t (ev T x),h)
  | none=>none
 | .typeAssert x _ asserted ok=>(YL P (ev T x) asserted ok).map (·,h)
 | .makeMap _ none=>some (.map (some h.next),h.push (.map []))
 | .makeSlice t l c=>MK P h t (ev T l) (ev T c)
 | .slice t x lo hi mx=>(G7 P h t (ev T x) (lo.map (ev T)) (hi.map (ev T)) (mx.map (ev T))).map (·,h)
 | .fieldAddr s x f=>(BH P s (ev T x) f).map (·,h)
 | .field s x f=>(bB P s (ev T x) f).map (·,h)
 | .indexAddr t x i=>(CY P t (ev T x) (ev T i)).map (·,h)
 | .index t x i=>if flat (ev T x)&&flat (ev T i) then match BC P (Instr.index t (ev T x) (ev T i)) with
   | some u=>if flat u then some (u,h) else none
   | none=>none
  else none
 | .lookup t m k ok=>(NV P h t (ev T m) (ev T k) ok).map (·,h)
 | .mapUpdate t m k v=>(KY P h t (ev T m) (ev T k) (ev T v)).map (undef,·)
 | .insert t m k v=>(KY P h t (ev T m) (ev T k) (ev T v)).map (undef,·)
 | .extract t i=>match ev T t with
  | .tuple vs=>(vs[i]?).map (·,h)
  | _=>none
 | .call c=>M1 P call T h c
 | _=>none
noncomputable def DD (ops:Array Oper) (T:Tr) (o:Oper):Bool:=
 match o.guard with
 | none=>true
 | some (j,want)=>match (ops[j]?).bind (·.dst) with
  | some d=>(match T.get d with | .bool b=>b==want | _=>false)
  | none=>false
noncomputable def E3 (P:Program) (call:AK) (ops:Array Oper) (o:Oper) (s:St):Option St:=
 if DD ops s.T o then match AJ P call s.T s.h o.op with
  | some (v,h')=>some ⟨s.T.put o.dst v,h'⟩
  | none=>none
 else some ⟨s.T.put o.dst undef,s.h⟩
noncomputable def HU (P:Program) (call:AK) (ops:Array Oper):List Oper→St→Option St
 | [],s=>some s
 | o :: rest,s=>match E3 P call ops o s with
  | some s'=>HU P call ops rest s'
  | none=>none
inductive PR where
 | pure | read (a:Operand) | new | act | store
def AC:Op→PR
 | .load _ a=>.read a
 | .lookup _ m _ _=>.read m
 | .alloc _ | .box _ _ | .makeMap _ _ | .makeSlice _ _ _ | .buildSlice _ _ _=>.new
 | .store _ _ _=>.store
 | .mapUpdate _ _ _ _=>.store
 | .insert _ _ _ _=>.store
 | .convert _ _ x=>.read x
 | .slice _ x _ _ _=>.read x
 | .call c=>match c.callee with
  | .builtin .len | .builtin .max | .builtin .min=>.pure
  | _=>.act
 | _=>.pure
def C7:Value→Option Nat
 | .pointer (some a)=>some a.block
 | .map (some i)=>some i
 | .slice (some a) _ _=>some a.block
 | _=>none
def H7 (b:Array Nat) (i j:Nat):Bool:=i != j && !(b.getD i 0).testBit j && !(b.getD j 0).testBit i
def O3 (o:Oper):Bool:=match AC o.op with | .read _=>true | _=>false
def EK (o:Oper):Bool:=match AC o.op with | .act=>true | _=>false
def IR (o:Oper):Bool:=match AC o.op with | .new=>true | _=>false
def EB (o:Oper):Bool:=match AC o.op with | .store=>true | _=>false
def LK (ops:Array Oper) (k:Nat):Bool:=
 let b:=Region.before ops
 ops.toList.zipIdx.any fun (o,i)=>(EK o||(IR o&&decide (i<k)))&&H7 b i k
def LU (ops:Array Oper) (k:Nat):Bool:=
 let b:=Region.before ops
 ops.toList.zipIdx.any fun (o,i)=>O3 o&&H7 b i k
def JX (ops:Array Oper) (k:Nat):List Operand:=
 let b:=Region.before ops
 ops.toList.zipIdx.filterMap fun (o,i)=>match AC o.op with
  | .read a=>if i<k&&H7 b i k then some a else none
  | _=>none
def ahead (start:Nat):Option Nat→Bool
 | some id=>decide (id<start)
 | none=>true
noncomputable def MP (P:Program) (call:AK) (ops:Array Oper) (start i:Nat) (o:Oper) (s:St):Option St:=
 if DD ops s.T o then
  match AC o.op with
  | .read a=>if LK ops i && !ahead start (C7 (ev s.T a)) then none else E3 P call ops o s
  | .act=>if LU ops i then match E3 P call ops o ⟨s.T,s.h.fl (max s.h.floor start)⟩ with
    | some s'=>some ⟨s'.T,s'.h.fl s.h.floor⟩
    | none=>none
   else E3 P call ops o s
  | .store=>match o.op with
   | .store _ a _=>if (JX ops i).all (fun x=>C7 (ev s.T x) != C7 (ev s.T a)) then E3 P call ops o s else none
   | .insert _ m _ _=>if (JX ops i).all (fun x=>C7 (ev s.T x) != C7 (ev s.T m)) then E3 P call ops o s else none
   | .mapUpdate _ m _ _=>if (JX ops i).all (fun x=>C7 (ev s.T x) != C7 (ev s.T m)) then E3 P call ops o s else none
   | _=>none
  | .pure=>match o.op with
   | .call c=>(match c.args.toList.map (ev s.T) with | [.map _]=>none | _=>E3 P call ops o s)
   | _=>E3 P call ops o s
  | .new=>E3 P call ops o s
 else some ⟨s.T.put o.dst undef,s.h⟩
noncomputable def JZ (P:Program) (call:AK) (ops:Array Oper) (start:Nat):Nat→List Oper→St→Option St
 | _,[],s=>some s
 | i,o :: rest,s=>match MP P call ops start i o s with
  | some s'=>JZ P call ops start (i+1) rest s'
  | none=>none
def J2 (f:St→Option (DB × St)):Nat→St→Option (DB × St)
 | 0,_=>none
 | n+1,s=>match f s with
  | some (.normal,s')=>J2 f n s'
  | r=>r
noncomputable def B9 (P:Program) (call:AK) (n:Nat):Code→St→Option (DB × St)
 | .skip,s=>some (.normal,s)
 | .region _ ops draw,s=>if draw then (JZ P call ops s.h.next 0 ops.toList s).map (.normal,·) else (HU P call ops ops.toList s).map (.normal,·)
 | .seq a b,s=>match B9 P call n a s with
  | some (.normal,s')=>B9 P call n b s'
  | r=>r
 | .cond c a b,s=>match ev s.T c with
  | .bool true=>B9 P call n a s
  | .bool false=>B9 P call n b s
  | _=>none
 | .block id c,s=>match B9 P call n c s with
  | some (.exit i,s')=>if i=id then some (.normal,s') else some (.exit i,s')
  | r=>r
 | .loop c,s=>J2 (B9 P call n c) n s
 | .exit id,s=>some (.exit id,s)
 | .ret,s=>some (.ret,s)
 | _,_=>none
noncomputable def EV (P:Program) (s:St):List ResultVar→Option (List Value)
 | []=>some []
 | .tmp t :: r=>match EV P s r with | some l=>some (s.T.get t :: l) | none=>none
 | .cell a t :: r=>match EO P s.h t (s.T.get a),EV P s r with | some v,some l=>some (v :: l) | _,_=>none
noncomputable def GR:Nat→List Value→Tr→Tr
 | _,[],T=>T
 | i,v :: vs,T=>GR (i+1) vs (T.set i v)
noncomputable def J8 (P:Program):Nat→AK
 | 0,_,_,_=>none
 | n + 1,f,args,h=>
  match P.funcs[f]? with
  | some fn=>match fn.body with
   | some c=>if args.length≤fn.ntmps then
     match B9 P (J8 P n) n c ⟨GR 0 args .leaf,h⟩ with
     | some (.normal,s) | some (.ret,s)=>match EV P s fn.results.toList with
      | some [v]=>some (v,s.h)
      | some vs=>some (.tuple vs.toArray,s.h)
      | none=>none
     | _=>none
    else none
   | none=>none
  | none=>none
end Go.Sx
namespace Go.Sx
open Go
inductive AY {α β:Type} (R:α→β→Prop):List α→List β→Prop
 | nil:AY R [] []
 | cons {a b l m}:R a b→AY R l m→AY R (a :: l) (b :: m)
namespace AY
variable {α β:Type} {R S:α→β→Prop}
theorem length {l:List α} {m:List β} (h:AY R l m):l.length=m.length:=by
 induction h with
 | nil=>rfl
 | cons _ _ ih=>simp[ih]
theorem mono {l:List α} {m:List β} (hs:∀ a b,R a b→S a b) (h:AY R l m):AY S l m:=by
 induction h with
 | nil=>exact .nil
 | cons h _ ih=>exact .cons (hs _ _ h) ih
theorem append {l l':List α} {m m':List β} (h:AY R l m) (h':AY R l' m'):AY R (l++l') (m++m'):=by
 induction h with
 | nil=>exact h'
 | cons h _ ih=>exact .cons h ih
theorem get {l:List α} {m:List β} (h:AY R l m) {i:Nat} {a:α} (ha:l[i]?=some a):∃ b,m[i]?=some b∧R a b:=by
 induction h generalizing i with
 | nil=>simp at ha
 | cons h _ ih=>
  cases i with
  | zero=>simp at ha;subst ha;exact⟨_,rfl,h⟩
  | succ i=>simp at ha;simpa using ih ha
theorem getR {l:List α} {m:List β} (h:AY R l m) {i:Nat} {b:β} (hb:m[i]?=some b):∃ a,l[i]?=some a∧R a b:=by
 induction h generalizing i with
 | nil=>simp at hb
 | cons h _ ih=>
  cases i with
  | zero=>simp at hb;subst hb;exact⟨_,rfl,h⟩
  | succ i=>simp at hb;simpa using ih hb
theorem of_get {l:List α} {m:List β} (hl:l.length=m.length) (h:∀ (i:Nat) (a:α) (b:β),l[i]?=some a→m[i]?=some b→R a b):AY R l m:=by
 induction l generalizing m with
 | nil=>cases m with
  | nil=>exact .nil
  | cons _ _=>simp at hl
 | cons a l ih=>cases m with
  | nil=>simp at hl
  | cons b m=>exact .cons (h 0 a b rfl rfl) (ih (by simpa using hl) fun i x y hx hy=>h (i+1) x y (by simpa using hx) (by simpa using hy))
theorem drop {l:List α} {m:List β} (h:AY R l m) (n:Nat):AY R (l.drop n) (m.drop n):=
 of_get (by simp[h.length]) fun i a b ha hb=>by
  rw[List.getElem?_drop] at ha hb
  obtain⟨b',hb',r⟩:=h.get ha
  rw[hb'] at hb
  cases hb
  exact r
theorem take {l:List α} {m:List β} (h:AY R l m) (n:Nat):AY R (l.take n) (m.take n):=by
 induction h generalizing n with
 | nil=>simpa using AY.nil
 | cons h _ ih=>cases n with
  | zero=>simpa using AY.nil
  | succ n=>simpa using AY.cons h (ih n)
theorem map {γ δ:Type} {f:α→γ} {g:β→δ} {S:γ→δ→Prop} {l:List α} {m:List β} (h:AY R l m) (hs:∀ a b,R a b→S (f a) (g b)):AY S (l.map f) (m.map g):=by
 induction h with
 | nil=>exact .nil
 | cons h _ ih=>exact .cons (hs _ _ h) ih
theorem same {l:List α} {R:α→α→Prop} (h:∀ a∈l,R a a):AY R l l:=by
 induction l with
 | nil=>exact .nil
 | cons a l ih=>exact .cons (h a (by simp)) (ih fun b hb=>h b (by simp[hb]))
theorem set {l:List α} {m:List β} (h:AY R l m) {i:Nat} {a:α} {b:β} (hr:R a b):AY R (l.set i a) (m.set i b):=by
 induction h generalizing i with
 | nil=>exact .nil
 | cons h ht ih=>cases i with
  | zero=>exact .cons hr ht
  | succ i=>exact .cons h (ih (i:=i))
end AY
abbrev AX:=Nat→Option Loc
inductive AH (ρ:AX):Value→Value→Prop
 | flat {v}:BO v=true→AH ρ v v
 | ptr {id off L}:ρ id=some L→AH ρ (.pointer (some ⟨id,off,none⟩)) (.pointer (some ⟨L.b,L.d+off,none⟩))
 | slice {id off L n c}:ρ id=some L→c<AG→AH ρ (.slice (some ⟨id,off,none⟩) n c) (.slice (some ⟨L.b,L.d+off,none⟩) n c)
 | sliceU {id off L n c a}:ρ id=some L→n≤c→((c=0∨(n=0∧L.z=0))∨(a=⟨L.b,L.d+off,none⟩∧off+c*L.z=L.e))→AH ρ (.slice (some ⟨id,off,none⟩) n AG) (.slice (some a) n c)
 | map {id L}:ρ id=some L→AH ρ (.map (some id)) (.map (some L.b))
 | func {fn f f' c c'}:AY (AH ρ) f.toList f'.toList→AY (AH ρ) c.toList c'.toList→AH ρ (.func fn f c) (.func fn f' c')
 | iface {t v v'}:AH ρ v v'→AH ρ (.iface t v) (.iface t v')
 | agg {cs cs'}:AY (AH ρ) cs.toList cs'.toList→AH ρ (.agg cs) (.agg cs')
 | tuple {cs cs'}:AY (AH ρ) cs.toList cs'.toList→AH ρ (.tuple cs) (.tuple cs')
theorem AH.mono {ρ ρ':AX} (hx:∀ i L,ρ i=some L→ρ' i=some L) {v V:Value} (h:AH ρ v V):AH ρ' v V:=by
 refine AH.rec (motive_1:=fun v V _=>AH ρ' v V) (motive_2:=fun l m _=>AY (AH ρ') l m) ?_ ?_ ?_ ?_ ?_ ?_ ?_ ?_ ?_ ?_ ?_ h
 ·intro v hv;exact .flat hv
 ·intro id off L hL;exact .ptr (hx _ _ hL)
 ·intro id off L n c hL hc;exact .slice (hx _ _ hL) hc
 ·intro id off L n c a hL hn ha;exact .sliceU (hx _ _ hL) hn ha
 ·intro id L hL;exact .map (hx _ _ hL)
 ·intro fn f f' c c' _ _ h1 h2;exact .func h1 h2
 ·intro t v v' _ h;exact .iface h
 ·intro cs cs' _ h;exact .agg h
 ·intro cs cs' _ h;exact .tuple h
 ·exact .nil
 ·intro a b l m _ _ h1 h2;exact .cons h1 h2
theorem HL {ρ:AX} {v V:Value} (hf:BO v=true) (h:AH ρ v V):V=v:=by
 cases h with
 | flat _=>rfl
 | sliceU _ _ _=>simp[BO] at hf
 | _=>simp[BO] at hf
theorem fN {ρ:AX} {l m:List Value} (h:AY (AH ρ) l m) (hf:l.all BO=true):m=l:=by
 induction h with
 | nil=>rfl
 | cons h _ ih=>
  simp at hf
  rw[HL hf.1 h,ih (by simpa using hf.2)]
theorem MD {ρ:AX} {v V:Value} (hf:flat v=true) (h:AH ρ v V):V=v:=by
 cases h with
 | agg h=>
  simp only[flat] at hf
  have:=fN h hf
  congr 1
  exact Array.toList_inj.1 this
 | flat hv=>rfl
 | _=>first | rfl | simp[flat,BO] at hf
theorem IS {ρ:AX} {v:Value} (hf:flat v=true):AH ρ v v:=by
 unfold flat at hf
 split at hf
 ·rename_i cs
  refine .agg (AY.same fun a ha=>.flat ?_)
  exact List.all_eq_true.1 hf a ha
 ·exact .flat hf
theorem MC {ρ:AX}:AH ρ undef undef:=.tuple .nil
theorem UW {ρ:AX} {v V:Value} (h:AH ρ v V):AY (AH ρ) v.cells.toList V.cells.toList:=by
 cases h with
 | agg h=>exact h
 | flat hv=>
  have:v.cells=#[v]:=by
   cases v <;> simp[BO] at hv <;> rfl
  rw[this]
  exact .cons (.flat hv) .nil
 | ptr h=>exact .cons (.ptr h) .nil
 | slice h h'=>exact .cons (.slice h h') .nil
 | sliceU h h1 h2=>exact .cons (.sliceU h h1 h2) .nil
 | map h=>exact .cons (.map h) .nil
 | func h h'=>exact .cons (.func h h') .nil
 | iface h=>exact .cons (.iface h) .nil
 | tuple h=>exact .cons (.tuple h) .nil
theorem YC {ρ:AX} {v V:Value} (h:AH ρ v V):one V=one v:=by
 cases h <;> rfl
theorem O1 {ρ:AX} {b:Bool} {V:Value} (h:AH ρ (.bool b) V):V=.bool b:=HL rfl h
theorem KC {ρ:AX} {k:IntKind} {n:Int} {V:Value} (h:AH ρ (.int k n) V):V=.int k n:=HL rfl h
theorem Q0 {ρ:AX} {s:ByteArray} {V:Value} (h:AH ρ (.string s) V):V=.string s:=HL rfl h
theorem W_ {ρ:AX} {id off:Nat} {V:Value} (h:AH ρ (.pointer (some ⟨id,off,none⟩)) V):∃ L,ρ id=some L∧V=.pointer (some ⟨L.b,L.d+off,none⟩):=by
 cases h with
 | flat h=>simp[BO] at h
 | ptr h=>exact⟨_,h,rfl⟩
theorem O8 {ρ:AX} {a:Addr} {V:Value} (h:AH ρ (.pointer (some a)) V):∃ L,ρ a.block=some L∧a.spot=none∧V=.pointer (some ⟨L.b,L.d+a.off,none⟩):=by
 cases h with
 | flat h=>simp[BO] at h
 | ptr h=>exact⟨_,h,rfl,rfl⟩
theorem Y0 {ρ:AX} {id:Nat} {V:Value} (h:AH ρ (.map (some id)) V):∃ L,ρ id=some L∧V=.map (some L.b):=by
 cases h with
 | flat h=>simp[BO] at h
 | map h=>exact⟨_,h,rfl⟩
theorem Ec {ρ:AX} {cs:Array Value} {V:Value} (h:AH ρ (.agg cs) V):∃ cs',V=.agg cs'∧AY (AH ρ) cs.toList cs'.toList:=by
 cases h with
 | flat h=>simp[BO] at h
 | agg h=>exact⟨_,rfl,h⟩
theorem Gn {ρ:AX} {cs:Array Value} {V:Value} (h:AH ρ (.tuple cs) V):∃ cs',V=.tuple cs'∧AY (AH ρ) cs.toList cs'.toList:=by
 cases h with
 | flat h=>simp[BO] at h
 | tuple h=>exact⟨_,rfl,h⟩
theorem cL {ρ:AX} {fn:Fn} {f c:Array Value} {V:Value} (h:AH ρ (.func fn f c) V):∃ f' c',V=.func fn f' c'∧AY (AH ρ) f.toList f'.toList∧AY (AH ρ) c.toList c'.toList:=by
 cases h with
 | flat h=>simp[BO] at h
 | func h h'=>exact⟨_,_,rfl,h,h'⟩
theorem j8:∀ (n m k:Nat),k≤n→k≤m→M3 n k=M3 m k:=by
 intro n
 induction n with
 | zero=>
  intro m k h1 h2
  obtain rfl:k=0:=by omega
  cases m <;> simp[M3]
 | succ n ih=>
  intro m k h1 h2
  cases m with
  | zero=>
   obtain rfl:k=0:=by omega
   simp[M3]
  | succ m=>
   simp only[M3]
   by_cases hk:k=0
   ·simp[hk]
   ·rw[if_neg hk,if_neg hk,ih m (k/2) (by omega) (by omega),ih m (k/2-1) (by omega) (by omega)]
theorem iG (k:Nat):JW k=if k=0 then [] else if k%2=1 then true :: JW (k/2) else false :: JW (k/2-1):=by
 unfold JW
 cases k with
 | zero=>rfl
 | succ k=>
  simp only[M3,Nat.add_one_ne_zero,if_false]
  rw[j8 k ((k+1)/2) ((k+1)/2) (by omega) (by omega),j8 k ((k+1)/2-1) ((k+1)/2-1) (by omega) (by omega)]
theorem jM:∀ {k j:Nat},JW k=JW j→k=j:=by
 intro k
 induction k using Nat.strongRecOn with
 | ind k ih=>
  intro j h
  rw[iG k,iG j] at h
  by_cases hk:k=0
  ·by_cases hj:j=0
   ·omega
   ·rw[if_pos hk,if_neg hj] at h
    split at h <;> cases h
  ·by_cases hj:j=0
   ·rw[if_neg hk,if_pos hj] at h
    split at h <;> cases h
   ·rw[if_neg hk,if_neg hj] at h
    by_cases k2:k%2=1 <;> by_cases j2:j%2=1
    ·rw[if_pos k2,if_pos j2] at h
     have:=ih (k/2) (by omega) (List.cons.inj h).2
     omega
    ·rw[if_pos k2,if_neg j2] at h
     cases (List.cons.inj h).1
    ·rw[if_neg k2,if_pos j2] at h
     cases (List.cons.inj h).1
    ·rw[if_neg k2,if_neg j2] at h
     have:=ih (k/2-1) (by omega) (List.cons.inj h).2
     omega
theorem DP.look_lay (p:List Bool):∀ (q:List Bool) (t:DP) (u:BB),(DP.lay p u t).look q=if q=p then u else t.look q:=by
 induction p with
 | nil=>
  intro q t u
  cases q with
  | nil=>cases t <;> rfl
  | cons c q=>cases t <;> cases c <;> rfl
 | cons b p ih=>
  intro q t u
  cases q with
  | nil=>cases t <;> cases b <;> rfl
  | cons c q=>
   have h1:=fun t=>ih q t u
   cases t <;> cases b <;> cases c <;> first | rfl | (refine(h1 _).trans ?_;by_cases e:q=p <;> simp[e] <;> rfl)
theorem DP.get_set (t:DP) (k j:Nat) (u:BB):(t.set k u).get j=if j=k then u else t.get j:=by
 unfold DP.get DP.set
 rw[DP.look_lay]
 by_cases e:j=k
 ·rw[if_pos e,if_pos (by rw[e])]
 ·rw[if_neg e,if_neg (fun h=>e (jM h))]
section
variable {h:AA} {o:BB} {i j:Nat}
theorem F_ (hi:h.next≤i):h.get i=.dead:=by unfold AA.get;rw[if_neg (by omega)]
theorem BL:(h.push o).get h.next=o:=by
 unfold AA.get AA.push
 simp[DP.get_set]
theorem AM (hi:i<h.next):(h.push o).get i=h.get i:=by
 unfold AA.get AA.push
 simp only[hi,if_true]
 rw[if_pos (by omega),DP.get_set,if_neg (by omega)]
theorem KO (hne:i≠h.next):(h.push o).get i=h.get i:=by
 rcases Nat.lt_or_gt_of_ne hne with hi | hi
 ·exact AM hi
 ·rw[F_ (h:=h) (by omega),F_ (h:=h.push o) (by simp[AA.push];omega)]
theorem CE (_hl:h.good) (hi:i<h.next):(h.put i o).get i=o:=by
 unfold AA.get AA.put
 simp only[hi,if_true]
 rw[DP.get_set,if_pos rfl]
theorem AQ (_hi:i<h.next) (hne:i≠j):(h.put i o).get j=h.get j:=by
 unfold AA.get AA.put
 simp only
 by_cases hj:j<h.next
 ·simp only[hj,if_true]
  rw[DP.get_set,if_neg (by omega)]
 ·simp[hj]
theorem aB (_hl:h.good):(h.push o).good:=rfl
theorem R_ (_hl:h.good):(h.put i o).good:=rfl
theorem Z8 (hn:h.get i≠.dead):i<h.next:=by
 rcases Nat.lt_or_ge i h.next with hi | hi
 ·exact hi
 ·exact absurd (F_ hi) hn
end
theorem Tr.look_lay (p:List Bool):∀ (q:List Bool) (t:Tr) (u:Value),(Tr.lay p u t).look q=if q=p then u else t.look q:=by
 induction p with
 | nil=>
  intro q t u
  cases q with
  | nil=>cases t <;> rfl
  | cons c q=>cases t <;> cases c <;> rfl
 | cons b p ih=>
  intro q t u
  cases q with
  | nil=>cases t <;> cases b <;> rfl
  | cons c q=>
   have h1:=fun t=>ih q t u
   cases t <;> cases b <;> cases c <;> first | rfl | (refine(h1 _).trans ?_;by_cases e:q=p <;> simp[e] <;> rfl)
theorem Tr.get_set (t:Tr) (k j:Nat) (u:Value):(t.set k u).get j=if j=k then u else t.get j:=by
 unfold Tr.get Tr.set
 rw[Tr.look_lay]
 by_cases e:j=k
 ·rw[if_pos e,if_pos (by rw[e])]
 ·rw[if_neg e,if_neg (fun h=>e (jM h))]
def live:BB→Prop
 | .dead=>False
 | _=>True
def wr:BB→Prop
 | .row _ _ _ ro=>ro=false
 | .map _=>True
 | .dead=>False
theorem wr.live {o:BB} (h:wr o):live o:=by cases o <;> simp_all [wr,Sx.live]
def FD (P:Program) (ρ:AX) (W:World) (i:Nat):BB→Prop
 | .dead=>True
 | .row cs ty _ ro=>∃ L CS ty' fr,ρ i=some L∧W.heap[L.b]?=some (.cells CS ty' fr)∧(∀ (k:Nat) (v:Value),cs[k]?=some v→∃ V,CS[L.d+k]?=some V∧AH ρ v V) ∧
   (ro=false→fr=(0,0)∧ty'=ty∧L.d+L.e=CS.size∧BP P ty=some L.z)
 | .map es=>∃ L ES clk,ρ i=some L∧W.heap[L.b]?=some (.map ES clk)∧AY (fun e E=>AH ρ e.1 E.key∧AH ρ e.2 E.val) es ES.toList
structure BK (P:Program) (ρ:AX) (h:AA) (W:World):Prop where
 len:h.good
 dom:∀ i,h.next≤i→ρ i=none
 glob:∀ g,g<P.globals.size→∃ L,ρ g=some L∧L.b=g∧L.d=0
 obj:∀ i,FD P ρ W i (h.get i)
 inj:∀ i j L L',wr (h.get i)→live (h.get j)→i≠j→ρ i=some L→ρ j=some L'→L.b≠L'.b
structure Fr (ρ:AX) (h:AA) (W W':World):Prop where
 os:W'.os=W.os
 tape:W'.tape=W.tape
 output:W'.output=W.output
 size:W.heap.size≤W'.heap.size
 blk:∀ b,b<W.heap.size→(∀ i L,wr (h.get i)→h.floor≤i→ρ i=some L→L.b≠b)→W'.heap[b]?=W.heap[b]?
structure Nx (P:Program) (ρ:AX) (h:AA) (W:World) (ρ':AX) (h':AA) (W':World):Prop where
 ext:∀ i L,ρ i=some L→ρ' i=some L
 old:∀ i,i<h.next→ρ' i=ρ i
 rel:BK P ρ' h' W'
 fr:Fr ρ h W W'
 nx:h.next≤h'.next
 floor:h'.floor=h.floor
 keep:∀ i,i<h.next→i<h.floor→h'.get i=h.get i
 was:∀ i,i<h.next→wr (h'.get i)→wr (h.get i)
 wasl:∀ i,i<h.next→live (h'.get i)→live (h.get i)
 own:∀ i L,h.next≤i→live (h'.get i)→ρ' i=some L→W.heap.size≤L.b∨∃ j L0,wr (h.get j)∧h.floor≤j∧ρ j=some L0∧L0.b=L.b
theorem FD.at_ {P:Program} {ρ:AX} {W:World} {i:Nat} {o:BB} (h:FD P ρ W i o) (hl:live o):∃ L,ρ i=some L∧L.b<W.heap.size:=by
 cases o with
 | dead=>exact hl.elim
 | row cs ty g ro=>
  obtain⟨L,CS,ty',fr,h1,h2,_⟩:=h
  exact⟨L,h1,by
   rcases Nat.lt_or_ge L.b W.heap.size with hb | hb
   ·exact hb
   ·rw[Array.getElem?_eq_none hb] at h2;cases h2⟩
 | map es=>
  obtain⟨L,ES,clk,h1,h2,_⟩:=h
  exact⟨L,h1,by
   rcases Nat.lt_or_ge L.b W.heap.size with hb | hb
   ·exact hb
   ·rw[Array.getElem?_eq_none hb] at h2;cases h2⟩
theorem FD.mono {P:Program} {ρ ρ':AX} {W W':World} {i:Nat} {o:BB} (hx:∀ i L,ρ i=some L→ρ' i=some L) (hb:∀ L,ρ i=some L→live o→W'.heap[L.b]?=W.heap[L.b]?) (h:FD P ρ W i o):FD P ρ' W' i o:=by
 cases o with
 | dead=>trivial
 | row cs ty g ro=>
  obtain⟨L,CS,ty',fr,h1,h2,h3,h4⟩:=h
  exact⟨L,CS,ty',fr,hx _ _ h1,(hb L h1 trivial).trans h2,fun k v hv=>let ⟨V,hV,hr⟩:=h3 k v hv;⟨V,hV,hr.mono hx⟩,h4⟩
 | map es=>
  obtain⟨L,ES,clk,h1,h2,h3⟩:=h
  exact⟨L,ES,clk,hx _ _ h1,(hb L h1 trivial).trans h2,h3.mono fun a b h=>⟨h.1.mono hx,h.2.mono hx⟩⟩
theorem Fr.refl (ρ:AX) (h:AA) (W:World):Fr ρ h W W:=⟨rfl,rfl,rfl,Nat.le_refl _,fun _ _ _=>rfl⟩
theorem Nx.refl {P:Program} {ρ:AX} {h:AA} {W:World} (hR:BK P ρ h W):Nx P ρ h W ρ h W:=
 ⟨fun _ _ h=>h,fun _ _=>rfl,hR,Fr.refl _ _ _,Nat.le_refl _,rfl,fun _ _ _=>rfl,fun _ _ h=>h,fun _ _ h=>h,fun i L hi hw _=>by rw[F_ hi] at hw;exact hw.elim⟩
theorem Nx.trans {P:Program} {ρ ρ' ρ'':AX} {h h' h'':AA} {W W' W'':World} (hR:BK P ρ h W) (a:Nx P ρ h W ρ' h' W') (b:Nx P ρ' h' W' ρ'' h'' W''):Nx P ρ h W ρ'' h'' W'':=by
 have key:∀ i L,wr (h'.get i)→h'.floor≤i→ρ' i=some L→W.heap.size≤L.b∨∃ j L0,wr (h.get j)∧h.floor≤j∧ρ j=some L0∧L0.b=L.b:=by
  intro i L hw hf hL
  rcases Nat.lt_or_ge i h.next with hi | hi
  ·have hw0:=a.was i hi hw
   obtain⟨L0,hL0,_⟩:=(hR.obj i).at_ hw0.live
   have:=a.ext i L0 hL0
   rw[hL] at this
   cases this
   exact .inr ⟨i,L,hw0,by rw[← a.floor];exact hf,hL0,rfl⟩
  ·exact a.own i L hi hw.live hL
 refine⟨fun i L hi=>b.ext _ _ (a.ext _ _ hi),fun i hi=>(b.old i (Nat.lt_of_lt_of_le hi a.nx)).trans (a.old i hi),b.rel,⟨b.fr.os.trans a.fr.os,b.fr.tape.trans a.fr.tape,b.fr.output.trans a.fr.output,Nat.le_trans a.fr.size b.fr.size,?_⟩,Nat.le_trans a.nx b.nx,b.floor.trans a.floor,?_,?_,?_,?_⟩
 ·intro k hk hno
  rw[b.fr.blk k (Nat.lt_of_lt_of_le hk a.fr.size) ?_,a.fr.blk k hk hno]
  intro i L hw hf hL e
  rcases key i L hw hf hL with hs | ⟨j,L0,hwj,hfj,hLj,ej⟩
  ·omega
  ·exact hno j L0 hwj hfj hLj (ej.trans e)
 ·intro i hi hf
  rw[b.keep i (Nat.lt_of_lt_of_le hi a.nx) (by rw[a.floor];exact hf),a.keep i hi hf]
 ·intro i hi hw
  exact a.was i hi (b.was i (Nat.lt_of_lt_of_le hi a.nx) hw)
 ·intro i hi hw
  exact a.wasl i hi (b.wasl i (Nat.lt_of_lt_of_le hi a.nx) hw)
 ·intro i L hi hw hL
  rcases Nat.lt_or_ge i h'.next with hi' | hi'
  ·have hw':=b.wasl i hi' hw
   obtain⟨L0,hL0,_⟩:=(a.rel.obj i).at_ hw'
   have:=b.ext i L0 hL0
   rw[hL] at this
   cases this
   exact a.own i L hi hw' hL0
  ·rcases b.own i L hi' hw hL with hs | ⟨j,L0,hwj,hfj,hLj,ej⟩
   ·exact .inl (Nat.le_trans a.fr.size hs)
   ·rcases key j L0 hwj hfj hLj with hs | ⟨j2,L2,h1,h2,h3,h4⟩
    ·exact .inl (by omega)
    ·exact .inr ⟨j2,L2,h1,h2,h3,h4.trans ej⟩
end Go.Sx
