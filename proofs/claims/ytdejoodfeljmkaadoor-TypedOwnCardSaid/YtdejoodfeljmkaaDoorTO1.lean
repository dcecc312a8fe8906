/- Part 1 of what the claim leans on: 2 texts laid one behind another. -/
import Derived.Orders
import Derived.Below
import Derived.KernelRfl
theorem Go.Sx.aQ {a b:Prop} (x:a) (y:b):a∧b:=⟨x,y⟩
namespace Go.Sx
open Go
set_option maxHeartbeats 64000000
def AP:Nat:=18446744073709551616
structure Loc where
 b:Nat
 d:Nat
 e:Nat
 z:Nat
inductive BC where
 | row (cs:List Value) (ty:TypeId) (grow ro:Bool)
 | map (es:List (Value × Value))
 | dead
def OD:Nat→Nat→List Bool
 | 0,_=>[]
 | n+1,k=>if k=0 then [] else if k%2=1 then true :: OD n (k/2) else false :: OD n (k/2-1)
def KO (k:Nat):List Bool:=OD k k
inductive D2 where
 | leaf
 | node (o:BC) (l r:D2)
noncomputable def D2.look (t:D2):List Bool→BC:=
 D2.rec (motive:=fun _=>List Bool→BC) (fun _=>.dead) (fun v _ _ gl gr p=>List.rec (motive:=fun _=>BC) v (fun b p _=>Bool.rec (motive:=fun _=>BC) (gr p) (gl p) b) p) t
noncomputable def D2.lay (p:List Bool):BC→D2→D2:=
 List.rec (motive:=fun _=>BC→D2→D2)
  (fun u t=>D2.rec (motive:=fun _=>D2) (.node u .leaf .leaf) (fun _ l r _ _=>.node u l r) t)
  (fun b _ ih u t=>D2.rec (motive:=fun _=>D2)
   (Bool.rec (motive:=fun _=>D2) (.node .dead .leaf (ih u .leaf)) (.node .dead (ih u .leaf) .leaf) b)
   (fun v l r _ _=>Bool.rec (motive:=fun _=>D2) (.node v l (ih u r)) (.node v (ih u l) r) b) t) p
noncomputable def D2.get (t:D2) (k:Nat):BC:=t.look (KO k)
noncomputable def D2.set (t:D2) (k:Nat) (u:BC):D2:=D2.lay (KO k) u t
structure AA where
 next:Nat
 floor:Nat
 objs:D2
noncomputable def AA.get (h:AA) (i:Nat):BC:=if i<h.next then h.objs.get i else .dead
noncomputable def AA.push (h:AA) (o:BC):AA:={ next:=h.next+1,floor:=h.floor,objs:=h.objs.set h.next o }
noncomputable def AA.put (h:AA) (i:Nat) (o:BC):AA:={ next:=h.next,floor:=h.floor,objs:=h.objs.set i o }
def AA.fl (h:AA) (f:Nat):AA:={ next:=h.next,floor:=f,objs:=h.objs }
def AA.good (h:AA):Prop:=h.next=h.next
inductive Tr where
 | leaf
 | node (v:Value) (l r:Tr)
noncomputable def Tr.look (t:Tr):List Bool→Value:=
 Tr.rec (motive:=fun _=>List Bool→Value) (fun _=>undef) (fun v _ _ gl gr p=>List.rec (motive:=fun _=>Value) v (fun b p _=>Bool.rec (motive:=fun _=>Value) (gr p) (gl p) b) p) t
noncomputable def Tr.lay (p:List Bool):Value→Tr→Tr:=
 List.rec (motive:=fun _=>Value→Tr→Tr)
  (fun u t=>Tr.rec (motive:=fun _=>Tr) (.node u .leaf .leaf) (fun _ l r _ _=>.node u l r) t)
  (fun b _ ih u t=>Tr.rec (motive:=fun _=>Tr)
   (Bool.rec (motive:=fun _=>Tr) (.node undef .leaf (ih u .leaf)) (.node undef (ih u .leaf) .leaf) b)
   (fun v l r _ _=>Bool.rec (motive:=fun _=>Tr) (.node v l (ih u r)) (.node v (ih u l) r) b) t) p
noncomputable def Tr.get (t:Tr) (k:Nat):Value:=t.look (KO k)
noncomputable def Tr.set (t:Tr) (k:Nat) (u:Value):Tr:=Tr.lay (KO k) u t
noncomputable def Tr.put (t:Tr) (dst:Option Tmp) (u:Value):Tr:=match dst with | some d=>t.set d u | none=>t
noncomputable def ev (T:Tr):Operand→Value
 | .tmp t=>T.get t
 | .const v=>v
 | .global g=>.pointer (some ⟨g,0,none⟩)
 | .func f=>.func (.func f) #[] #[]
def BA {α:Type} (P:Program):Sem α→Option α
 | .pure a=>some a
 | .program k=>BA P (k P)
 | .mark _ k=>BA P k
 | _=>none
def BI:Value→Bool
 | .bool _ | .int _ _ | .string _ | .nilFunc | .nilIface | .pointer none | .map none | .slice none 0 0=>true
 | _=>false
def flat:Value→Bool
 | .agg cs=>cs.toList.all BI
 | v=>BI v
def one:Value→Bool
 | .agg _ | .tuple _=>false
 | _=>true
def BN (P:Program) (t:TypeId):Option Nat:=(P.info? t).map (·.size)
def GW (P:Program) (t:TypeId):Option Nat:=(P.info? t).map (·.bytes)
def DC (P:Program) (t:TypeId):Option Value:=match P.info? t with | some i=>i.zero | none=>none
def FM (P:Program) (t:TypeId):Option Bool:=match P.underlying t with | some (.struct _) | some (.array _ _)=>some true | some _=>some false | none=>none
def FI (cs:List Value) (off n:Nat):Option (List Value):=let l:=(cs.drop off).take n;if l.length=n then some l else none
noncomputable def EL (P:Program) (h:AA) (t:TypeId) (v:Value):Option Value:=
 match v with
 | .pointer (some ⟨id,off,none⟩)=>
  match h.get id with
  | .row cs _ _ _=>
   match FM P t with
   | some true=>match BN P t with
    | some n=>match FI cs off n with
     | some l=>some (.agg l.toArray)
     | none=>none
    | none=>none
   | some false=>cs[off]?
   | none=>none
  | _=>none
 | _=>none
def lay (cs:List Value) (off:Nat) (new:List Value):List Value:=cs.take off++new++cs.drop (off+new.length)
noncomputable def GB (h:AA) (id off:Nat) (new:List Value):Option AA:=
 match h.get id with
 | .row cs ty g false=>if h.floor≤id&&off+new.length≤cs.length&&new.all one then some (h.put id (.row (lay cs off new) ty g false)) else none
 | _=>none
noncomputable def A9 (P:Program) (h:AA) (t:TypeId) (a v:Value):Option AA:=
 match a with
 | .pointer (some ⟨id,off,none⟩)=>
  if BN P t=some v.cells.size then GB h id off v.cells.toList else none
 | _=>none
def CM (P:Program) (t:TypeId) (x i:Value):Option Value:=
 match P.underlying t,x,i with
 | some (.slice e),.slice (some a) len _,.int _ n=>
  if 0≤n∧n<(len:Int) then match BN P e with
   | some s=>some (.pointer (some (a.add (n.toNat*s))))
   | none=>none
  else none
 | some (.array len e),.pointer (some a),.int _ n=>
  if 0≤n∧n<(len:Int) then match BN P e with
   | some s=>some (.pointer (some (a.add (n.toNat*s))))
   | none=>none
  else none
 | _,_,_=>none
def F1 (x:Option Value) (dflt lo hi:Nat):Option Nat:=
 match x with
 | none=>some dflt
 | some (.int _ n)=>if (lo:Int)≤n∧n≤(hi:Int) then some n.toNat else none
 | _=>none
noncomputable def HL (P:Program) (hp:AA) (t:TypeId) (x:Value) (lo hi mx:Option Value):Option Value:=
 match P.underlying t,x with
 | some (.slice e),.slice a len cap=>
  match BN P e with
  | some s=>
   if cap=AP then
    match mx,F1 hi len 0 len with
    | none,some h=>match F1 lo 0 0 h,a with
     | some l,some ⟨id,off,none⟩=>
      if l=0 then some (.slice a h AP) else
      match hp.get id with
      | .row _ ty _ false=>if BN P ty=some s then some (.slice (some ⟨id,off+l*s,none⟩) (h-l) AP) else none
      | _=>none
     | _,_=>none
    | _,_=>none
   else
    match (match mx with | none=>some cap | some _=>(match hi with | some _=>F1 mx 0 0 cap | none=>none)) with
    | some m=>match F1 hi len 0 m with
     | some h=>match F1 lo 0 0 h with
      | some l=>some (.slice (if m=l then a else a.map (·.add (l*s))) (h-l) (m-l))
      | none=>none
     | none=>none
    | none=>none
  | none=>none
 | some (.string),.string s=>
  if mx.isSome then none else
  match F1 hi s.size 0 s.size with
  | some h=>match F1 lo 0 0 h with
   | some l=>some (.string (s.extract l h))
   | none=>none
  | none=>none
 | some (.array n e),.pointer (some a)=>
  if mx.isSome||decide (281474976710656<n) then none else
  match F1 hi n 0 n with
  | some h=>match F1 lo 0 0 h with
   | some l=>match BN P e with
    | some s=>some (.slice (some (if n=l then a else a.add (l*s))) (h-l) (n-l))
    | none=>none
   | none=>none
  | none=>none
 | _,_=>none
def BJ (P:Program) (s:TypeId) (x:Value) (f:Nat):Option Value:=
 match P.underlying s,x with
 | some (.struct fs),.pointer (some a)=>
  match fs[f]? with
  | some fd=>match BN P fd.type with
   | some 0=>none
   | some _=>some (.pointer (some (a.add fd.offset)))
   | none=>none
  | none=>none
 | _,_=>none
def bY (P:Program) (s:TypeId) (x:Value) (f:Nat):Option Value:=
 match P.underlying s,x with
 | some (.struct fs),.agg cs=>
  match fs[f]? with
  | some fd=>match FM P fd.type with
   | some true=>match BN P fd.type with
    | some n=>some (.agg (cs.extract fd.offset (fd.offset+n)))
    | none=>none
   | some false=>cs[fd.offset]?
   | none=>none
  | none=>none
 | _,_=>none
def HW (P:Program):List Field→Option (List (Nat × Nat))
 | []=>some []
 | f :: fs=>match BN P f.type with
  | some n=>match HW P fs with
   | some l=>some ((f.offset,n) :: l)
   | none=>none
  | none=>none
def IS (place:Nat→Option (Nat × Nat)) (cells:List Value):List (Nat × Value)→Option (List Value)
 | []=>some cells
 | (i,v) :: rest=>
  match place i with
  | none=>none
  | some (off,size)=>
   if v.cells.size≠size||off+v.cells.size>cells.length then none
   else IS place (lay cells off v.cells.toList) rest
def C1 (P:Program) (t:TypeId) (parts:List (Nat × Value)):Option Value:=
 match DC P t with
 | some z=>
  if flat z then
   match P.underlying t with
   | some (.struct fs)=>match HW P fs.toList with
    | some pl=>match IS (fun i=>pl[i]?) z.cells.toList parts with
     | some cs=>some (.agg cs.toArray)
     | none=>none
    | none=>none
   | some (.array _ e)=>match BN P e with
    | some s=>match IS (fun i=>some (i*s,s)) z.cells.toList parts with
     | some cs=>some (.agg cs.toArray)
     | none=>none
    | none=>none
   | _=>none
  else none
 | none=>none
def BY (z:List Value):Nat→List Value
 | 0=>[]
 | n+1=>z++BY z n
noncomputable def FC (P:Program) (h:AA) (t:TypeId) (len:Nat) (parts:List (Nat × Value)):Option (Value × AA):=
 match P.underlying t with
 | some (.slice e)=>
  match BN P e,DC P e with
  | some s,some z=>
   if flat z&&z.cells.size==s&&decide (0<s)&&decide (len*s≤16777216) then
    match IS (fun i=>some (i*s,s)) (BY z.cells.toList len) parts with
    | some cs=>some (.slice (some ⟨h.next,0,none⟩) len len,h.push (.row cs e false false))
    | none=>none
   else none
  | _,_=>none
 | _=>none
noncomputable def HB (P:Program) (h:AA) (t:TypeId) (l c:Value):Option (Value × AA):=
 match P.underlying t,l,c with
 | some (.slice e),.int _ l,.int _ c=>
  match BN P e,DC P e,GW P e with
  | some s,some z,some by_=>
   if flat z&&z.cells.size==s&&decide (0<s)&&decide (0≤l)&&decide (l≤c)&&decide ((by_:Int)*c≤281474976710656)&&decide (c≤281474976710656) then
    some (.slice (some ⟨h.next,0,none⟩) l.toNat c.toNat,h.push (.row (BY z.cells.toList c.toNat) e false false))
   else none
  | _,_,_=>none
 | _,_,_=>none
noncomputable def DB (h:AA) (s n:Nat) (x:Value):Option (List Value):=
 match x with
 | .slice none _ _=>if n=0 then some [] else none
 | .slice (some ⟨id,off,none⟩) _ _=>if n=0 then some [] else
  match h.get id with
  | .row cs _ _ _=>FI cs off (n*s)
  | _=>none
 | _=>none
noncomputable def C_ (P:Program) (h:AA) (t:TypeId) (dst src:Value):Option (Value × AA):=
 match P.underlying t,dst,src with
 | some (.slice e),.slice base len cap,.slice sb n sc=>
  match BN P e,GW P e,DC P e with
  | some s,some by_,some z=>
   if decide (0<s)&&z.cells.size==s&&decide (len≤cap) then
   match DB h s n (.slice sb n sc) with
   | some new=>
    if new.all one then
    if cap=AP then
     match base with
     | some ⟨id,off,none⟩=>
      if decide ((len+n)*by_≤140737488355328)&&decide (len+n≤140737488355328)&&decide (h.floor≤id) then
       if n=0 then some (dst,h) else
       match h.get id with
       | .row cs ty true false=>
        if ty=e then
        match FI cs off (len*s) with
        | some old=>if old.all one then some (.slice (some ⟨h.next,0,none⟩) (len+n) AP,(h.put id .dead).push (.row (old++new) e true false)) else none
        | none=>none
        else none
       | _=>none
      else none
     | _=>none
    else if len+n≤cap then
     if n=0 then some (.slice base (len+n) cap,h) else
     match base with
     | some ⟨id,off,none⟩=>match GB h id (off+len*s) new with
      | some h'=>some (.slice base (len+n) cap,h')
      | none=>none
     | _=>none
    else if decide ((len+n)*by_≤140737488355328)&&decide (cap*by_≤140737488355328)&&decide (len+n≤140737488355328)&&decide (cap≤140737488355328) then
     match DB h s len (.slice base len cap) with
     | some old=>some (.slice (some ⟨h.next,0,none⟩) (len+n) AP,h.push (.row (old++new) e true false))
     | none=>none
    else none
    else none
   | none=>none
   else none
  | _,_,_=>none
 | _,_,_=>none
noncomputable def K9 (P:Program) (h:AA) (t:TypeId) (dst src:Value):Option (Value × AA):=
 match P.underlying t,dst,src with
 | some (.slice e),.slice base len _,.slice sb n sc=>
  match BN P e with
  | some s=>
   let m:=min n len
   match DB h s m (.slice sb n sc) with
   | some new=>match base with
    | some ⟨id,off,none⟩=>if m=0 then some (.int .i64 m,h) else match GB h id off new with
     | some h'=>some (.int .i64 m,h')
     | none=>none
    | none=>some (.int .i64 m,h)
    | _=>none
   | none=>none
  | none=>none
 | _,_,_=>none
def JE:Value→Value→Option Bool
 | .int k a,.int k' b=>if k=k' then some (a==b) else none
 | .string a,.string b=>some (a==b)
 | _,_=>none
def JQ (k:Value):List (Value × Value)→Option (Option Value)
 | []=>some none
 | (x,v) :: es=>match JE k x with
  | some true=>some (some v)
  | some false=>JQ k es
  | none=>none
def GA (k v:Value):List (Value × Value)→List (Value × Value)
 | []=>[(k,v)]
 | (x,u) :: es=>if JE k x=some true then (k,v) :: es else (x,u) :: GA k v es
def MD (P:Program) (t:TypeId) (k:Value):Bool:=
 match P.underlying t,k with
 | some (.int _),.int _ _ | some .string,.string _=>true
 | _,_=>false
noncomputable def O3 (P:Program) (h:AA) (t:TypeId) (m k:Value) (ok:Bool):Option Value:=
 match P.underlying t with
 | some (.map kt et)=>
  if MD P kt k then
   match (match m with | .map none=>some [] | .map (some id)=>(match h.get id with | .map es=>some es | _=>none) | _=>none) with
   | some es=>match JQ k es with
    | some (some v)=>some (if ok then .tuple #[v,.bool true] else v)
    | some none=>match DC P et with
     | some z=>if flat z then some (if ok then .tuple #[z,.bool false] else z) else none
     | none=>none
    | none=>none
   | none=>none
  else none
 | _=>none
noncomputable def MG (P:Program) (h:AA) (t:TypeId) (m k v:Value):Option AA:=
 match P.underlying t,m with
 | some (.map kt _),.map (some id)=>
  if MD P kt k&&decide (h.floor≤id) then
   match h.get id with
   | .map es=>match JQ k es with
    | some _=>some (h.put id (.map (GA k v es)))
    | none=>none
   | _=>none
  else none
 | _,_=>none
noncomputable def CX (P:Program) (h:AA) (t:TypeId) (x:Value):Option Value:=
 match P.underlying t,x with
 | some .string,.string s=>some (.int .i64 s.size)
 | some (.slice _),.slice _ n _=>some (.int .i64 n)
 | some (.array n _),_=>some (.int .i64 n)
 | some (.map _ _),.map none=>some (.int .i64 0)
 | some (.map _ _),.map (some id)=>match h.get id with
  | .map es=>some (.int .i64 es.length)
  | _=>none
 | _,_=>none
def TD:List Value→Option Value
 | .int k x :: rest=>rest.foldlM (fun a b=>match a,b with | .int k x,.int _ y=>some (.int k (if y>x then y else x)) | _,_=>none) (.int k x)
 | _=>none
def TM:List Value→Option Value
 | .int k x :: rest=>rest.foldlM (fun a b=>match a,b with | .int k x,.int _ y=>some (.int k (if y<x then y else x)) | _,_=>none) (.int k x)
 | _=>none
def NY (P:Program) (d:TypeDesc) (asserted:TypeId) (x:Value):Option (Option Value):=
 match d,x with
 | .interface _,.nilIface=>some none
 | .interface want,.iface t v=>(match P.info? t with
  | some i=>(match Instr.missingMethod want i.methods with
   | none=>some (some (.iface t v))
   | some _=>some none)
  | none=>none)
 | _,.nilIface=>some none
 | _,.iface t v=>if t=asserted then some (some v) else some none
 | _,_=>none
def HG (P:Program) (x:Value) (asserted:TypeId) (ok:Bool):Option Value:=
 match P.underlying asserted with
 | none=>none
 | some d=>
  match NY P d asserted x with
  | some (some v)=>some (if ok then .tuple #[v,.bool true] else v)
  | some none=>if ok then (match DC P asserted with
   | some z=>if flat z then some (.tuple #[z,.bool false]) else none
   | none=>none) else none
  | none=>none
def R7 (P:Program) (t:TypeId) (v:Value) (name:String):Option (FuncId × Value):=
 match P.info? t with
 | some i=>match i.methods.find? (·.name==name) with
  | some m=>if m.path.isEmpty then (match m.func,P.underlying t with
   | some (f,true),some (.pointer _)=>some (f,v)
   | some (_,true),some _=>none
   | some (_,false),some (.pointer _)=>none
   | some (f,false),some _=>some (f,v)
   | _,_=>none) else none
  | none=>none
 | none=>none
def BU (P:Program) (op:BinOp) (t:TypeId) (x y:Operand) (a b:Value):Option Value:=
 if flat a&&flat b then match BA P (do eqGuard op t x y a b;binOp op t a b) with
  | some u=>if flat u then some u else none
  | none=>none
 else match op,P.underlying t,a,b with
  | .eql,some (.pointer _),.pointer (some _),.pointer none | .eql,some (.pointer _),.pointer none,.pointer (some _)=>some (.bool false)
  | .neq,some (.pointer _),.pointer (some _),.pointer none | .neq,some (.pointer _),.pointer none,.pointer (some _)=>some (.bool true)
  | .eql,some (.slice _),.slice (some _) _ _,.slice none 0 0=>some (.bool false)
  | .neq,some (.slice _),.slice (some _) _ _,.slice none 0 0=>some (.bool true)
  | .eql,some (.interface _),.iface _ _,.nilIface | .eql,some (.interface _),.nilIface,.iface _ _=>some (.bool false)
  | .neq,some (.interface _),.iface _ _,.nilIface | .neq,some (.interface _),.nilIface,.iface _ _=>some (.bool true)
  | _,_,_,_=>none
def UA:List Value→Option (List UInt8)
 | []=>some []
 | .int .u8 n :: r=>match UA r with | some l=>some (UInt8.ofNat n.toNat :: l) | none=>none
 | _=>none
noncomputable def SG (P:Program) (h:AA) (src dst:TypeId) (x:Value):Option Value:=
 match P.underlying src,P.underlying dst,x with
 | some _,some (.int k),.int _ n=>some (.int k (k.wrap n))
 | some _,some .string,.string s=>some (.string s)
 | some (.slice e),some .string,.slice a n c=>
  match P.underlying e with
  | some (.int .u8)=>match DB h 1 n (.slice a n c) with
   | some cs=>match UA cs with
    | some l=>some (.string ⟨l.toArray⟩)
    | none=>none
   | none=>none
  | _=>none
 | _,_,_=>none
inductive EM where
 | normal | exit (id:Nat) | ret
 deriving DecidableEq
structure St where
 T:Tr
 h:AA
abbrev AN:=FuncId→List Value→AA→Option (Value × AA)
noncomputable def IB (T:Tr) (l:Array Operand):List Value:=l.toList.map (ev T)
noncomputable def OK (P:Program) (call:AN) (T:Tr) (h:AA) (c:Call):Option (Value × AA):=
 match c.callee with
 | .builtin .len=>match c.argTypes.toList,IB T c.args with
  | [t],[x]=>(CX P h t x).map (·,h)
  | _,_=>none
 | .builtin .append=>match c.argTypes.toList,IB T c.args with
  | [t,t'],[d,s]=>if t=t' then C_ P h t d s else none
  | _,_=>none
 | .builtin .copy=>match c.argTypes.toList,IB T c.args with
  | [t,t'],[d,s]=>if t=t' then K9 P h t d s else none
  | _,_=>none
 | .builtin .max=>(TD (IB T c.args)).map (·,h)
 | .builtin .min=>(TM (IB T c.args)).map (·,h)
 | .value f=>match ev T f with
  | .func (.func k) first captured=>call k (first.toList++IB T c.args++captured.toList) h
  | _=>none
 | .invoke r m=>match ev T r with
  | .iface t v=>match R7 P t v m with
   | some (k,v')=>call k (v' :: IB T c.args) h
   | none=>none
  | _=>none
 | _=>none
noncomputable def AO (P:Program) (call:AN) (T:Tr) (h:AA):Op→Option (Value × AA)
 | .move x=>some (ev T x,h)
 | .assign x=>some (ev T x,h)
 | .pick c a b=>match ev T c with
  | .bool t=>some (if t then ev T a else ev T b,h)
  | _=>none
 | .alloc e=>match DC P e with
  | some z=>if flat z then some (.pointer (some ⟨h.next,0,none⟩),h.push (.row z.cells.toList e false false)) else none
  | none=>none
 | .box e v=>if (ev T v).cells.toList.all one then match BN P e with
   | some _=>some (.pointer (some ⟨h.next,0,none⟩),h.push (.row (ev T v).cells.toList e false false))
   | none=>none
  else none
 | .build t parts=>(C1 P t (parts.toList.map fun (i,x)=>(i,ev T x))).map (·,h)
 | .buildSlice t len parts=>FC P h t len (parts.toList.map fun (i,x)=>(i,ev T x))
 | .load t a=>(EL P h t (ev T a)).map (·,h)
 | .store t a v=>(A9 P h t (ev T a) (ev T v)).map (undef,·)
 | .nilCheck x=>match ev T x with
  | .pointer (some a)=>some (.pointer (some a),h)
  | .func (.func k) first captured=>some (.func (.func k) first captured,h)
  | _=>none
 | .binOp op t x y _=>(BU P op t x y (ev T x) (ev T y)).map (·,h)
 | .unOp op _ x=>if flat (ev T x) then match BA P (Op.unary op (ev T x)) with
   | some u=>if flat u then some (u,h) else none
   | none=>none
  else none
 | .convert src dst x=>(SG P h src dst (ev T x)).map (·,h)
 | .makeFunc fn first captured=>some (.func fn (first.map (ev T)) (captured.map (ev T)),h)
 | .makeInterface t x=>match P.underlying t with
  | some (.interface _)=>none
  | some _=>some (.iface t (ev T x),h)
  | none=>none
 | .typeAssert x _ asserted ok=>(HG P (ev T x) asserted ok).map (·,h)
 | .makeMap _ none=>some (.map (some h.next),h.push (.map []))
 | .makeSlice t l c=>HB P h t (ev T l) (ev T c)
 | .slice t x lo hi mx=>(HL P h t (ev T x) (lo.map (ev T)) (hi.map (ev T)) (mx.map (ev T))).map (·,h)
 | .fieldAddr s x f=>(BJ P s (ev T x) f).map (·,h)
 | .field s x f=>(bY P s (ev T x) f).map (·,h)
 | .indexAddr t x i=>(CM P t (ev T x) (ev T i)).map (·,h)
 | .index t x i=>if flat (ev T x)&&flat (ev T i) then match BA P (Instr.index t (ev T x) (ev T i)) with
   | some u=>if flat u then some (u,h) else none
   | none=>none
  else none
 | .lookup t m k ok=>(O3 P h t (ev T m) (ev T k) ok).map (·,h)
 | .mapUpdate t m k v=>(MG P h t (ev T m) (ev T k) (ev T v)).map (undef,·)
 | .insert t m k v=>(MG P h t (ev T m) (ev T k) (ev T v)).map (undef,·)
 | .extract t i=>match ev T t with
  | .tuple vs=>(vs[i]?).map (·,h)
  | _=>none
 | .call c=>OK P call T h c
 | _=>none
noncomputable def DR (ops:Array Oper) (T:Tr) (o:Oper):Bool:=
 match o.guard with
 | none=>true
 | some (j,want)=>match (ops[j]?).bind (·.dst) with
  | some d=>(match T.get d with | .bool b=>b==want | _=>false)
  | none=>false
noncomputable def FN (P:Program) (call:AN) (ops:Array Oper) (o:Oper) (s:St):Option St:=
 if DR ops s.T o then match AO P call s.T s.h o.op with
  | some (v,h')=>some ⟨s.T.put o.dst v,h'⟩
  | none=>none
 else some ⟨s.T.put o.dst undef,s.h⟩
noncomputable def JO (P:Program) (call:AN) (ops:Array Oper):List Oper→St→Option St
 | [],s=>some s
 | o :: rest,s=>match FN P call ops o s with
  | some s'=>JO P call ops rest s'
  | none=>none
inductive P7 where
 | pure | read (a:Operand) | new | act | store
def AC:Op→P7
 | .load _ a=>.read a
 | .lookup _ m _ _=>.read m
 | .alloc _ | .box _ _ | .makeMap _ _ | .makeSlice _ _ _ | .buildSlice _ _ _=>.new
 | .store _ _ _=>.store
 | .mapUpdate _ _ _ _=>.store
 | .insert _ _ _ _=>.store
 | .convert _ _ x=>.read x
 | .slice _ x _ _ _=>.read x
 | .call c=>match c.callee with
  | .builtin .len | .builtin .max | .builtin .min=>.pure
  | _=>.act
 | _=>.pure
def CV:Value→Option Nat
 | .pointer (some a)=>some a.block
 | .map (some i)=>some i
 | .slice (some a) _ _=>some a.block
 | _=>none
def I0 (b:Array Nat) (i j:Nat):Bool:=i != j && !(b.getD i 0).testBit j && !(b.getD j 0).testBit i
def QO (o:Oper):Bool:=match AC o.op with | .read _=>true | _=>false
def EZ (o:Oper):Bool:=match AC o.op with | .act=>true | _=>false
def JN (o:Oper):Bool:=match AC o.op with | .new=>true | _=>false
def EP (o:Oper):Bool:=match AC o.op with | .store=>true | _=>false
def MS (ops:Array Oper) (k:Nat):Bool:=
 let b:=Region.before ops
 ops.toList.zipIdx.any fun (o,i)=>(EZ o||(JN o&&decide (i<k)))&&I0 b i k
def MQ (ops:Array Oper) (k:Nat):Bool:=
 let b:=Region.before ops
 ops.toList.zipIdx.any fun (o,i)=>QO o&&I0 b i k
def KI (ops:Array Oper) (k:Nat):List Operand:=
 let b:=Region.before ops
 ops.toList.zipIdx.filterMap fun (o,i)=>match AC o.op with
  | .read a=>if i<k&&I0 b i k then some a else none
  | _=>none
def ahead (start:Nat):Option Nat→Bool
 | some id=>decide (id<start)
 | none=>true
noncomputable def OQ (P:Program) (call:AN) (ops:Array Oper) (start i:Nat) (o:Oper) (s:St):Option St:=
 if DR ops s.T o then
  match AC o.op with
  | .read a=>if MS ops i && !ahead start (CV (ev s.T a)) then none else FN P call ops o s
  | .act=>if MQ ops i then match FN P call ops o ⟨s.T,s.h.fl (max s.h.floor start)⟩ with
    | some s'=>some ⟨s'.T,s'.h.fl s.h.floor⟩
    | none=>none
   else FN P call ops o s
  | .store=>match o.op with
   | .store _ a _=>if (KI ops i).all (fun x=>CV (ev s.T x) != CV (ev s.T a)) then FN P call ops o s else none
   | .insert _ m _ _=>if (KI ops i).all (fun x=>CV (ev s.T x) != CV (ev s.T m)) then FN P call ops o s else none
   | .mapUpdate _ m _ _=>if (KI ops i).all (fun x=>CV (ev s.T x) != CV (ev s.T m)) then FN P call ops o s else none
   | _=>none
  | .pure=>match o.op with
   | .call c=>(match c.args.toList.map (ev s.T) with | [.map _]=>none | _=>FN P call ops o s)
   | _=>FN P call ops o s
  | .new=>FN P call ops o s
 else some ⟨s.T.put o.dst undef,s.h⟩
noncomputable def KR (P:Program) (call:AN) (ops:Array Oper) (start:Nat):Nat→List Oper→St→Option St
 | _,[],s=>some s
 | i,o :: rest,s=>match OQ P call ops start i o s with
  | some s'=>KR P call ops start (i+1) rest s'
  | none=>none
def KV (f:St→Option (EM × St)):Nat→St→Option (EM × St)
 | 0,_=>none
 | n+1,s=>match f s with
  | some (.normal,s')=>KV f n s'
  | r=>r
noncomputable def CA (P:Program) (call:AN) (n:Nat):Code→St→Option (EM × St)
 | .skip,s=>some (.normal,s)
 | .region _ ops draw,s=>if draw then (KR P call ops s.h.next 0 ops.toList s).map (.normal,·) else (JO P call ops ops.toList s).map (.normal,·)
 | .seq a b,s=>match CA P call n a s with
  | some (.normal,s')=>CA P call n b s'
  | r=>r
 | .cond c a b,s=>match ev s.T c with
  | .bool true=>CA P call n a s
  | .bool false=>CA P call n b s
  | _=>none
 | .block id c,s=>match CA P call n c s with
  | some (.exit i,s')=>if i=id then some (.normal,s') else some (.exit i,s')
  | r=>r
 | .loop c,s=>KV (CA P call n c) n s
 | .exit id,s=>some (.exit id,s)
 | .ret,s=>some (.ret,s)
 | _,_=>none
noncomputable def FZ (P:Program) (s:St):List ResultVar→Option (List Value)
 | []=>some []
 | .tmp t :: r=>match FZ P s r with | some l=>some (s.T.get t :: l) | none=>none
 | .cell a t :: r=>match EL P s.h t (s.T.get a),FZ P s r with | some v,some l=>some (v :: l) | _,_=>none
noncomputable def IK:Nat→List Value→Tr→Tr
 | _,[],T=>T
 | i,v :: vs,T=>IK (i+1) vs (T.set i v)
noncomputable def KM (P:Program):Nat→AN
 | 0,_,_,_=>none
 | n + 1,f,args,h=>
  match P.funcs[f]? with
  | some fn=>match fn.body with
   | some c=>if args.length≤fn.ntmps then
     match CA P (KM P n) n c ⟨IK 0 args .leaf,h⟩ with
     | some (.normal,s) | some (.ret,s)=>match FZ P s fn.results.toList with
      | some [v]=>some (v,s.h)
      | some vs=>some (.tuple vs.toArray,s.h)
      | none=>none
     | _=>none
    else none
   | none=>none
  | none=>none
end Go.Sx
namespace Go.Sx
open Go
inductive A8 {α β:Type} (R:α→β→Prop):List α→List β→Prop
 | nil:A8 R [] []
 | cons {a b l m}:R a b→A8 R l m→A8 R (a :: l) (b :: m)
namespace A8
variable {α β:Type} {R S:α→β→Prop}
theorem length {l:List α} {m:List β} (h:A8 R l m):l.length=m.length:=by
 induction h with
 | nil=>rfl
 | cons _ _ ih=>simp[ih]
theorem mono {l:List α} {m:List β} (hs:∀ a b,R a b→S a b) (h:A8 R l m):A8 S l m:=by
 induction h with
 | nil=>exact .nil
 | cons h _ ih=>exact .cons (hs _ _ h) ih
theorem append {l l':List α} {m m':List β} (h:A8 R l m) (h':A8 R l' m'):A8 R (l++l') (m++m'):=by
 induction h with
 | nil=>exact h'
 | cons h _ ih=>exact .cons h ih
theorem get {l:List α} {m:List β} (h:A8 R l m) {i:Nat} {a:α} (ha:l[i]?=some a):∃ b,m[i]?=some b∧R a b:=by
 induction h generalizing i with
 | nil=>simp at ha
 | cons h _ ih=>
  cases i with
  | zero=>simp at ha;subst ha;exact⟨_,rfl,h⟩
  | succ i=>simp at ha;simpa using ih ha
theorem getR {l:List α} {m:List β} (h:A8 R l m) {i:Nat} {b:β} (hb:m[i]?=some b):∃ a,l[i]?=some a∧R a b:=by
 induction h generalizing i with
 | nil=>simp at hb
 | cons h _ ih=>
  cases i with
  | zero=>simp at hb;subst hb;exact⟨_,rfl,h⟩
  | succ i=>simp at hb;simpa using ih hb
theorem of_get {l:List α} {m:List β} (hl:l.length=m.length) (h:∀ (i:Nat) (a:α) (b:β),l[i]?=some a→m[i]?=some b→R a b):A8 R l m:=by
 induction l generalizing m with
 | nil=>cases m with
  | nil=>exact .nil
  | cons _ _=>simp at hl
 | cons a l ih=>cases m with
  | nil=>simp at hl
  | cons b m=>exact .cons (h 0 a b rfl rfl) (ih (by simpa using hl) fun i x y hx hy=>h (i+1) x y (by simpa using hx) (by simpa using hy))
theorem drop {l:List α} {m:List β} (h:A8 R l m) (n:Nat):A8 R (l.drop n) (m.drop n):=
 of_get (by simp[h.length]) fun i a b ha hb=>by
  rw[List.getElem?_drop] at ha hb
  obtain⟨b',hb',r⟩:=h.get ha
  rw[hb'] at hb
  cases hb
  exact r
theorem take {l:List α} {m:List β} (h:A8 R l m) (n:Nat):A8 R (l.take n) (m.take n):=by
 induction h generalizing n with
 | nil=>simpa using A8.nil
 | cons h _ ih=>cases n with
  | zero=>simpa using A8.nil
  | succ n=>simpa using A8.cons h (ih n)
theorem map {γ δ:Type} {f:α→γ} {g:β→δ} {S:γ→δ→Prop} {l:List α} {m:List β} (h:A8 R l m) (hs:∀ a b,R a b→S (f a) (g b)):A8 S (l.map f) (m.map g):=by
 induction h with
 | nil=>exact .nil
 | cons h _ ih=>exact .cons (hs _ _ h) ih
theorem same {l:List α} {R:α→α→Prop} (h:∀ a∈l,R a a):A8 R l l:=by
 induction l with
 | nil=>exact .nil
 | cons a l ih=>exact .cons (h a (by simp)) (ih fun b hb=>h b (by simp[hb]))
theorem set {l:List α} {m:List β} (h:A8 R l m) {i:Nat} {a:α} {b:β} (hr:R a b):A8 R (l.set i a) (m.set i b):=by
 induction h generalizing i with
 | nil=>exact .nil
 | cons h ht ih=>cases i with
  | zero=>exact .cons hr ht
  | succ i=>exact .cons h (ih (i:=i))
end A8
abbrev BF:=Nat→Option Loc
inductive AI (ρ:BF):Value→Value→Prop
 | flat {v}:BI v=true→AI ρ v v
 | ptr {id off L}:ρ id=some L→AI ρ (.pointer (some ⟨id,off,none⟩)) (.pointer (some ⟨L.b,L.d+off,none⟩))
 | slice {id off L n c}:ρ id=some L→c<AP→AI ρ (.slice (some ⟨id,off,none⟩) n c) (.slice (some ⟨L.b,L.d+off,none⟩) n c)
 | sliceU {id off L n c a}:ρ id=some L→n≤c→((c=0∨(n=0∧L.z=0))∨(a=⟨L.b,L.d+off,none⟩∧off+c*L.z=L.e))→AI ρ (.slice (some ⟨id,off,none⟩) n AP) (.slice (some a) n c)
 | map {id L}:ρ id=some L→AI ρ (.map (some id)) (.map (some L.b))
 | func {fn f f' c c'}:A8 (AI ρ) f.toList f'.toList→A8 (AI ρ) c.toList c'.toList→AI ρ (.func fn f c) (.func fn f' c')
 | iface {t v v'}:AI ρ v v'→AI ρ (.iface t v) (.iface t v')
 | agg {cs cs'}:A8 (AI ρ) cs.toList cs'.toList→AI ρ (.agg cs) (.agg cs')
 | tuple {cs cs'}:A8 (AI ρ) cs.toList cs'.toList→AI ρ (.tuple cs) (.tuple cs')
theorem AI.mono {ρ ρ':BF} (hx:∀ i L,ρ i=some L→ρ' i=some L) {v V:Value} (h:AI ρ v V):AI ρ' v V:=by
 refine AI.rec (motive_1:=fun v V _=>AI ρ' v V) (motive_2:=fun l m _=>A8 (AI ρ') l m) ?_ ?_ ?_ ?_ ?_ ?_ ?_ ?_ ?_ ?_ ?_ h
 ·intro v hv;exact .flat hv
 ·intro id off L hL;exact .ptr (hx _ _ hL)
 ·intro id off L n c hL hc;exact .slice (hx _ _ hL) hc
 ·intro id off L n c a hL hn ha;exact .sliceU (hx _ _ hL) hn ha
 ·intro id L hL;exact .map (hx _ _ hL)
 ·intro fn f f' c c' _ _ h1 h2;exact .func h1 h2
 ·intro t v v' _ h;exact .iface h
 ·intro cs cs' _ h;exact .agg h
 ·intro cs cs' _ h;exact .tuple h
 ·exact .nil
 ·intro a b l m _ _ h1 h2;exact .cons h1 h2
theorem II {ρ:BF} {v V:Value} (hf:BI v=true) (h:AI ρ v V):V=v:=by
 cases h with
 | flat _=>rfl
 | sliceU _ _ _=>simp[BI] at hf
 | _=>simp[BI] at hf
theorem nO {ρ:BF} {l m:List Value} (h:A8 (AI ρ) l m) (hf:l.all BI=true):m=l:=by
 induction h with
 | nil=>rfl
 | cons h _ ih=>
  simp at hf
  rw[II hf.1 h,ih (by simpa using hf.2)]
theorem NM {ρ:BF} {v V:Value} (hf:flat v=true) (h:AI ρ v V):V=v:=by
 cases h with
 | agg h=>
  simp only[flat] at hf
  have:=nO h hf
  congr 1
  exact Array.toList_inj.1 this
 | flat hv=>rfl
 | _=>first | rfl | simp[flat,BI] at hf
theorem JM {ρ:BF} {v:Value} (hf:flat v=true):AI ρ v v:=by
 unfold flat at hf
 split at hf
 ·rename_i cs
  refine .agg (A8.same fun a ha=>.flat ?_)
  exact List.all_eq_true.1 hf a ha
 ·exact .flat hf
theorem QK {ρ:BF}:AI ρ undef undef:=.tuple .nil
theorem VQ {ρ:BF} {v V:Value} (h:AI ρ v V):A8 (AI ρ) v.cells.toList V.cells.toList:=by
 cases h with
 | agg h=>exact h
 | flat hv=>
  have:v.cells=#[v]:=by
   cases v <;> simp[BI] at hv <;> rfl
  rw[this]
  exact .cons (.flat hv) .nil
 | ptr h=>exact .cons (.ptr h) .nil
 | slice h h'=>exact .cons (.slice h h') .nil
 | sliceU h h1 h2=>exact .cons (.sliceU h h1 h2) .nil
 | map h=>exact .cons (.map h) .nil
 | func h h'=>exact .cons (.func h h') .nil
 | iface h=>exact .cons (.iface h) .nil
 | tuple h=>exact .cons (.tuple h) .nil
theorem lU {ρ:BF} {v V:Value} (h:AI ρ v V):one V=one v:=by
 cases h <;> rfl
theorem QW {ρ:BF} {b:Bool} {V:Value} (h:AI ρ (.bool b) V):V=.bool b:=II rfl h
theorem LL {ρ:BF} {k:IntKind} {n:Int} {V:Value} (h:AI ρ (.int k n) V):V=.int k n:=II rfl h
theorem R9 {ρ:BF} {s:ByteArray} {V:Value} (h:AI ρ (.string s) V):V=.string s:=II rfl h
theorem e_ {ρ:BF} {id off:Nat} {V:Value} (h:AI ρ (.pointer (some ⟨id,off,none⟩)) V):∃ L,ρ id=some L∧V=.pointer (some ⟨L.b,L.d+off,none⟩):=by
 cases h with
 | flat h=>simp[BI] at h
 | ptr h=>exact⟨_,h,rfl⟩
theorem QP {ρ:BF} {a:Addr} {V:Value} (h:AI ρ (.pointer (some a)) V):∃ L,ρ a.block=some L∧a.spot=none∧V=.pointer (some ⟨L.b,L.d+a.off,none⟩):=by
 cases h with
 | flat h=>simp[BI] at h
 | ptr h=>exact⟨_,h,rfl,rfl⟩
theorem dK {ρ:BF} {id:Nat} {V:Value} (h:AI ρ (.map (some id)) V):∃ L,ρ id=some L∧V=.map (some L.b):=by
 cases h with
 | flat h=>simp[BI] at h
 | map h=>exact⟨_,h,rfl⟩
theorem Ap {ρ:BF} {cs:Array Value} {V:Value} (h:AI ρ (.agg cs) V):∃ cs',V=.agg cs'∧A8 (AI ρ) cs.toList cs'.toList:=by
 cases h with
 | flat h=>simp[BI] at h
 | agg h=>exact⟨_,rfl,h⟩
theorem Ml {ρ:BF} {cs:Array Value} {V:Value} (h:AI ρ (.tuple cs) V):∃ cs',V=.tuple cs'∧A8 (AI ρ) cs.toList cs'.toList:=by
 cases h with
 | flat h=>simp[BI] at h
 | tuple h=>exact⟨_,rfl,h⟩
theorem Y5 {ρ:BF} {fn:Fn} {f c:Array Value} {V:Value} (h:AI ρ (.func fn f c) V):∃ f' c',V=.func fn f' c'∧A8 (AI ρ) f.toList f'.toList∧A8 (AI ρ) c.toList c'.toList:=by
 cases h with
 | flat h=>simp[BI] at h
 | func h h'=>exact⟨_,_,rfl,h,h'⟩
theorem iC:∀ (n m k:Nat),k≤n→k≤m→OD n k=OD m k:=by
 intro n
 induction n with
 | zero=>
  intro m k h1 h2
  obtain rfl:k=0:=by omega
  cases m <;> simp[OD]
 | succ n ih=>
  intro m k h1 h2
  cases m with
  | zero=>
   obtain rfl:k=0:=by omega
   simp[OD]
  | succ m=>
   simp only[OD]
   by_cases hk:k=0
   ·simp[hk]
   ·rw[if_neg hk,if_neg hk,ih m (k/2) (by omega) (by omega),ih m (k/2-1) (by omega) (by omega)]
theorem oW (k:Nat):KO k=if k=0 then [] else if k%2=1 then true :: KO (k/2) else false :: KO (k/2-1):=by
 unfold KO
 cases k with
 | zero=>rfl
 | succ k=>
  simp only[OD,Nat.add_one_ne_zero,if_false]
  rw[iC k ((k+1)/2) ((k+1)/2) (by omega) (by omega),iC k ((k+1)/2-1) ((k+1)/2-1) (by omega) (by omega)]
theorem pY:∀ {k j:Nat},KO k=KO j→k=j:=by
 intro k
 induction k using Nat.strongRecOn with
 | ind k ih=>
  intro j h
  rw[oW k,oW j] at h
  by_cases hk:k=0
  ·by_cases hj:j=0
   ·omega
   ·rw[if_pos hk,if_neg hj] at h
    split at h <;> cases h
  ·by_cases hj:j=0
   ·rw[if_neg hk,if_pos hj] at h
    split at h <;> cases h
   ·rw[if_neg hk,if_neg hj] at h
    by_cases k2:k%2=1 <;> by_cases j2:j%2=1
    ·rw[if_pos k2,if_pos j2] at h
     have:=ih (k/2) (by omega) (List.cons.inj h).2
     omega
    ·rw[if_pos k2,if_neg j2] at h
     cases (List.cons.inj h).1
    ·rw[if_neg k2,if_pos j2] at h
     cases (List.cons.inj h).1
    ·rw[if_neg k2,if_neg j2] at h
     have:=ih (k/2-1) (by omega) (List.cons.inj h).2
     omega
theorem D2.look_lay (p:List Bool):∀ (q:List Bool) (t:D2) (u:BC),(D2.lay p u t).look q=if q=p then u else t.look q:=by
 induction p with
 | nil=>
  intro q t u
  cases q with
  | nil=>cases t <;> rfl
  | cons c q=>cases t <;> cases c <;> rfl
 | cons b p ih=>
  intro q t u
  cases q with
  | nil=>cases t <;> cases b <;> rfl
  | cons c q=>
   have h1:=fun t=>ih q t u
   cases t <;> cases b <;> cases c <;> first | rfl | (refine(h1 _).trans ?_;by_cases e:q=p <;> simp[e] <;> rfl)
theorem D2.get_set (t:D2) (k j:Nat) (u:BC):(t.set k u).get j=if j=k then u else t.get j:=by
 unfold D2.get D2.set
 rw[D2.look_lay]
 by_cases e:j=k
 ·rw[if_pos e,if_pos (by rw[e])]
 ·rw[if_neg e,if_neg (fun h=>e (pY h))]
section
variable {h:AA} {o:BC} {i j:Nat}
theorem I_ (hi:h.next≤i):h.get i=.dead:=by unfold AA.get;rw[if_neg (by omega)]
theorem BM:(h.push o).get h.next=o:=by
 unfold AA.get AA.push
 simp[D2.get_set]
theorem AQ (hi:i<h.next):(h.push o).get i=h.get i:=by
 unfold AA.get AA.push
 simp only[hi,if_true]
 rw[if_pos (by omega),D2.get_set,if_neg (by omega)]
theorem OM (hne:i≠h.next):(h.push o).get i=h.get i:=by
 rcases Nat.lt_or_gt_of_ne hne with hi | hi
 ·exact AQ hi
 ·rw[I_ (h:=h) (by omega),I_ (h:=h.push o) (by simp[AA.push];omega)]
theorem B0 (_hl:h.good) (hi:i<h.next):(h.put i o).get i=o:=by
 unfold AA.get AA.put
 simp only[hi,if_true]
 rw[D2.get_set,if_pos rfl]
theorem AX (_hi:i<h.next) (hne:i≠j):(h.put i o).get j=h.get j:=by
 unfold AA.get AA.put
 simp only
 by_cases hj:j<h.next
 ·simp only[hj,if_true]
  rw[D2.get_set,if_neg (by omega)]
 ·simp[hj]
theorem dZ (_hl:h.good):(h.push o).good:=rfl
theorem UR (_hl:h.good):(h.put i o).good:=rfl
theorem YY (hn:h.get i≠.dead):i<h.next:=by
 rcases Nat.lt_or_ge i h.next with hi | hi
 ·exact hi
 ·exact absurd (I_ hi) hn
end
theorem Tr.look_lay (p:List Bool):∀ (q:List Bool) (t:Tr) (u:Value),(Tr.lay p u t).look q=if q=p then u else t.look q:=by
 induction p with
 | nil=>
  intro q t u
  cases q with
  | nil=>cases t <;> rfl
  | cons c q=>cases t <;> cases c <;> rfl
 | cons b p ih=>
  intro q t u
  cases q with
  | nil=>cases t <;> cases b <;> rfl
  | cons c q=>
   have h1:=fun t=>ih q t u
   cases t <;> cases b <;> cases c <;> first | rfl | (refine(h1 _).trans ?_;by_cases e:q=p <;> simp[e] <;> rfl)
theorem Tr.get_set (t:Tr) (k j:Nat) (u:Value):(t.set k u).get j=if j=k then u else t.get j:=by
 unfold Tr.get Tr.set
 rw[Tr.look_lay]
 by_cases e:j=k
 ·rw[if_pos e,if_pos (by rw[e])]
 ·rw[if_neg e,if_neg (fun h=>e (pY h))]
def live:BC→Prop
 | .dead=>False
 | _=>True
def wr:BC→Prop
 | .row _ _ _ ro=>ro=false
 | .map _=>True
 | .dead=>False
theorem wr.live {o:BC} (h:wr o):live o:=by cases o <;> simp_all [wr,Sx.live]
def FW (P:Program) (ρ:BF) (W:World) (i:Nat):BC→Prop
 | .dead=>True
 | .row cs ty _ ro=>∃ L CS ty' fr,ρ i=some L∧W.heap[L.b]?=some (.cells CS ty' fr)∧(∀ (k:Nat) (v:Value),cs[k]?=some v→∃ V,CS[L.d+k]?=some V∧AI ρ v V) ∧
   (ro=false→fr=(0,0)∧ty'=ty∧L.d+L.e=CS.size∧BN P ty=some L.z)
 | .map es=>∃ L ES clk,ρ i=some L∧W.heap[L.b]?=some (.map ES clk)∧A8 (fun e E=>AI ρ e.1 E.key∧AI ρ e.2 E.val) es ES.toList
structure BV (P:Program) (ρ:BF) (h:AA) (W:World):Prop where
 len:h.good
 dom:∀ i,h.next≤i→ρ i=none
 glob:∀ g,g<P.globals.size→∃ L,ρ g=some L∧L.b=g∧L.d=0
 obj:∀ i,FW P ρ W i (h.get i)
 inj:∀ i j L L',wr (h.get i)→live (h.get j)→i≠j→ρ i=some L→ρ j=some L'→L.b≠L'.b
structure Fr (ρ:BF) (h:AA) (W W':World):Prop where
 os:W'.os=W.os
 tape:W'.tape=W.tape
 output:W'.output=W.output
 size:W.heap.size≤W'.heap.size
 blk:∀ b,b<W.heap.size→(∀ i L,wr (h.get i)→h.floor≤i→ρ i=some L→L.b≠b)→W'.heap[b]?=W.heap[b]?
structure Nx (P:Program) (ρ:BF) (h:AA) (W:World) (ρ':BF) (h':AA) (W':World):Prop where
 ext:∀ i L,ρ i=some L→ρ' i=some L
 old:∀ i,i<h.next→ρ' i=ρ i
 rel:BV P ρ' h' W'
 fr:Fr ρ h W W'
 nx:h.next≤h'.next
 floor:h'.floor=h.floor
 keep:∀ i,i<h.next→i<h.floor→h'.get i=h.get i
 was:∀ i,i<h.next→wr (h'.get i)→wr (h.get i)
 wasl:∀ i,i<h.next→live (h'.get i)→live (h.get i)
 own:∀ i L,h.next≤i→live (h'.get i)→ρ' i=some L→W.heap.size≤L.b∨∃ j L0,wr (h.get j)∧h.floor≤j∧ρ j=some L0∧L0.b=L.b
theorem FW.at_ {P:Program} {ρ:BF} {W:World} {i:Nat} {o:BC} (h:FW P ρ W i o) (hl:live o):∃ L,ρ i=some L∧L.b<W.heap.size:=by
 cases o with
 | dead=>exact hl.elim
 | row cs ty g ro=>
  obtain⟨L,CS,ty',fr,h1,h2,_⟩:=h
  exact⟨L,h1,by
   rcases Nat.lt_or_ge L.b W.heap.size with hb | hb
   ·exact hb
   ·rw[Array.getElem?_eq_none hb] at h2;cases h2⟩
 | map es=>
  obtain⟨L,ES,clk,h1,h2,_⟩:=h
  exact⟨L,h1,by
   rcases Nat.lt_or_ge L.b W.heap.size with hb | hb
   ·exact hb
   ·rw[Array.getElem?_eq_none hb] at h2;cases h2⟩
theorem FW.mono {P:Program} {ρ ρ':BF} {W W':World} {i:Nat} {o:BC} (hx:∀ i L,ρ i=some L→ρ' i=some L) (hb:∀ L,ρ i=some L→live o→W'.heap[L.b]?=W.heap[L.b]?) (h:FW P ρ W i o):FW P ρ' W' i o:=by
 cases o with
 | dead=>trivial
 | row cs ty g ro=>
  obtain⟨L,CS,ty',fr,h1,h2,h3,h4⟩:=h
  exact⟨L,CS,ty',fr,hx _ _ h1,(hb L h1 trivial).trans h2,fun k v hv=>let ⟨V,hV,hr⟩:=h3 k v hv;⟨V,hV,hr.mono hx⟩,h4⟩
 | map es=>
  obtain⟨L,ES,clk,h1,h2,h3⟩:=h
  exact⟨L,ES,clk,hx _ _ h1,(hb L h1 trivial).trans h2,h3.mono fun a b h=>⟨h.1.mono hx,h.2.mono hx⟩⟩
theorem Fr.refl (ρ:BF) (h:AA) (W:World):Fr ρ h W W:=⟨rfl,rfl,rfl,Nat.le_refl _,fun _ _ _=>rfl⟩
theorem Nx.refl {P:Program} {ρ:BF} {h:AA} {W:World} (hR:BV P ρ h W):Nx P ρ h W ρ h W:=
 ⟨fun _ _ h=>h,fun _ _=>rfl,hR,Fr.refl _ _ _,Nat.le_refl _,rfl,fun _ _ _=>rfl,fun _ _ h=>h,fun _ _ h=>h,fun i L hi hw _=>by rw[I_ hi] at hw;exact hw.elim⟩
theorem Nx.trans {P:Program} {ρ ρ' ρ'':BF} {h h' h'':AA} {W W' W'':World} (hR:BV P ρ h W) (a:Nx P ρ h W ρ' h' W') (b:Nx P ρ' h' W' ρ'' h'' W''):Nx P ρ h W ρ'' h'' W'':=by
 have key:∀ i L,wr (h'.get i)→h'.floor≤i→ρ' i=some L→W.heap.size≤L.b∨∃ j L0,wr (h.get j)∧h.floor≤j∧ρ j=some L0∧L0.b=L.b:=by
  intro i L hw hf hL
  rcases Nat.lt_or_ge i h.next with hi | hi
  ·have hw0:=a.was i hi hw
   obtain⟨L0,hL0,_⟩:=(hR.obj i).at_ hw0.live
   have:=a.ext i L0 hL0
   rw[hL] at this
   cases this
   exact .inr ⟨i,L,hw0,by rw[← a.floor];exact hf,hL0,rfl⟩
  ·exact a.own i L hi hw.live hL
 refine⟨fun i L hi=>b.ext _ _ (a.ext _ _ hi),fun i hi=>(b.old i (Nat.lt_of_lt_of_le hi a.nx)).trans (a.old i hi),b.rel,⟨b.fr.os.trans a.fr.os,b.fr.tape.trans a.fr.tape,b.fr.output.trans a.fr.output,Nat.le_trans a.fr.size b.fr.size,?_⟩,Nat.le_trans a.nx b.nx,b.floor.trans a.floor,?_,?_,?_,?_⟩
 ·intro k hk hno
  rw[b.fr.blk k (Nat.lt_of_lt_of_le hk a.fr.size) ?_,a.fr.blk k hk hno]
  intro i L hw hf hL e
  rcases key i L hw hf hL with hs | ⟨j,L0,hwj,hfj,hLj,ej⟩
  ·omega
  ·exact hno j L0 hwj hfj hLj (ej.trans e)
 ·intro i hi hf
  rw[b.keep i (Nat.lt_of_lt_of_le hi a.nx) (by rw[a.floor];exact hf),a.keep i hi hf]
 ·intro i hi hw
  exact a.was i hi (b.was i (Nat.lt_of_lt_of_le hi a.nx) hw)
 ·intro i hi hw
  exact a.wasl i hi (b.wasl i (Nat.lt_of_lt_of_le hi a.nx) hw)
 ·intro i L hi hw hL
  rcases Nat.lt_or_ge i h'.next with hi' | hi'
  ·have hw':=b.wasl i hi' hw
   obtain⟨L0,hL0,_⟩:=(a.rel.obj i).at_ hw'
   have:=b.ext i L0 hL0
   rw[hL] at this
   cases this
   exact a.own i L hi hw' hL0
  ·rcases b.own i L hi' hw hL with hs | ⟨j,L0,hwj,hfj,hLj,ej⟩
   ·exact .inl (Nat.le_trans a.fr.size hs)
   ·rcases key j L0 hwj hfj hLj with hs | ⟨j2,L2,h1,h2,h3,h4⟩
    ·exact .inl (by omega)
    ·exact .inr ⟨j2,L2,h1,h2,h3,h4.trans ej⟩
end Go.Sx
