/- Part 1. -/
import Derived.Orders
import Derived.Below
import Derived.KernelRfl
theorem Go.Sx.aQ{a b:Prop}(x:a)(y:b):a/\b:=⟨x,y⟩
namespace Go.Sx
open Go
theorem aa:type_of%@List.getElem?_eq_getElem:=@List.getElem?_eq_getElem
theorem ab:type_of%@Nat.zero_add:=@Nat.zero_add
theorem ad:type_of%@if_neg:=@if_neg
theorem ae:type_of%@List.getElem?_eq_some_iff:=@List.getElem?_eq_some_iff
theorem af:type_of%@Nat.le_refl:=@Nat.le_refl
theorem ag:type_of%@if_pos:=@if_pos
theorem ah:type_of%@Bool.and_eq_true:=@Bool.and_eq_true
theorem ai:type_of%@if_true:=@if_true
theorem aj:type_of%@Option.some.injEq:=@Option.some.injEq
theorem ak:type_of%@beq_iff_eq:=@beq_iff_eq
theorem am:type_of%@decide_eq_true_eq:=@decide_eq_true_eq
theorem ao:type_of%@Bool.and_self:=@Bool.and_self
theorem aq:type_of%@Option.map_eq_some_iff:=@Option.map_eq_some_iff
theorem ar:type_of%@Nat.lt_or_ge:=@Nat.lt_or_ge
theorem aw:type_of%@List.mem_of_getElem?:=@List.mem_of_getElem?
theorem ax:type_of%@beq_eq_false_iff_ne:=@beq_eq_false_iff_ne
theorem ay:type_of%@Go.run_underlying:=@Go.run_underlying
theorem az:type_of%@List.all_cons:=@List.all_cons
theorem aO:type_of%@Prod.mk.injEq:=@Prod.mk.injEq
theorem aV:type_of%@Bool.false_eq_true:=@Bool.false_eq_true
theorem bc:type_of%@Ne.symm:=@Ne.symm
theorem bd:type_of%@List.all_nil:=@List.all_nil
theorem bf:type_of%@List.getElem?_set_ne:=@List.getElem?_set_ne
theorem bg:type_of%@Nat.zero_le:=@Nat.zero_le
theorem bh:type_of%@decide_eq_true:=@decide_eq_true
theorem bi:type_of%@if_false:=@if_false
theorem bk:type_of%@decide_eq_false_iff_not:=@decide_eq_false_iff_not
theorem bm:type_of%@List.all_eq_true:=@List.all_eq_true
theorem bp:type_of%@decide_eq_false:=@decide_eq_false
theorem br:type_of%@List.getElem?_set_self:=@List.getElem?_set_self
theorem bu:type_of%@Bool.or_eq_true:=@Bool.or_eq_true
theorem bw:type_of%@List.length_map:=@List.length_map
theorem bx:type_of%@List.length_cons:=@List.length_cons
theorem bz:type_of%@Bool.false_and:=@Bool.false_and
theorem bO:type_of%@List.length_set:=@List.length_set
theorem bT:type_of%@List.getElem?_map:=@List.getElem?_map
theorem cd:type_of%@List.drop_eq_getElem_cons:=@List.drop_eq_getElem_cons
theorem cf:type_of%@Nat.lt_of_lt_of_le:=@Nat.lt_of_lt_of_le
theorem ch:type_of%@List.length_append:=@List.length_append
theorem cj:type_of%@trivial:=@trivial
theorem cp:type_of%@Option.bind_some:=@Option.bind_some
theorem cy:type_of%@Nat.mul_one:=@Nat.mul_one
theorem cz:type_of%@List.getElem?_append_right:=@List.getElem?_append_right
theorem cY:type_of%@List.take_add_one:=@List.take_add_one
theorem dd:type_of%@false_implies:=@false_implies
theorem de:type_of%@List.getElem?_eq_none:=@List.getElem?_eq_none
theorem dh:type_of%@List.flatMap_cons:=@List.flatMap_cons
theorem di:type_of%@List.take_of_length_le:=@List.take_of_length_le
theorem dj:type_of%@Nat.le_trans:=@Nat.le_trans
theorem dl:type_of%@List.getElem?_cons_zero:=@List.getElem?_cons_zero
theorem dm:type_of%@List.append_nil:=@List.append_nil
theorem dn:type_of%@List.getElem?_of_mem:=@List.getElem?_of_mem
theorem dp:type_of%@List.map_cons:=@List.map_cons
theorem dr:type_of%@List.getElem?_toArray:=@List.getElem?_toArray
theorem dt:type_of%@List.getElem?_append_left:=@List.getElem?_append_left
theorem du:type_of%@List.length_nil:=@List.length_nil
theorem dw:type_of%@List.nil_append:=@List.nil_append
theorem dx:type_of%@List.contains_cons:=@List.contains_cons
theorem dz:type_of%@List.map_nil:=@List.map_nil
theorem dA:type_of%@Option.map_some:=@Option.map_some
theorem dC:type_of%@Bool.or_false:=@Bool.or_false
theorem dO:type_of%@List.contains_nil:=@List.contains_nil
theorem ed:type_of%@Array.getD_eq_getD_getElem?:=@Array.getD_eq_getD_getElem?
theorem ee:type_of%@decide_true:=@decide_true
theorem eg:type_of%@Bool.false_or:=@Bool.false_or
theorem eh:type_of%@List.ext_getElem?:=@List.ext_getElem?
theorem ew:type_of%@List.eq_nil_of_length_eq_zero:=@List.eq_nil_of_length_eq_zero
theorem ey:type_of%@Bool.and_eq_true_iff:=@Bool.and_eq_true_iff
theorem eC:type_of%@List.drop_of_length_le:=@List.drop_of_length_le
theorem eF:type_of%@Array.toList_inj:=@Array.toList_inj
theorem fa:type_of%@Bool.true_or:=@Bool.true_or
theorem fb:type_of%@List.length_eq_zero_iff:=@List.length_eq_zero_iff
theorem fc:type_of%@List.getElem?_cons_succ:=@List.getElem?_cons_succ
theorem fe:type_of%@Nat.add_zero:=@Nat.add_zero
theorem ff:type_of%@Nat.zero_mul:=@Nat.zero_mul
theorem fg:type_of%@beq_self_eq_true:=@beq_self_eq_true
theorem fi:type_of%@Array.getElem?_eq_getElem:=@Array.getElem?_eq_getElem
theorem fj:type_of%@of_decide_eq_true:=@of_decide_eq_true
theorem fk:type_of%@Bool.true_and:=@Bool.true_and
theorem fm:type_of%@Option.some.inj:=@Option.some.inj
theorem fq:type_of%@of_decide_eq_false:=@of_decide_eq_false
theorem fu:type_of%@List.length_take:=@List.length_take
theorem fv:type_of%@List.mem_cons:=@List.mem_cons
theorem fw:type_of%@List.map_append:=@List.map_append
theorem fy:type_of%@List.set_cons_zero:=@List.set_cons_zero
theorem gf:type_of%@Nat.add_assoc:=@Nat.add_assoc
theorem gg:type_of%@List.append_eq:=@List.append_eq
theorem gh:type_of%@List.append_assoc:=@List.append_assoc
theorem gi:type_of%@Go.DataW.trod_struct:=@Go.DataW.trod_struct
theorem gl:type_of%@Array.getElem?_eq_some_iff:=@Array.getElem?_eq_some_iff
theorem gn:type_of%@List.drop_zero:=@List.drop_zero
theorem gp:type_of%@List.set_cons_succ:=@List.set_cons_succ
theorem gu:type_of%@List.length_replicate:=@List.length_replicate
theorem gy:type_of%@Int.toNat_natCast:=@Int.toNat_natCast
theorem gG:type_of%@List.getElem?_replicate:=@List.getElem?_replicate
theorem gH:type_of%@List.not_mem_nil:=@List.not_mem_nil
theorem gK:type_of%@Go.DataW.trod_int:=@Go.DataW.trod_int
theorem gN:type_of%@Nat.eq_zero_or_pos:=@Nat.eq_zero_or_pos
theorem gY:type_of%@Nat.eq_or_lt_of_le:=@Nat.eq_or_lt_of_le
theorem iw:type_of%@Nat.eq_of_beq_eq_true:=@Nat.eq_of_beq_eq_true
theorem iy:type_of%@List.all_append:=@List.all_append
theorem iz:type_of%@Bool.not_eq_true':=@Bool.not_eq_true'
theorem iQ:type_of%@List.mem_of_mem_drop:=@List.mem_of_mem_drop
theorem iZ:type_of%@List.mem_cons_of_mem:=@List.mem_cons_of_mem
theorem ja:type_of%@Go.Sem.run_bind:=@Go.Sem.run_bind
theorem jb:type_of%@Array.getElem?_replicate:=@Array.getElem?_replicate
theorem jc:type_of%@Nat.sub_self:=@Nat.sub_self
theorem je:type_of%@Array.toList_append:=@Array.toList_append
theorem jf:type_of%@eq_true:=@eq_true
theorem jg:type_of%@List.getElem?_drop:=@List.getElem?_drop
theorem jh:type_of%@Nat.lt_or_gt_of_ne:=@Nat.lt_or_gt_of_ne
theorem ji:type_of%@List.mem_append:=@List.mem_append
theorem jj:type_of%@congrArg:=@congrArg
theorem jk:type_of%@Nat.lt_trichotomy:=@Nat.lt_trichotomy
theorem jl:type_of%@List.drop_drop:=@List.drop_drop
theorem jm:type_of%@Array.toList_map:=@Array.toList_map
theorem jn:type_of%@List.cons_append:=@List.cons_append
theorem jo:type_of%@Bool.not_true:=@Bool.not_true
theorem jp:type_of%@Nat.le_succ:=@Nat.le_succ
theorem jq:type_of%@Option.map_none:=@Option.map_none
theorem jr:type_of%@List.mem_map:=@List.mem_map
theorem js:type_of%@Bool.or_true:=@Bool.or_true
set_option maxHeartbeats 0
def AT:Nat:=18446744073709551616
structure Loc where
 b:Nat
 d:Nat
 e:Nat
 z:Nat
inductive BO where
 | row (cs:List Value) (ty:TypeId) (grow ro:Bool)
 | map (es:List (Value × Value))
 | dead
def UI:Nat->Nat->List Bool|0,_=>[]|n+1,k=>if k=0 then[]else if k%2=1 then true::UI n (k/2)else false::UI n (k/2-1)
def OJ(k:Nat):List Bool:=UI k k
inductive GI where
 | leaf
 | node (o:BO) (l r:GI)
noncomputable def GI.e(t:GI):List Bool->BO:=GI.rec (motive:=fun _=>List Bool->BO) (fun _=>.dead) (fun v _ _ a c p=>List.rec (motive:=fun _=>BO) v (fun b p _=>Bool.rec (motive:=fun _=>BO) (c p) (a p) b) p) t
noncomputable def GI.f(p:List Bool):BO->GI->GI:=List.rec (motive:=fun _=>BO->GI->GI)
  (fun u t=>GI.rec (motive:=fun _=>GI) (.node u .leaf .leaf) (fun _ l r _ _=>.node u l r) t)
  (fun b _ a u t=>GI.rec (motive:=fun _=>GI)
   (Bool.rec (motive:=fun _=>GI) (.node .dead .leaf (a u .leaf)) (.node .dead (a u .leaf) .leaf) b)
   (fun v l r _ _=>Bool.rec (motive:=fun _=>GI) (.node v l (a u r)) (.node v (a u l) r) b) t) p
noncomputable def GI.b(t:GI)(k:Nat):BO:=t.e (OJ k)
noncomputable def GI.d(t:GI)(k:Nat)(u:BO):GI:=GI.f (OJ k) u t
structure AA where
 a:Nat
 b:Nat
 h:GI
noncomputable def AA.c(h:AA)(i:Nat):BO:=if i<h.a then h.h.b i else .dead
noncomputable def AA.d(h:AA)(o:BO):AA:={a:=h.a+1,b:=h.b,h:=h.h.d h.a o}
noncomputable def AA.e(h:AA)(i:Nat)(o:BO):AA:={a:=h.a,b:=h.b,h:=h.h.d i o}
def AA.f(h:AA)(f:Nat):AA:={a:=h.a,b:=f,h:=h.h}
def AA.g(h:AA):Prop:=h.a=h.a
inductive Tr where
 | leaf
 | node (v:Value) (l r:Tr)
noncomputable def Tr.f(t:Tr):List Bool->Value:=Tr.rec (motive:=fun _=>List Bool->Value) (fun _=>undef) (fun v _ _ a c p=>List.rec (motive:=fun _=>Value) v (fun b p _=>Bool.rec (motive:=fun _=>Value) (c p) (a p) b) p) t
noncomputable def Tr.h(p:List Bool):Value->Tr->Tr:=List.rec (motive:=fun _=>Value->Tr->Tr)
  (fun u t=>Tr.rec (motive:=fun _=>Tr) (.node u .leaf .leaf) (fun _ l r _ _=>.node u l r) t)
  (fun b _ a u t=>Tr.rec (motive:=fun _=>Tr)
   (Bool.rec (motive:=fun _=>Tr) (.node undef .leaf (a u .leaf)) (.node undef (a u .leaf) .leaf) b)
   (fun v l r _ _=>Bool.rec (motive:=fun _=>Tr) (.node v l (a u r)) (.node v (a u l) r) b) t) p
noncomputable def Tr.a(t:Tr)(k:Nat):Value:=t.f (OJ k)
noncomputable def Tr.g(t:Tr)(k:Nat)(u:Value):Tr:=Tr.h (OJ k) u t
noncomputable def Tr.c(t:Tr)(a:Option Tmp)(u:Value):Tr:=match a with|some d=>t.g d u|none=>t
noncomputable def ev(T:Tr):Operand->Value|.tmp t=>T.a t|.const v=>v|.global g=>.pointer (some ⟨g,0,none⟩)|.func f=>.func (.func f) #[] #[]
def BZ{b:Type}(P:Program):Sem b->Option b|.pure a=>some a|.program k=>BZ P (k P)|.mark _ k=>BZ P k|_=>none
def B7:Value->Bool
 |.bool _|.int _ _|.string _|.nilFunc|.nilIface|.pointer none|.map none|.slice none 0 0=>true|_=>false
def flat:Value->Bool|.agg a=>a.toList.all B7|v=>B7 v
def one:Value->Bool|.agg _|.tuple _=>false|_=>true
def BN(P:Program)(t:TypeId):Option Nat:=(P.info? t).map (·.size)
def HL(P:Program)(t:TypeId):Option Nat:=(P.info? t).map (·.bytes)
def DK(P:Program)(t:TypeId):Option Value:=match P.info? t with|some i=>i.zero|none=>none
def HC(P:Program)(t:TypeId):Option Bool:=match P.underlying t with|some (.struct _)|some (.array _ _)=>some true|some _=>some false|none=>none
def GN(cs:List Value)(off n:Nat):Option (List Value):=let l:=(cs.drop off).take n;if l.length=n then some l else none
noncomputable def EP(P:Program)(h:AA)(t:TypeId)(v:Value):Option Value:=match v with
 |.pointer (some ⟨c,a,none⟩)=>match h.c c with
  |.row b _ _ _=>match HC P t with
   |some true=>match BN P t with
    |some n=>match GN b a n with|some l=>some (.agg l.toArray)|none=>none
    |none=>none
   |some false=>b[a]?|none=>none
  |_=>none
 |_=>none
def lay(cs:List Value)(off:Nat)(new:List Value):List Value:=cs.take off++new++cs.drop (off+new.length)
noncomputable def HW(h:AA)(id off:Nat)(new:List Value):Option AA:=match h.c id with|.row a b g false=>if h.b<=id&&off+new.length<=a.length&&new.all one then some (h.e id (.row (lay a off new) b g false))else none|_=>none
noncomputable def BD(P:Program)(h:AA)(t:TypeId)(a v:Value):Option AA:=match a with|.pointer (some ⟨c,b,none⟩)=>if BN P t=some v.cells.size then HW h c b v.cells.toList else none|_=>none
def BW(P:Program)(t:TypeId)(x i:Value):Option Value:=match P.underlying t,x,i with
 |some (.slice e),.slice (some a) b _,.int _ n=>if 0<=n/\n<(b:Int)then match BN P e with|some s=>some (.pointer (some (a.add (n.toNat*s))))|none=>none else none|some (.array b e),.pointer (some a),.int _ n=>if 0<=n/\n<(b:Int)then match BN P e with|some s=>some (.pointer (some (a.add (n.toNat*s))))|none=>none else none|_,_,_=>none
def FI(x:Option Value)(a lo hi:Nat):Option Nat:=match x with|none=>some a|some (.int _ n)=>if(lo:Int)<=n/\n<=(hi:Int)then some n.toNat else none|_=>none
def xW(a:Option Addr)(len s:Nat)(lo hi c:Option Value):Option Value:=match(match hi,c with|some _,some _=>FI c 0 0 len|_,_=>none)with
 |some m=>match FI hi len 0 m with
  |some h=>match FI lo 0 0 h with
   |some l=>match a with
    |some ⟨d,b,none⟩=>if m=l then(if l=0 then some (.slice a 0 AT)else none)else some (.slice (some ⟨d,b+l*s,none⟩) (h-l) (m-l))|_=>none
   |none=>none
  |none=>none
 |none=>none
noncomputable def H9(P:Program)(i:AA)(t:TypeId)(x:Value)(lo hi d:Option Value):Option Value:=match P.underlying t,x with
 |some (.slice e),.slice a b c=>match BN P e with
  |some s=>if c=AT then match d,FI hi b 0 b with
    |none,some h=>match FI lo 0 0 h,a with
     |some l,some ⟨g,f,none⟩=>if l=0 then some (.slice a h AT)else match i.c g with|.row _ j _ false=>if BN P j=some s then some (.slice (some ⟨g,f+l*s,none⟩) (h-l) AT)else none|_=>none
     |_,_=>none
    |some _,_=>xW a b s lo hi d|_,_=>none else match(match d with|none=>some c|some _=>(match hi with|some _=>FI d 0 0 c|none=>none))with
    |some m=>match FI hi b 0 m with
     |some h=>match FI lo 0 0 h with
      |some l=>some (.slice (if m=l then a else a.map (·.add (l*s))) (h-l) (m-l))|none=>none
     |none=>none
    |none=>none
  |none=>none
 |some (.string),.string s=>if d.isSome then none else match FI hi s.size 0 s.size with
  |some h=>match FI lo 0 0 h with|some l=>some (.string (s.extract l h))|none=>none
  |none=>none
 |some (.array n e),.pointer (some a)=>if d.isSome||decide (281474976710656<n)then none else match FI hi n 0 n with
  |some h=>match FI lo 0 0 h with
   |some l=>match BN P e with|some s=>some (.slice (some (if n=l then a else a.add (l*s))) (h-l) (n-l))|none=>none
   |none=>none
  |none=>none
 |_,_=>none
def BC(P:Program)(s:TypeId)(x:Value)(f:Nat):Option Value:=match P.underlying s,x with
 |some (.struct c),.pointer (some a)=>match c[f]? with
  |some b=>match BN P b.type with
   |some 0=>none|some _=>some (.pointer (some (a.add b.offset)))|none=>none
  |none=>none
 |_,_=>none
def wY(P:Program)(s:TypeId)(x:Value)(f:Nat):Option Value:=match P.underlying s,x with
 |some (.struct c),.agg b=>match c[f]? with
  |some a=>match HC P a.type with
   |some true=>match BN P a.type with|some n=>some (.agg (b.extract a.offset (a.offset+n)))|none=>none
   |some false=>b[a.offset]?|none=>none
  |none=>none
 |_,_=>none
def HN(P:Program):List Field->Option (List (Nat×Nat))|[]=>some []|f::a=>match BN P f.type with
  |some n=>match HN P a with
   |some l=>some ((f.offset,n)::l)|none=>none
  |none=>none
def I6(a:Nat->Option (Nat×Nat))(cells:List Value):List (Nat×Value)->Option (List Value)
 |[]=>some cells|(i,v)::b=>match a i with|none=>none|some (c,d)=>if v.cells.size≠d||c+v.cells.size>cells.length then none else I6 a (lay cells c v.cells.toList) b
def CL(P:Program)(t:TypeId)(a:List (Nat×Value)):Option Value:=match DK P t with
 |some z=>if flat z then match P.underlying t with
   |some (.struct c)=>match HN P c.toList with
    |some d=>match I6 (fun i=>d[i]?) z.cells.toList a with
     |some b=>some (.agg b.toArray)|none=>none
    |none=>none
   |some (.array _ e)=>match BN P e with
    |some s=>match I6 (fun i=>some (i*s,s)) z.cells.toList a with
     |some b=>some (.agg b.toArray)|none=>none
    |none=>none
   |_=>none else none|none=>none
def CF(z:List Value):Nat->List Value|0=>[]|n+1=>z++CF z n
noncomputable def FP(P:Program)(h:AA)(t:TypeId)(len:Nat)(a:List (Nat×Value)):Option (Value×AA):=match P.underlying t with
 |some (.slice e)=>match BN P e,DK P e with|some s,some z=>if flat z&&z.cells.size==s&&decide (0<s)&&decide (len*s<=16777216)then match I6 (fun i=>some (i*s,s)) (CF z.cells.toList len) a with|some b=>some (.slice (some ⟨h.a,0,none⟩) len len,h.d (.row b e false false))|none=>none else none|_,_=>none
 |_=>none
noncomputable def J7(P:Program)(h:AA)(t:TypeId)(l c:Value):Option (Value×AA):=match P.underlying t,l,c with
 |some (.slice e),.int _ l,.int _ c=>match BN P e,DK P e,HL P e with
  |some s,some z,some a=>if flat z&&z.cells.size==s&&decide (0<s)&&decide (0<=l)&&decide (l<=c)&&decide ((a:Int)*c<=281474976710656)&&decide (c<=281474976710656)then some (.slice (some ⟨h.a,0,none⟩) l.toNat c.toNat,h.d (.row (CF z.cells.toList c.toNat) e false false))else none|_,_,_=>none
 |_,_,_=>none
noncomputable def EL(h:AA)(s n:Nat)(x:Value):Option (List Value):=match x with
 |.slice none _ _=>if n=0 then some []else none|.slice (some ⟨b,a,none⟩) _ _=>if n=0 then some []else match h.c b with
  |.row c _ _ _=>GN c a (n*s)|_=>none
 |_=>none
noncomputable def DR(P:Program)(h:AA)(t:TypeId)(j src:Value):Option (Value×AA):=match P.underlying t,j,src with
 |some (.slice e),.slice b a c,.slice l n m=>match BN P e,HL P e,DK P e with
  |some s,some g,some z=>if decide (0<s)&&z.cells.size==s&&decide (a<=c)then match EL h s n (.slice l n m)with
   |some d=>if d.all one then if c=AT then match b with
     |some ⟨k,i,none⟩=>if decide ((a+n)*g<=140737488355328)&&decide (a+n<=140737488355328)&&decide (h.b<=k)then if n=0 then some (j,h)else match h.c k with
       |.row o p true false=>if p=e then match GN o i (a*s)with
        |some f=>if f.all one then some (.slice (some ⟨h.a,0,none⟩) (a+n) AT,(h.e k .dead).d (.row (f++d) e true false))else none|none=>none else none|_=>none else none|_=>none else if a+n<=c then if n=0 then some (.slice b (a+n) c,h)else match b with
     |some ⟨k,i,none⟩=>match HW h k (i+a*s) d with
      |some q=>some (.slice b (a+n) c,q)|none=>none
     |_=>none else if decide ((a+n)*g<=140737488355328)&&decide (c*g<=140737488355328)&&decide (a+n<=140737488355328)&&decide (c<=140737488355328)then match EL h s a (.slice b a c)with|some f=>some (.slice (some ⟨h.a,0,none⟩) (a+n) AT,h.d (.row (f++d) e true false))|none=>none else none else none|none=>none else none|_,_,_=>none
 |_,_,_=>none
noncomputable def PP(P:Program)(h:AA)(t:TypeId)(b src:Value):Option (Value×AA):=match P.underlying t,b,src with
 |some (.slice e),.slice a c _,.slice g n i=>match BN P e with
  |some s=>let m:=min n c
   match EL h s m (.slice g n i)with
   |some d=>match a with
    |some ⟨j,f,none⟩=>if m=0 then some (.int .i64 m,h)else match HW h j f d with|some k=>some (.int .i64 m,k)|none=>none
    |none=>some (.int .i64 m,h)|_=>none
   |none=>none
  |none=>none
 |_,_,_=>none
noncomputable def XV(P:Program)(h:AA)(t:TypeId)(x:Value):Option (Value×AA):=match P.underlying t,x with
 |some (.slice e),.slice a b _=>match DK P e with
  |some z=>if b=0 then some (.tuple #[],h)else match a with|some ⟨d,c,none⟩=>if flat z&&decide (0<z.cells.size)then match HW h d c (CF z.cells.toList b)with|some f=>some (.tuple #[],f)|none=>none else none|_=>none
  |none=>none
 |_,_=>none
def M_:Value->Value->Option Bool|.int k a,.int c b=>if k=c then some (a==b)else none|.string a,.string b=>some (a==b)|_,_=>none
def NT(k:Value):List (Value×Value)->Option (Option Value)|[]=>some none|(x,v)::a=>match M_ k x with
  |some true=>some (some v)|some false=>NT k a|none=>none
def JU(k v:Value):List (Value×Value)->List (Value×Value)|[]=>[(k,v)]|(x,u)::a=>if M_ k x=some true then(k,v)::a else(x,u)::JU k v a
def QX(P:Program)(t:TypeId)(k:Value):Bool:=match P.underlying t,k with|some (.int _),.int _ _|some .string,.string _=>true|_,_=>false
noncomputable def VK(P:Program)(h:AA)(t:TypeId)(m k:Value)(ok:Bool):Option Value:=match P.underlying t with
 |some (.map b c)=>if QX P b k then match(match m with|.map none=>some []|.map (some d)=>(match h.c d with|.map a=>some a|_=>none)|_=>none)with
   |some a=>match NT k a with
    |some (some v)=>some (if ok then .tuple #[v,.bool true]else v)|some none=>match DK P c with
     |some z=>if flat z then some (if ok then .tuple #[z,.bool false]else z)else none|none=>none
    |none=>none
   |none=>none else none|_=>none
noncomputable def P7(P:Program)(h:AA)(t:TypeId)(m k v:Value):Option AA:=match P.underlying t,m with
 |some (.map c _),.map (some a)=>if QX P c k&&decide (h.b<=a)then match h.c a with
   |.map b=>match NT k b with|some _=>some (h.e a (.map (JU k v b)))|none=>none
   |_=>none else none|_,_=>none
noncomputable def CU(P:Program)(h:AA)(t:TypeId)(x:Value):Option Value:=match P.underlying t,x with
 |some .string,.string s=>some (.int .i64 s.size)|some (.slice _),.slice _ n _=>some (.int .i64 n)|some (.array n _),_=>some (.int .i64 n)|some (.map _ _),.map none=>some (.int .i64 0)|some (.map _ _),.map (some a)=>match h.c a with
  |.map b=>some (.int .i64 b.length)|_=>none
 |_,_=>none
def dD:List Value->Option Value|.int k x::c=>c.foldlM (fun a b=>match a,b with|.int k x,.int _ y=>some (.int k (if y>x then y else x))|_,_=>none) (.int k x)|_=>none
def cH:List Value->Option Value|.int k x::c=>c.foldlM (fun a b=>match a,b with|.int k x,.int _ y=>some (.int k (if y<x then y else x))|_,_=>none) (.int k x)|_=>none
def SN(P:Program)(d:TypeDesc)(a:TypeId)(x:Value):Option (Option Value):=match d,x with
 |.interface _,.nilIface=>some none|.interface b,.iface t v=>(match P.info? t with
  |some i=>(match Instr.missingMethod b i.methods with
   |none=>some (some (.iface t v))|some _=>some none)|none=>none)|_,.nilIface=>some none|_,.iface t v=>if t=a then some (some v)else some none|_,_=>none
def LH(P:Program)(x:Value)(a:TypeId)(ok:Bool):Option Value:=match P.underlying a with
 |none=>none|some d=>match SN P d a x with
  |some (some v)=>some (if ok then .tuple #[v,.bool true]else v)|some none=>if ok then(match DK P a with
   |some z=>if flat z then some (.tuple #[z,.bool false])else none|none=>none)else none|none=>none
def V_(P:Program)(t:TypeId)(v:Value)(a:String):Option (FuncId×Value):=match P.info? t with
 |some i=>match i.methods.find? (·.name==a)with
  |some m=>if m.path.isEmpty then(match m.func,P.underlying t with|some (f,true),some (.pointer _)=>some (f,v)|some (_,true),some _=>none|some (_,false),some (.pointer _)=>none|some (f,false),some _=>some (f,v)|_,_=>none)else none|none=>none
 |none=>none
def CT(P:Program)(c:BinOp)(t:TypeId)(x y:Operand)(a b:Value):Option Value:=if flat a&&flat b then match BZ P (do eqGuard c t x y a b;binOp c t a b)with|some u=>if flat u then some u else none|none=>none else match c,P.underlying t,a,b with
  |.eql,some (.pointer _),.pointer (some _),.pointer none|.eql,some (.pointer _),.pointer none,.pointer (some _)=>some (.bool false)|.neq,some (.pointer _),.pointer (some _),.pointer none|.neq,some (.pointer _),.pointer none,.pointer (some _)=>some (.bool true)|.eql,some (.slice _),.slice (some _) _ _,.slice none 0 0=>some (.bool false)|.neq,some (.slice _),.slice (some _) _ _,.slice none 0 0=>some (.bool true)|.eql,some (.interface _),.iface _ _,.nilIface|.eql,some (.interface _),.nilIface,.iface _ _=>some (.bool false)|.neq,some (.interface _),.iface _ _,.nilIface|.neq,some (.interface _),.nilIface,.iface _ _=>some (.bool true)|_,_,_,_=>none
def fL:List Value->Option (List UInt8)
 |[]=>some []|.int .u8 n::r=>match fL r with|some l=>some (UInt8.ofNat n.toNat::l)|none=>none
 |_=>none
noncomputable def ZY(P:Program)(h:AA)(src b:TypeId)(x:Value):Option Value:=match P.underlying src,P.underlying b,x with
 |some _,some (.int k),.int _ n=>some (.int k (k.wrap n))|some _,some .string,.string s=>some (.string s)|some (.slice e),some .string,.slice a n c=>match P.underlying e with
  |some (.int .u8)=>match EL h 1 n (.slice a n c)with
   |some d=>match fL d with
    |some l=>some (.string ⟨l.toArray⟩)|none=>none
   |none=>none
  |_=>none
 |_,_,_=>none
inductive FJ where
 | normal | exit (id:Nat) | ret
 deriving DecidableEq
structure St where
 T:Tr
 h:AA
abbrev AY:=FuncId->List Value->AA->Option (Value×AA)
noncomputable def evs(T:Tr)(l:Array Operand):List Value:=l.toList.map (ev T)
noncomputable def RW(P:Program)(call:AY)(T:Tr)(h:AA)(c:Call):Option (Value×AA):=match c.callee with
 |.builtin .len=>match c.argTypes.toList,evs T c.args with
  |[t],[x]=>(CU P h t x).map (.,h)|_,_=>none
 |.builtin .append=>match c.argTypes.toList,evs T c.args with
  |[t,e],[d,s]=>if t=e then DR P h t d s else none|_,_=>none
 |.builtin .copy=>match c.argTypes.toList,evs T c.args with
  |[t,e],[d,s]=>if t=e then PP P h t d s else none|_,_=>none
 |.builtin .clear=>match c.argTypes.toList,evs T c.args with
  |[t],[x]=>XV P h t x|_,_=>none
 |.builtin .max=>(dD (evs T c.args)).map (.,h)|.builtin .min=>(cH (evs T c.args)).map (.,h)|.value f=>match ev T f with|.func (.func k) b a=>call k (b.toList++evs T c.args++a.toList) h|_=>none
 |.invoke r m=>match ev T r with
  |.iface t v=>match V_ P t v m with
   |some (k,g)=>call k (g::evs T c.args) h|none=>none
  |_=>none
 |_=>none
noncomputable def A_(P:Program)(call:AY)(T:Tr)(h:AA):Op->Option (Value×AA)
 |.move x=>some (ev T x,h)|.assign x=>some (ev T x,h)|.pick c a b=>match ev T c with|.bool t=>some (if t then ev T a else ev T b,h)|_=>none
 |.alloc e=>match DK P e with
  |some z=>if flat z then some (.pointer (some ⟨h.a,0,none⟩),h.d (.row z.cells.toList e false false))else none|none=>none
 |.box e v=>if(ev T v).cells.toList.all one then match BN P e with|some _=>some (.pointer (some ⟨h.a,0,none⟩),h.d (.row (ev T v).cells.toList e false false))|none=>none else none|.build t g=>(CL P t (g.toList.map fun(i,x)=>(i,ev T x))).map (.,h)|.buildSlice t o g=>FP P h t o (g.toList.map fun(i,x)=>(i,ev T x))|.load t a=>(EP P h t (ev T a)).map (.,h)|.store t a v=>(BD P h t (ev T a) (ev T v)).map (undef,.)|.nilCheck x=>match ev T x with|.pointer (some a)=>some (.pointer (some a),h)|.func (.func k) j d=>some (.func (.func k) j d,h)|_=>none
 |.binOp p t x y _=>(CT P p t x y (ev T x) (ev T y)).map (.,h)|.unOp p _ x=>if flat (ev T x)then match BZ P (Op.unary p (ev T x))with|some u=>if flat u then some (u,h)else none|none=>none else none|.convert q r x=>(ZY P h q r (ev T x)).map (.,h)|.makeFunc A j d=>some (.func A (j.map (ev T)) (d.map (ev T)),h)|.makeInterface t x=>match P.underlying t with|some (.interface _)=>none|some _=>some (.iface t (ev T x),h)|none=>none
 |.typeAssert x _ n w=>(LH P (ev T x) n w).map (.,h)|.makeMap _ none=>some (.map (some h.a),h.d (.map []))|.makeSlice t l c=>J7 P h t (ev T l) (ev T c)|.slice t x B C D=>(H9 P h t (ev T x) (B.map (ev T)) (C.map (ev T)) (D.map (ev T))).map (.,h)|.fieldAddr s x f=>(BC P s (ev T x) f).map (.,h)|.field s x f=>(wY P s (ev T x) f).map (.,h)|.indexAddr t x i=>(BW P t (ev T x) (ev T i)).map (.,h)|.index t x i=>if flat (ev T x)&&flat (ev T i)then match BZ P (Instr.index t (ev T x) (ev T i))with|some u=>if flat u then some (u,h)else none|none=>none else none|.lookup t m k w=>(VK P h t (ev T m) (ev T k) w).map (.,h)|.mapUpdate t m k v=>(P7 P h t (ev T m) (ev T k) (ev T v)).map (undef,.)|.insert t m k v=>(P7 P h t (ev T m) (ev T k) (ev T v)).map (undef,.)|.extract t i=>match ev T t with|.tuple E=>(E[i]?).map (.,h)|_=>none
 |.call c=>RW P call T h c|_=>none
noncomputable def FT(ops:Array Oper)(T:Tr)(o:Oper):Bool:=match o.guard with
 |none=>true|some (j,a)=>match(ops[j]?).bind (·.dst)with
  |some d=>(match T.a d with|.bool b=>b==a|_=>false)|none=>false
noncomputable def HK(P:Program)(call:AY)(ops:Array Oper)(o:Oper)(s:St):Option St:=if FT ops s.T o then match A_ P call s.T s.h o.op with|some (v,a)=>some ⟨s.T.c o.dst v,a⟩|none=>none else some ⟨s.T.c o.dst undef,s.h⟩
noncomputable def NV(P:Program)(call:AY)(ops:Array Oper):List Oper->St->Option St|[],s=>some s|o::a,s=>match HK P call ops o s with|some b=>NV P call ops a b|none=>none
inductive W_ where
 | pure | read (a:Operand) | new | act | store
def AB:Op->W_
 |.load _ a=>.read a|.lookup _ m _ _=>.read m|.alloc _|.box _ _|.makeMap _ _|.makeSlice _ _ _|.buildSlice _ _ _=>.new|.store _ _ _=>.store|.mapUpdate _ _ _ _=>.store|.insert _ _ _ _=>.store|.convert _ _ x=>.read x|.slice _ x _ _ _=>.read x|.call c=>match c.callee with
  |.builtin .len|.builtin .max|.builtin .min=>.pure|_=>.act
 |_=>.pure
def DP:Value->Option Nat|.pointer (some a)=>some a.block|.map (some i)=>some i|.slice (some a) _ _=>some a.block|_=>none
def LY(b:Array Nat)(i j:Nat):Bool:=i !=j&&!(b.getD i 0).testBit j&&!(b.getD j 0).testBit i
def XD(o:Oper):Bool:=match AB o.op with|.read _=>true|_=>false
def GJ(o:Oper):Bool:=match AB o.op with|.act=>true|_=>false
def NM(o:Oper):Bool:=match AB o.op with|.new=>true|_=>false
def HB(o:Oper):Bool:=match AB o.op with|.store=>true|_=>false
def RN(ops:Array Oper)(k:Nat):Bool:=let b:=Region.before ops
 ops.toList.zipIdx.any fun(o,i)=>(GJ o||(NM o&&decide (i<k)))&&LY b i k
def RZ(ops:Array Oper)(k:Nat):Bool:=let b:=Region.before ops
 ops.toList.zipIdx.any fun(o,i)=>XD o&&LY b i k
def J0(ops:Array Oper)(k:Nat):List Operand:=let b:=Region.before ops
 ops.toList.zipIdx.filterMap fun(o,i)=>match AB o.op with|.read a=>if i<k&&LY b i k then some a else none|_=>none
def SP(ops:Array Oper)(j:Nat):Bool:=let b:=Region.before ops
 (List.range ops.size).all fun i=>match ops[i]? with
  |none=>true|some c=>match AB c.op with
   |.read a=>!(LY b i j)||(decide (i<j)&&(List.range ops.size).all (fun k=>!(decide (i<=k)&&decide (k<j))||(match ops[k]? with|some e=>(match e.dst,a with|some d,.tmp t=>d !=t|_,_=>true)|none=>true)))|_=>true
def OX:BO->Bool|.row _ _ _ _=>true|_=>false
def XJ:BO->BO|.row a b g _=>.row a b g true|o=>o
noncomputable def LS(h:AA)(id:Nat):AA:=h.e id (XJ (h.c id))
noncomputable def OW:List Nat->AA->AA|[],h=>h|a::l,h=>OW l (LS h a)
noncomputable def MM(h:AA):List Nat->AA->AA|[],a=>a|b::l,a=>(MM (LS h b) l a).e b (h.c b)
def ahead(a:Nat):Option Nat->Bool|some b=>decide (b<a)|none=>true
noncomputable def lO(P:Program)(call:AY)(ops:Array Oper)(i:Nat)(o:Oper)(s:St):Option St:=if SP ops i&&((J0 ops i).filterMap fun x=>DP (ev s.T x)).all (fun a=>decide (a<s.h.a)&&OX (s.h.c a))then match HK P call ops o ⟨s.T,OW ((J0 ops i).filterMap fun x=>DP (ev s.T x)) s.h⟩with
  |some b=>some ⟨b.T,MM s.h ((J0 ops i).filterMap fun x=>DP (ev s.T x)) b.h⟩|none=>none else none
noncomputable def UP(P:Program)(call:AY)(ops:Array Oper)(b i:Nat)(o:Oper)(s:St):Option St:=if FT ops s.T o then match AB o.op with
  |.read a=>if RN ops i&&!ahead b (DP (ev s.T a))then none else HK P call ops o s|.act=>if RZ ops i then match HK P call ops o ⟨s.T,s.h.f (max s.h.b b)⟩with
    |some d=>some ⟨d.T,d.h.f s.h.b⟩|none=>lO P call ops i o s else HK P call ops o s|.store=>match o.op with
   |.store _ a _=>if(J0 ops i).all (fun x=>DP (ev s.T x)!=DP (ev s.T a))then HK P call ops o s else none|.insert _ m _ _=>if(J0 ops i).all (fun x=>DP (ev s.T x)!=DP (ev s.T m))then HK P call ops o s else none|.mapUpdate _ m _ _=>if(J0 ops i).all (fun x=>DP (ev s.T x)!=DP (ev s.T m))then HK P call ops o s else none|_=>none
  |.pure=>match o.op with
   |.call c=>(match c.args.toList.map (ev s.T)with|[.map _]=>none|_=>HK P call ops o s)|_=>HK P call ops o s
  |.new=>HK P call ops o s else some ⟨s.T.c o.dst undef,s.h⟩
noncomputable def OM(P:Program)(call:AY)(ops:Array Oper)(a:Nat):Nat->List Oper->St->Option St
 |_,[],s=>some s|i,o::b,s=>match UP P call ops a i o s with
  |some c=>OM P call ops a (i+1) b c|none=>none
def PD(f:St->Option (FJ×St)):Nat->St->Option (FJ×St)|0,_=>none|n+1,s=>match f s with|some (.normal,a)=>PD f n a|r=>r
noncomputable def D4(P:Program)(call:AY)(n:Nat):Code->St->Option (FJ×St)
 |.skip,s=>some (.normal,s)|.region _ d e,s=>if e then(OM P call d s.h.a 0 d.toList s).map (.normal,.)else(NV P call d d.toList s).map (.normal,.)|.seq a b,s=>match D4 P call n a s with|some (.normal,f)=>D4 P call n b f|r=>r
 |.cond c a b,s=>match ev s.T c with
  |.bool true=>D4 P call n a s|.bool false=>D4 P call n b s|_=>none
 |.block g c,s=>match D4 P call n c s with
  |some (.exit i,f)=>if i=g then some (.normal,f)else some (.exit i,f)|r=>r
 |.loop c,s=>PD (D4 P call n c) n s|.exit g,s=>some (.exit g,s)|.ret,s=>some (.ret,s)|_,_=>none
noncomputable def F5(P:Program)(s:St):List ResultVar->Option (List Value)
 |[]=>some []|.tmp t::r=>match F5 P s r with|some l=>some (s.T.a t::l)|none=>none
 |.cell a t::r=>match EP P s.h t (s.T.a a),F5 P s r with|some v,some l=>some (v::l)|_,_=>none
noncomputable def JX:Nat->List Value->Tr->Tr|_,[],T=>T|i,v::a,T=>JX (i+1) a (T.g i v)
end Go.Sx
namespace Go.Sx
open Go
inductive BQ {α β:Type} (R:α->β->Prop):List α->List β->Prop
 | nil:BQ R [] []
 | cons {a b l m}:R a b->BQ R l m->BQ R (a :: l) (b :: m)
namespace BQ
variable {α β:Type} {R S:α->β->Prop}
theorem Z6{l:List α}{m:List β}(h:BQ R l m):l.length=m.length:=by induction h with|nil=>rfl|cons _ _ a=>simp[a]
theorem Y9{l:List α}{m:List β}(c:∀a b,R a b->S a b)(h:BQ R l m):BQ S l m:=by induction h with
 |nil=>exact .nil|cons h _ d=>exact .cons (c _ _ h) d
theorem ZC{l a:List α}{m b:List β}(h:BQ R l m)(h':BQ R a b):BQ R (l++a) (m++b):=by induction h with
 |nil=>exact h'|cons h _ c=>exact .cons h c
theorem Zz{l:List α}{m:List β}(h:BQ R l m){i:Nat}{a:α}(c:l[i]?=some a):∃b,m[i]?=some b/\R a b:=by induction h generalizing i with|nil=>grind|cons h _ d=>grind
theorem YK{l:List α}{m:List β}(h:BQ R l m){i:Nat}{b:β}(c:m[i]?=some b):∃a,l[i]?=some a/\R a b:=by induction h generalizing i with|nil=>grind|cons h _ d=>grind
theorem Zi{l:List α}{m:List β}(d:l.length=m.length)(h:∀(i:Nat)(a:α)(b:β),l[i]?=some a->m[i]?=some b->R a b):BQ R l m:=by induction l generalizing m with
 |nil=>cases m with
  |nil=>exact .nil|cons _ _=>grind
 |cons a l c=>cases m with
  |nil=>grind|cons b m=>exact .cons (h 0 a b rfl rfl) (c (by grind) fun i x y e f=>h (i+1) x y (by assumption) (by assumption))
theorem Y6{l:List α}{m:List β}(h:BQ R l m)(n:Nat):BQ R (l.drop n) (m.drop n):=Zi (by simp[h.Z6]) fun i a b c d=>by rw[jg]at c d;obtain⟨f,e,r⟩:=h.Zz c;grind
theorem Y1{l:List α}{m:List β}(h:BQ R l m)(n:Nat):BQ R (l.take n) (m.take n):=by induction h generalizing n with|nil=>simpa using BQ.nil|cons h _ a=>cases n with|zero=>simpa using BQ.nil|succ n=>simpa using BQ.cons h (a n)
theorem Zt{l:List α}{R:α->α->Prop}(h:∀a∈l,R a a):BQ R l l:=by induction l with
 |nil=>exact .nil|cons a l c=>exact .cons (h a (by simp)) (c fun b d=>h b (by simp[d]))
theorem YB{l:List α}{m:List β}(h:BQ R l m){i:Nat}{a:α}{b:β}(c:R a b):BQ R (l.set i a) (m.set i b):=by induction h generalizing i with
 |nil=>exact .nil|cons h d e=>cases i with
  |zero=>exact .cons c d|succ i=>exact .cons h (e (i:=i))
end BQ
abbrev B8:=Nat->Option Loc
inductive AR (ρ:B8):Value->Value->Prop
 | flat {v}:B7 v=true->AR ρ v v
 | ptr {id off L}:ρ id=some L->AR ρ (.pointer (some ⟨id,off,none⟩)) (.pointer (some ⟨L.b,L.d+off,none⟩))
 | slice {id off L n c}:ρ id=some L->c<AT->AR ρ (.slice (some ⟨id,off,none⟩) n c) (.slice (some ⟨L.b,L.d+off,none⟩) n c)
 | sliceU {id off L n c a}:ρ id=some L->n<=c->c<AT->((c=0\/(n=0/\L.z=0))\/(a=⟨L.b,L.d+off,none⟩/\off+c*L.z=L.e))->AR ρ (.slice (some ⟨id,off,none⟩) n AT) (.slice (some a) n c)
 | map {id L}:ρ id=some L->AR ρ (.map (some id)) (.map (some L.b))
 | func {fn f f' c c'}:BQ (AR ρ) f.toList f'.toList->BQ (AR ρ) c.toList c'.toList->AR ρ (.func fn f c) (.func fn f' c')
 | iface {t v v'}:AR ρ v v'->AR ρ (.iface t v) (.iface t v')
 | agg {cs cs'}:BQ (AR ρ) cs.toList cs'.toList->AR ρ (.agg cs) (.agg cs')
 | tuple {cs cs'}:BQ (AR ρ) cs.toList cs'.toList->AR ρ (.tuple cs) (.tuple cs')
theorem AR.a{r d:B8}(j:∀i L,r i=some L->d i=some L){v V:Value}(h:AR r v V):AR d v V:=by
 refine AR.rec (motive_1:=fun v V _=>AR d v V) (motive_2:=fun l m _=>BQ (AR d) l m) ?_ ?_ ?_ ?_ ?_ ?_ ?_ ?_ ?_ ?_ ?_ h;.intro v s;exact .flat s
 .intro k g L e;exact .ptr (j _ _ e)
 .intro k g L n c e u;exact .slice (j _ _ e) u
 .intro k g L n c a e w x y;exact .sliceU (j _ _ e) w x y
 .intro k L e;exact .map (j _ _ e)
 .intro A f B c C _ _ o p;exact .func o p
 .intro t v D _ h;exact .iface h
 .intro z q _ h;exact .agg h
 .intro z q _ h;exact .tuple h
 .exact .nil
 .intro a b l m _ _ o p;exact .cons o p
theorem MF{b:B8}{v V:Value}(a:B7 v=true)(h:AR b v V):V=v:=by cases h with|flat _=>rfl|sliceU _ _ _ _=>simp[B7]at a|_=>simp[B7]at a
theorem Bt{b:B8}{l m:List Value}(h:BQ (AR b) l m)(a:l.all B7=true):m=l:=by induction h with|nil=>rfl|cons h _ c=>simp at a;rw[MF a.1 h,c (by grind)]
theorem SM{b:B8}{v V:Value}(a:flat v=true)(h:AR b v V):V=v:=by cases h with
 |agg h=>simp only[flat]at a;have:=Bt h a;simp_all|flat c=>rfl|_=>first|rfl|simp[flat,B7]at a
theorem NZ{c:B8}{v:Value}(b:flat v=true):AR c v v:=by
 unfold flat at b;split at b
 .rename_i d;refine .agg (BQ.Zt fun a e=>.flat ?_);grind
 .exact .flat b
theorem R2{a:B8}:AR a undef undef:=.tuple .nil
theorem f_{b:B8}{v V:Value}(h:AR b v V):BQ (AR b) v.cells.toList V.cells.toList:=by cases h with
 |agg h=>exact h|flat c=>
  have:v.cells=#[v]:=by cases v<;>simp[B7]at c<;>rfl
  rw[this];exact .cons (.flat c) .nil|ptr h=>exact .cons (.ptr h) .nil|slice h a=>exact .cons (.slice h a) .nil|sliceU h d e f=>exact .cons (.sliceU h d e f) .nil|map h=>exact .cons (.map h) .nil|func h a=>exact .cons (.func h a) .nil|iface h=>exact .cons (.iface h) .nil|tuple h=>exact .cons (.tuple h) .nil
theorem Hz{a:B8}{v V:Value}(h:AR a v V):one V=one v:=by cases h<;>rfl
theorem UH{a:B8}{b:Bool}{V:Value}(h:AR a (.bool b) V):V=.bool b:=MF rfl h
theorem P_{a:B8}{k:IntKind}{n:Int}{V:Value}(h:AR a (.int k n) V):V=.int k n:=MF rfl h
theorem Y2{a:B8}{s:ByteArray}{V:Value}(h:AR a (.string s) V):V=.string s:=MF rfl h
theorem tQ{a:B8}{id off:Nat}{V:Value}(h:AR a (.pointer (some ⟨id,off,none⟩)) V):∃L,a id=some L/\V=.pointer (some ⟨L.b,L.d+off,none⟩):=by cases h with|flat h=>simp[B7]at h|ptr h=>grind
theorem WV{b:B8}{a:Addr}{V:Value}(h:AR b (.pointer (some a)) V):∃L,b a.block=some L/\a.spot=none/\V=.pointer (some ⟨L.b,L.d+a.off,none⟩):=by cases h with|flat h=>simp[B7]at h|ptr h=>grind
theorem qU{a:B8}{id:Nat}{V:Value}(h:AR a (.map (some id)) V):∃L,a id=some L/\V=.map (some L.b):=by cases h with|flat h=>simp[B7]at h|map h=>grind
theorem jt{b:B8}{cs:Array Value}{V:Value}(h:AR b (.agg cs) V):∃a,V=.agg a/\BQ (AR b) cs.toList a.toList:=by cases h with|flat h=>simp[B7]at h|agg h=>grind
theorem ju{b:B8}{cs:Array Value}{V:Value}(h:AR b (.tuple cs) V):∃a,V=.tuple a/\BQ (AR b) cs.toList a.toList:=by cases h with|flat h=>simp[B7]at h|tuple h=>grind
theorem aY{a:B8}{b:Fn}{f c:Array Value}{V:Value}(h:AR a (.func b f c) V):∃d e,V=.func b d e/\BQ (AR a) f.toList d.toList/\BQ (AR a) c.toList e.toList:=by cases h with|flat h=>simp[B7]at h|func h g=>grind
theorem Ch:∀(n m k:Nat),k<=n->k<=m->UI n k=UI m k:=by intro n;induction n with
 |zero=>
  intro m k a b;obtain rfl:k=0:=by omega
  cases m<;>simp[UI]|succ n c=>intro m k a b;cases m with|zero=>grind|succ m=>simp only[UI];grind
theorem Br(k:Nat):OJ k=if k=0 then[]else if k%2=1 then true::OJ (k/2)else false::OJ (k/2-1):=by
 unfold OJ;cases k with
 |zero=>rfl|succ k=>simp only[UI,Nat.add_one_ne_zero,bi];rw[Ch k ((k+1)/2) ((k+1)/2) (by omega) (by omega),Ch k ((k+1)/2-1) ((k+1)/2-1) (by omega) (by omega)]
theorem Lf:∀{k j:Nat},OJ k=OJ j->k=j:=by intro k;induction k using Nat.strongRecOn with|ind k a=>intro j h;rw[Br k,Br j]at h;grind
theorem GI.c(p:List Bool):∀(q:List Bool)(t:GI)(u:BO),(GI.f p u t).e q=if q=p then u else t.e q:=by induction p with
 |nil=>intro q t u;cases q with
  |nil=>cases t<;>rfl|cons c q=>cases t<;>cases c<;>rfl
 |cons b p a=>
  intro q t u;cases q with
  |nil=>cases t<;>cases b<;>rfl|cons c q=>have d:=fun t=>a q t u;cases t<;>cases b<;>cases c<;>first|rfl|(refine(d _).trans ?_;by_cases e:q=p<;>simp[e]<;>rfl)
theorem GI.a(t:GI)(k j:Nat)(u:BO):(t.d k u).b j=if j=k then u else t.b j:=by
 unfold GI.b GI.d;rw[GI.c];by_cases e:j=k;.grind
 .rw[ad e,ad (fun h=>e (Lf h))]
section
variable {h:AA} {o:BO} {i j:Nat}
theorem NJ(hi:h.a<=i):h.c i=.dead:=by unfold AA.c;grind
theorem BJ:(h.d o).c h.a=o:=by unfold AA.c AA.d;simp[GI.a]
theorem AV(hi:i<h.a:=by omega):(h.d o).c i=h.c i:=by unfold AA.c AA.d;simp only[hi,ai];rw[ag (by omega),GI.a,ad (by omega)]
theorem UF(a:i≠h.a):(h.d o).c i=h.c i:=by
 rcases jh a with b|b;.exact AV b
 .rw[NJ (h:=h) (by omega),NJ (h:=h.d o) (by assumption)]
theorem BE(_hl:h.g)(hi:i<h.a):(h.e i o).c i=o:=by unfold AA.c AA.e;simp only[hi,ai];rw[GI.a,ag rfl]
theorem AP(_hi:i<h.a)(a:i≠j):(h.e i o).c j=h.c j:=by
 unfold AA.c AA.e;simp only;by_cases b:j<h.a
 .simp only[b,ai];rw[GI.a,ad (by omega)]
 grind
theorem vV(_hl:h.g):(h.d o).g:=rfl
theorem XR(_hl:h.g):(h.e i o).g:=rfl
theorem sL(b:h.c i≠.dead):i<h.a:=by
 rcases ar i h.a with a|a;.exact a
 .exact absurd (NJ a) b
end
theorem Tr.e(p:List Bool):∀(q:List Bool)(t:Tr)(u:Value),(Tr.h p u t).f q=if q=p then u else t.f q:=by induction p with
 |nil=>intro q t u;cases q with
  |nil=>cases t<;>rfl|cons c q=>cases t<;>cases c<;>rfl
 |cons b p a=>
  intro q t u;cases q with
  |nil=>cases t<;>cases b<;>rfl|cons c q=>have d:=fun t=>a q t u;cases t<;>cases b<;>cases c<;>first|rfl|(refine(d _).trans ?_;by_cases e:q=p<;>simp[e]<;>rfl)
theorem Tr.d(t:Tr)(k j:Nat)(u:Value):(t.g k u).a j=if j=k then u else t.a j:=by
 unfold Tr.a Tr.g;rw[Tr.e];by_cases e:j=k;.grind
 .rw[ad e,ad (fun h=>e (Lf h))]
def live:BO->Prop|.dead=>False|_=>True
def wr:BO->Prop|.row _ _ _ a=>a=false|.map _=>True|.dead=>False
theorem wr.a{o:BO}(h:wr o):live o:=by cases o<;>simp_all[wr,Sx.live]
def JB(P:Program)(a:B8)(W:World)(i:Nat):BO->Prop
 |.dead=>True|.row j f _ l=>∃L c b g,a i=some L/\W.heap[L.b]?=some (.cells c b g)/\(∀(k:Nat)(v:Value),j[k]?=some v->∃V,c[L.d+k]?=some V/\AR a v V)/\(l=false->g=(0,0)/\b=f/\L.d+L.e=c.size/\BN P f=some L.z)|.map m=>∃L h d,a i=some L/\W.heap[L.b]?=some (.map h d)/\BQ (fun e E=>AR a e.1 E.key/\AR a e.2 E.val) m h.toList
structure CV (P:Program) (ρ:B8) (h:AA) (W:World):Prop where
 f:h.g
 d:∀ i,h.a<=i->ρ i=none
 b:∀ g,g<P.globals.size->∃ L,ρ g=some L/\L.b=g/\L.d=0
 a:∀ i,JB P ρ W i (h.c i)
 c:∀ i j L L',wr (h.c i)->live (h.c j)->i≠j->ρ i=some L->ρ j=some L'->L.b≠L'.b
structure Fr (ρ:B8) (h:AA) (W W':World):Prop where
 f:W'.os=W.os
 d:W'.tape=W.tape
 a:W'.output=W.output
 c:W.heap.size<=W'.heap.size
 e:∀ b,b<W.heap.size->(∀ i L,wr (h.c i)->h.b<=i->ρ i=some L->L.b≠b)->W'.heap[b]?=W.heap[b]?
structure Nx (P:Program) (ρ:B8) (h:AA) (W:World) (ρ':B8) (h':AA) (W':World):Prop where
 e:∀ i L,ρ i=some L->ρ' i=some L
 f:∀ i,i<h.a->ρ' i=ρ i
 b:CV P ρ' h' W'
 c:Fr ρ h W W'
 o:h.a<=h'.a
 g:h'.b=h.b
 m:∀ i,i<h.a->i<h.b->h'.c i=h.c i
 n:∀ i,i<h.a->wr (h'.c i)->wr (h.c i)
 k:∀ i,i<h.a->live (h'.c i)->live (h.c i)
 l:∀ i L,h.a<=i->live (h'.c i)->ρ' i=some L->W.heap.size<=L.b\/∃ j L0,wr (h.c j)/\h.b<=j/\ρ j=some L0/\L0.b=L.b
theorem JB.b{P:Program}{a:B8}{W:World}{i:Nat}{o:BO}(h:JB P a W i o)(b:live o):∃L,a i=some L/\L.b<W.heap.size:=by cases o with
 |dead=>exact b.elim|row j k g l=>obtain⟨L,m,c,n,d,e,_⟩:=h;grind|map p=>obtain⟨L,q,f,d,e,_⟩:=h;grind
theorem JB.a{P:Program}{f c:B8}{W W':World}{i:Nat}{o:BO}(d:∀i L,f i=some L->c i=some L)(p:∀L,f i=some L->live o->W'.heap[L.b]?=W.heap[L.b]?)(h:JB P f W i o):JB P c W' i o:=by cases o with
 |dead=>trivial|row y z g A=>obtain⟨L,q,j,r,e,l,m,s⟩:=h;exact⟨L,q,j,r,d _ _ e,(p L e cj).trans l,fun k v t=>let⟨V,u,w⟩:=m k v t;⟨V,u,w.a d⟩,s⟩|map B=>obtain⟨L,x,n,e,l,m⟩:=h;exact⟨L,x,n,d _ _ e,(p L e cj).trans l,m.Y9 fun a b h=>⟨h.1.a d,h.2.a d⟩⟩
theorem Fr.b(a:B8)(h:AA)(W:World):Fr a h W W:=⟨rfl,rfl,rfl,af _,fun _ _ _=>rfl⟩
theorem Nx.a{P:Program}{a:B8}{h:AA}{W:World}(c:CV P a h W):Nx P a h W a h W:=⟨fun _ _ h=>h,fun _ _=>rfl,c,Fr.b _ _ _,af _,rfl,fun _ _ _=>rfl,fun _ _ h=>h,fun _ _ h=>h,fun i L d b _=>by rw[NJ d]at b;exact b.elim⟩
theorem Nx.d{P:Program}{s g f:B8}{h h' n:AA}{W W' o:World}(w:CV P s h W)(a:Nx P s h W g h' W')(b:Nx P g h' W' f n o):Nx P s h W f n o:=by
 have x:∀i L,wr (h'.c i)->h'.b<=i->g i=some L->W.heap.size<=L.b\/∃j l,wr (h.c j)/\h.b<=j/\s j=some l/\l.b=L.b:=by
  intro i L e t p;rcases ar i h.a with c|c
  .have q:=a.n i c e;obtain⟨l,d,_⟩:=(w.a i).b q.a;have:=a.e i l d;rw[p]at this;cases this;exact .inr ⟨i,L,q,by rw[<-a.g];exact t,d,rfl⟩
  .exact a.l i L c e.a p
 refine⟨fun i L c=>b.e _ _ (a.e _ _ c),fun i c=>(b.f i (cf c a.o)).trans (a.f i c),b.b,⟨b.c.f.trans a.c.f,b.c.d.trans a.c.d,b.c.a.trans a.c.a,dj a.c.c b.c.c,?_⟩,dj a.o b.o,b.g.trans a.g,?_,?_,?_,?_⟩
 .intro k v u;rw[b.c.e k (cf v a.c.c) ?_,a.c.e k v u];grind
 .intro i c t;rw[b.m i (cf c a.o) (by rw[a.g];exact t),a.m i c t]
 .intro i c e;exact a.n i c (b.n i (cf c a.o) e)
 .intro i c e;exact a.k i c (b.k i (cf c a.o) e)
 .intro i L c e p;rcases ar i h'.a with m|m
  .have r:=b.k i m e;obtain⟨l,d,_⟩:=(a.b.a i).b r;have:=b.e i l d;rw[p]at this;cases this;exact a.l i L c r d
  .rcases b.l i L m e p with y|⟨j,l,z,A,B,C⟩;.exact .inl (dj a.c.c y)
   grind
end Go.Sx




