/- Part 11. -/
import Derived.Test.YtjailoenloejbaaGreatDoorDV10
import Derived.Laws.Bits64b
import Derived.Lib.Mul64
import Derived.Test.YtjailoenloejbaaGreatDoorProg
set_option linter.all false
namespace Go.Sx
open Go
set_option maxHeartbeats 0
inductive DH where
 | top (Q:FJ->St->Prop)
 | seq (b:Code) (k:DH)
 | block (id:Nat) (k:DH)
 | inv (J:St->Prop) (k:DH)
def DH.a(P:Program)(call:AY)(n:Nat):DH->FJ->St->Prop
 |.top Q,e,s=>Q e s|.seq b k,.normal,s=>WS P call n b s (k.a P call n)|.seq _ k,e,s=>k.a P call n e s|.block a k,.exit i,s=>if i=a then k.a P call n .normal s else k.a P call n (.exit i) s|.block _ k,e,s=>k.a P call n e s|.inv J _,.normal,s=>J s|.inv _ k,e,s=>k.a P call n e s
def WK(P:Program)(call:AY)(n:Nat)(c:Code)(s:St)(k:DH):Prop:=WS P call n c s (k.a P call n)
def QJ(P:Program)(call:AY)(n:Nat)(ops:Array Oper)(l:List Oper)(s:St)(k:DH):Prop:=WL P call ops l s (k.a P call n .normal)
def U3(P:Program)(call:AY)(n:Nat)(ops:Array Oper)(l:List Oper)(a:Option Tmp)(T:Tr)(k:DH):Option (Value×AA)->Prop
 |some (v,h)=>QJ P call n ops l ⟨T.c a v,h⟩ k|none=>False
def kR(P:Program)(call:AY)(n:Nat)(ops:Array Oper)(l:List Oper)(a:Option Tmp)(T:Tr)(h:AA)(k:DH):Option Value->Prop|some v=>QJ P call n ops l ⟨T.c a v,h⟩ k|none=>False
def Dh(P:Program)(call:AY)(n:Nat)(a b:Code)(s:St)(k:DH):Value->Prop|.bool t=>(t=true->WK P call n a s k)/\(t=false->WK P call n b s k)|_=>False
section
variable {P:Program} {call:AY} {n:Nat} {s:St} {k:DH} {Q:FJ->St->Prop}
theorem Em{e:FJ}:(DH.top Q).a P call n e s=Q e s:=rfl
theorem aI{b:Code}:(DH.seq b k).a P call n .normal s=WK P call n b s k:=rfl
theorem Hf{b:Code}{i:Nat}:(DH.seq b k).a P call n (.exit i) s=k.a P call n (.exit i) s:=rfl
theorem Kc{b:Code}:(DH.seq b k).a P call n .ret s=k.a P call n .ret s:=rfl
theorem Bd{id:Nat}:(DH.block id k).a P call n .normal s=k.a P call n .normal s:=rfl
theorem Rk{id i:Nat}:(DH.block id k).a P call n (.exit i) s=if i=id then k.a P call n .normal s else k.a P call n (.exit i) s:=rfl
theorem Ro{id:Nat}:(DH.block id k).a P call n .ret s=k.a P call n .ret s:=rfl
theorem Dk{J:St->Prop}:(DH.inv J k).a P call n .normal s=J s:=rfl
theorem Gb{J:St->Prop}{i:Nat}:(DH.inv J k).a P call n (.exit i) s=k.a P call n (.exit i) s:=rfl
theorem Mw{J:St->Prop}:(DH.inv J k).a P call n .ret s=k.a P call n .ret s:=rfl
theorem Pj:WK P call n .skip s k=k.a P call n .normal s:=by apply propext;simp only[WK,WS,D4,aj,aO];grind
theorem Pg{id:Nat}:WK P call n (.exit id) s k=k.a P call n (.exit id) s:=by apply propext;simp only[WK,WS,D4,aj,aO];grind
theorem Nc:WK P call n .ret s k=k.a P call n .ret s:=by apply propext;simp only[WK,WS,D4,aj,aO];grind
theorem NB{a b:Code}:WK P call n (.seq a b) s k=WK P call n a s (.seq b k):=by
 apply propext;constructor
 .rintro⟨e,g,c,d⟩;simp only[D4]at c;split at c
  .rename_i o f;exact⟨_,_,f,_,_,c,d⟩
  .rename_i h;refine⟨_,_,c,?_⟩;cases e with|normal=>grind|exit i=>exact d|ret=>exact d
 .rintro⟨e,g,c,d⟩;cases e with
  |normal=>obtain⟨j,l,f,m⟩:=d;exact⟨j,l,by simp only[D4,c,f],m⟩|exit i=>exact⟨_,_,by simp only[D4,c],d⟩|ret=>exact⟨_,_,by simp only[D4,c],d⟩
theorem XF{id:Nat}{c:Code}:WK P call n (.block id c) s k=WK P call n c s (.block id k):=by
 apply propext;constructor
 .rintro⟨e,d,a,b⟩;simp only[D4]at a;split at a
  .rename_i i j g;refine⟨_,_,g,?_⟩;unfold DH.a;grind
  .rename_i h;refine⟨_,_,a,?_⟩;cases e with
   |normal=>exact b|exit id=>grind|ret=>exact b
 .rintro⟨e,d,a,b⟩;cases e with
  |normal=>exact⟨_,_,by simp only[D4,a],b⟩|exit i=>
   by_cases f:i=id;.subst f;exact⟨.normal,d,by simp only[D4,a,ai],by simpa[DH.a]using b⟩
   .exact⟨.exit i,d,by simp only[D4,a,f,bi],by simpa[DH.a,f]using b⟩|ret=>exact⟨_,_,by simp only[D4,a],b⟩
theorem Mr{c:Operand}{a b:Code}:WK P call n (.cond c a b) s k=Dh P call n a b s k (ev s.T c):=by
 apply propext;constructor
 .rintro⟨e,i,f,g⟩;simp only[D4]at f;split at f;.rename_i d;rw[d];exact⟨fun _=>⟨_,_,f,g⟩,fun h=>(by cases h)⟩
  .rename_i d;rw[d];exact⟨fun h=>(by cases h),fun _=>⟨_,_,f,g⟩⟩
  grind
 .intro h;cases d:ev s.T c with
  |bool t=>rw[d]at h;exact .h d h.1 h.2|_=>rw[d]at h;exact h.elim
theorem Ks{a b:Code}{t:Bool}:Dh P call n a b s k (.bool t)=((t=true->WK P call n a s k)/\(t=false->WK P call n b s k)):=rfl
theorem Ov{id:Nat}{ops:Array Oper}:WK P call n (.region id ops false) s k=QJ P call n ops ops.toList s k:=by apply propext;refine⟨fun⟨e,d,a,c⟩=>?_,.d⟩;simp only[D4,aV,bi]at a;cases b:NV P call ops ops.toList s with|none=>grind|some f=>rw[b]at a;cases a;exact⟨_,b,c⟩
theorem Cl{ops:Array Oper}:QJ P call n ops [] s k=k.a P call n .normal s:=by simp[QJ,WL,NV]
theorem Gl{ops:Array Oper}{o:Oper}{l:List Oper}:QJ P call n ops (o::l) s k=if FT ops s.T o then U3 P call n ops l o.dst s.T k (A_ P call s.T s.h o.op)else QJ P call n ops l ⟨s.T.c o.dst undef,s.h⟩ k:=by
 apply propext;constructor
 .rintro⟨d,a,e⟩;simp only[NV,HK]at a;by_cases b:FT ops s.T o=true
  .rw[ag b]at a⊢;cases c:A_ P call s.T s.h o.op with
   |none=>grind|some r=>
    obtain⟨v,f⟩:=r;rw[c]at a;exact⟨d,a,e⟩
  .rw[ad b]at a⊢;exact⟨d,a,e⟩
 .intro h;by_cases b:FT ops s.T o=true
  .rw[ag b]at h;cases c:A_ P call s.T s.h o.op with
   |none=>rw[c]at h;exact h.elim|some r=>
    obtain⟨v,f⟩:=r;rw[c]at h;exact .a b c h
  .rw[ad b]at h;exact .b (by grind) h
section
variable {ops:Array Oper} {l:List Oper} {dst:Option Tmp} {T:Tr} {h:AA} {v:Value}
theorem Ff:U3 P call n ops l dst T k (some (v,h))=QJ P call n ops l ⟨T.c dst v,h⟩ k:=rfl
theorem Rs{r:Option Value}:U3 P call n ops l dst T k (r.map (.,h))=kR P call n ops l dst T h k r:=by cases r<;>rfl
theorem Jh:kR P call n ops l dst T h k (some v)=QJ P call n ops l ⟨T.c dst v,h⟩ k:=rfl
theorem U3.a{r:Option (Value×AA)}{h':AA}(a:r=some (v,h'))(b:QJ P call n ops l ⟨T.c dst v,h'⟩ k):U3 P call n ops l dst T k r:=by rw[a];exact b
end
theorem WK.b{c:Code}(I:Nat->St->Prop)(N:Nat)(b:N<n)(h0:I 0 s)(d:∀i s,i<=N->I i s->WK P call n c s (.inv (fun a=>i<N/\I (i+1) a) k)):WK P call n (.loop c) s k:=WS.c I N b h0 fun i s f g=>(d i s f g).a fun e a h=>by cases e<;>exact h
theorem nL(t:Nat):Tr.leaf.a t=undef:=rfl
theorem dJ{ops:Array Oper}{T:Tr}{o:Oper}(h:o.guard=none):FT ops T o=true:=by simp[FT,h]
theorem WA{T:Tr}{t:Nat}:ev T (.tmp t)=T.a t:=rfl
theorem oZ{T:Tr}{v:Value}:ev T (.const v)=v:=rfl
theorem ny{T:Tr}{g:Nat}:ev T (.global g)=.pointer (some ⟨g,0,none⟩):=rfl
theorem iG{T:Tr}{f:Nat}:ev T (.func f)=.func (.func f) #[] #[]:=rfl
end
theorem max2{k:IntKind}{x y:Int}:dD [.int k x,.int k y]=some (.int k (if y>x then y else x)):=rfl
theorem min2{k:IntKind}{x y:Int}:cH [.int k x,.int k y]=some (.int k (if y<x then y else x)):=rfl
def V5:Value->Bool->Bool|.bool b,w=>b==w|_,_=>false
noncomputable def sA:Option Tmp->Tr->Bool->Bool|some d,T,w=>V5 (T.a d) w|none,_,_=>false
theorem l7{ops:Array Oper}{T:Tr}{c:Option Tmp}{f:Op}{b:TypeId}{e:String}{a:Array Edge}{j:Nat}{w:Bool}:FT ops T ⟨c,f,b,e,a,some (j,w)⟩=sA ((ops[j]?).bind (·.dst)) T w:=by simp only[FT];cases(ops[j]?).bind (·.dst)with|none=>rfl|some d=>simp only[sA];cases T.a d<;>rfl
theorem hJ{d:Tmp}{T:Tr}{w:Bool}:sA (some d) T w=V5 (T.a d) w:=rfl
theorem Qo{w:Bool}:V5 undef w=false:=by cases w<;>rfl
theorem jQ{b:Bool}:V5 (.bool b) true=b:=by simp[V5]
theorem iM{b:Bool}:V5 (.bool b) false=!b:=by simp[V5]
theorem DO{P:Program}{call:AY}{n:Nat}{f:FuncId}{args:List Value}{h h':AA}{a:Func}{c:Code}{V:Value}(g:P.funcs[f]?=some a)(i:a.body=some c)(j:args.length<=a.ntmps)(k:WK P call n c ⟨JX 0 args .leaf,h⟩ (.top fun e s=>(e=.normal\/e=.ret)/\∃d,F5 P s a.results.toList=some d/\GU d=V/\s.h=h')):AW P call n f args h=some (V,h'):=by obtain⟨v,m,l,rfl,rfl⟩:=Ae (R:=fun u b=>u=V/\b=h') g i j k;exact l
theorem EA{P:Program}{call:AY}{n:Nat}{f:FuncId}{args:List Value}{h:AA}{a:Func}{c:Code}{V:Value}{R:AA->Prop}(i:P.funcs[f]?=some a)(j:a.body=some c)(k:args.length<=a.ntmps)(l:WK P call n c ⟨JX 0 args .leaf,h⟩ (.top fun e s=>(e=.normal\/e=.ret)/\∃d,F5 P s a.results.toList=some d/\GU d=V/\R s.h)):∃g,AW P call n f args h=some (V,g)/\R g:=by obtain⟨v,m,o,rfl,p⟩:=Ae (R:=fun u b=>u=V/\R b) i j k l;grind
def Kq(P:Program)(ops:Array Oper):Bool:=(List.range ops.size).all fun k=>match ops[k]? with|none=>true|some o=>match AB o.op with
  |.read _=>!RN ops k|.act=>!RZ ops k|.store=>(J0 ops k).isEmpty|.new=>true|.pure=>match o.op with
   |.call c=>(match c.argTypes.toList with|[t]=>(match P.underlying t with|some (.map _ _)=>false|some (.array _ _)=>false|_=>true)|_=>true)|_=>true
theorem nz{P:Program}{call:AY}{ops:Array Oper}(u:Kq P ops=true){f i:Nat}{o:Oper}(n:ops[i]?=some o){s s':St}(h:HK P call ops o s=some s'):UP P call ops f i o s=some s':=by
 have l:=(gl.1 n).1;have b:=bm.1 u i (List.mem_range.2 l);simp only[n]at b;unfold UP;by_cases m:FT ops s.T o=true;.rw[ag m];cases e:AB o.op with
  |read a=>
   rw[e]at b;simp only[iz]at b;simp[b,h]|act=>rw[e]at b;simp only[iz]at b;simp[b,h]|new=>exact h|store=>
   rw[e]at b;simp only[List.isEmpty_iff]at b;simp only[b,bd,ai];split;.exact h
   .exact h
   .exact h
   .rename_i p w q;cases d:o.op with
    |store t a x=>grind|mapUpdate t a k x=>grind|insert t a k x=>grind|call c=>rw[d]at e;simp only[AB]at e;grind|_=>rw[d]at e;simp[AB]at e
  |pure=>
   rw[e]at b;simp only at b⊢;cases d:o.op with
   |call c=>
    simp only[d]at b⊢;split
    .rename_i r g;exfalso;obtain⟨v,y,j,_⟩:=QU m h;rw[d]at j e;simp only[AB]at e;simp only[A_,RW,evs,g]at j;split at j
     .split at j
      .rename_i t x p q;cases q;simp only[p]at b;simp only[CU]at j;grind
      grind
     all_goals first|(simp[dD,cH]at j;done)|(simp_all;done)
    .exact h|_=>exact h
 .rw[ad m];unfold HK at h;grind
theorem WK.c{P:Program}{call:AY}{n id:Nat}{ops:Array Oper}{s:St}{k:DH}(e:Kq P ops=true)(h:QJ P call n ops ops.toList s k):WK P call n (.region id ops true) s k:=by
 obtain⟨b,f,g⟩:=h;have c:∀(l:List Oper)(i:Nat)(s:St),(∀k,l[k]?=ops[i+k]?)->NV P call ops l s=some b->∀a,OM P call ops a i l s=some b:=by
  intro l;induction l with
  |nil=>intro i s _ h a;exact h|cons o l j=>
   intro i s d h a;simp only[NV]at h;split at h
   .rename_i m p;have q:ops[i]?=some o:=by simpa using(d 0).symm
    simp only[OM,nz e q p];exact j (i+1) m (fun k=>by have:=d (k+1);grind) h a
   .cases h
 exact WS.b ⟨b,c _ 0 s (by simp) f _,g⟩
theorem BR{x:Int}(h1:-9223372036854775808<=x:=by omega)(a:x<9223372036854775808:=by omega):IntKind.i64.wrap x=x:=by simp[IntKind.wrap,IntKind.bits,IntKind.signed];omega
theorem Rr{p q:Prop}:((true=true->p)/\(true=false->q))=p:=by simp
theorem Dn{p q:Prop}:((false=true->p)/\(false=false->q))=q:=by simp
theorem OL{b:Bool}:flat (.bool b)=true:=rfl
theorem UM{k:IntKind}{x:Int}:flat (.int k x)=true:=rfl
theorem Hw{P:Program}{b:Bool}:BZ P (Op.unary .not (.bool b))=some (.bool !b):=rfl
theorem Ph{P:Program}{k:IntKind}{x:Int}:BZ P (Op.unary .neg (.int k x))=some (.int k (k.wrap (0-x))):=rfl
theorem EF{P:Program}{c d:Type}(m:Sem c)(f:c->Sem d):BZ P (m>>=f)=(BZ P m).bind fun a=>BZ P (f a):=by induction m with
 |pure a=>rfl|program k b=>exact b P|mark x k b=>exact b|_=>rfl
theorem R3{P:Program}{t:TypeId}{d:TypeDesc}(h:P.underlying t=some d):BZ P (underlying t)=some d:=by show BZ P (Sem.bind program _)=_;simp[program,Sem.bind,BZ,h,Pure.pure]
theorem Dp{P:Program}{t:TypeId}{a b:Bool}(h:P.underlying t=some .bool):BZ P (Op.equal t (.bool a) (.bool b))=some (a==b):=by
 have c:∀d,BZ P (Op.equalIn (d+1) t (.bool a) (.bool b))=some (a==b):=by
  intro d;rw[Op.equalIn,EF,R3 h];rfl
 exact c 9999
theorem nP{P:Program}{t:TypeId}{x y:Operand}{a b:Bool}(h:P.underlying t=some .bool):CT P .eql t x y (.bool a) (.bool b)=some (.bool (a==b)):=by
 have e:BZ P (do eqGuard .eql t x y (.bool a) (.bool b);binOp .eql t (.bool a) (.bool b))=some (.bool (a==b)):=by
  show BZ P ((do pure (.bool (<-Op.equal t (.bool a) (.bool b)))):Sem Value)=_;rw[EF,Dp h];rfl
 simp only[CT,OL,ao,ai,e]
theorem dL{P:Program}{t:TypeId}{x y:Operand}{a b:Bool}(h:P.underlying t=some .bool):CT P .neq t x y (.bool a) (.bool b)=some (.bool (a !=b)):=by
 have e:BZ P (do eqGuard .neq t x y (.bool a) (.bool b);binOp .neq t (.bool a) (.bool b))=some (.bool (a !=b)):=by
  show BZ P ((do pure (.bool (!(<-Op.equal t (.bool a) (.bool b))))):Sem Value)=_;rw[EF,Dp h];rfl
 simp only[CT,OL,ao,ai,e]
section
variable {P:Program} {h:AA} {v:Value} {l:List Int} {t e:TypeId}
end
def CA(ops:Array Oper):List (Bool×Bool×List Operand):=(List.range ops.size).map fun k=>(RN ops k,RZ ops k,J0 ops k)
noncomputable def AD(a:Op)(T:Tr):Bool:=match a with|.call c=>(match c.args.toList.map (ev T)with|[.map _]=>false|_=>true)|_=>true
def target:Op->Operand|.store _ a _=>a|.mapUpdate _ m _ _=>m|.insert _ m _ _=>m|_=>.const undef
section
variable (P:Program) (call:AY) (n:Nat) (ops:Array Oper) (start:Nat)
noncomputable def PU(i:Nat)(f:Bool×Bool×List Operand)(o:Oper)(s:St):Option St:=if FT ops s.T o then match AB o.op with
  |.read a=>if f.1&&!ahead start (DP (ev s.T a))then none else HK P call ops o s|.act=>if f.2.1 then match HK P call ops o ⟨s.T,s.h.f (max s.h.b start)⟩with|some b=>some ⟨b.T,b.h.f s.h.b⟩|none=>lO P call ops i o s else HK P call ops o s|.store=>if f.2.2.all (fun x=>DP (ev s.T x)!=DP (ev s.T (target o.op)))then HK P call ops o s else none|.pure=>if AD o.op s.T then HK P call ops o s else none|.new=>HK P call ops o s else some ⟨s.T.c o.dst undef,s.h⟩
theorem nR{i:Nat}{o:Oper}{s s':St}(h:PU P call ops start i (RN ops i,RZ ops i,J0 ops i) o s=some s'):UP P call ops start i o s=some s':=by
 unfold PU at h;unfold UP;by_cases e:FT ops s.T o=true;.rw[ag e]at h⊢;cases d:AB o.op with
  |read a=>rw[d]at h;exact h|act=>rw[d]at h;exact h|new=>rw[d]at h;exact h|store=>
   rw[d]at h;cases b:o.op with
   |store t a x=>rw[b]at h;exact h|mapUpdate t a k x=>rw[b]at h;exact h|insert t a k x=>rw[b]at h;exact h|call c=>rw[b]at d;simp only[AB]at d;split at d<;>cases d|_=>rw[b]at d;simp[AB]at d
  |pure=>
   rw[d]at h;simp only at h⊢;cases b:o.op with
   |call c=>
    simp only[b,AD]at h⊢;grind|_=>grind
 .rw[ad e]at h⊢;exact h
noncomputable def WX:List (Bool×Bool×List Operand)->List Oper->St->Option St
 |_,[],s=>some s|f::a,o::l,s=>match PU P call ops start (ops.size-(l.length+1)) f o s with|some b=>WX a l b|none=>none
 |[],_::_,_=>none
def BV(fs:List (Bool×Bool×List Operand))(l:List Oper)(s:St)(k:DH):Prop:=∃a,WX P call ops start fs l s=some a/\k.a P call n .normal a
def VG(fs:List (Bool×Bool×List Operand))(l:List Oper)(a:Option Tmp)(T:Tr)(fl:Nat)(k:DH):Option (Value×AA)->Prop|some (v,h)=>BV P call n ops start fs l ⟨T.c a v,h.f fl⟩ k|none=>False
def AC(b c:Bool)(d:List Operand)(fs:List (Bool×Bool×List Operand))(o:Oper)(l:List Oper)(s:St)(k:DH):W_->Prop
 |.read a=>(b=true->ahead start (DP (ev s.T a))=true)/\VG P call n ops start fs l o.dst s.T s.h.b k (A_ P call s.T s.h o.op)|.act=>VG P call n ops start fs l o.dst s.T s.h.b k (A_ P call s.T (if c then s.h.f (max s.h.b start)else s.h) o.op)|.store=>(d.all (fun x=>DP (ev s.T x)!=DP (ev s.T (target o.op)))=true)/\VG P call n ops start fs l o.dst s.T s.h.b k (A_ P call s.T s.h o.op)|.pure=>AD o.op s.T=true/\VG P call n ops start fs l o.dst s.T s.h.b k (A_ P call s.T s.h o.op)|.new=>VG P call n ops start fs l o.dst s.T s.h.b k (A_ P call s.T s.h o.op)
end
section
variable {P:Program} {call:AY} {n:Nat} {ops:Array Oper} {start:Nat} {fs:List (Bool × Bool × List Operand)} {l:List Oper} {s:St} {k:DH}
theorem C0(h:AA):h.f h.b=h:=rfl
theorem BV.c{u q:Bool}{w:List Operand}{o:Oper}(y:∀v i,∀h:AA,A_ P call s.T h o.op=some (v,i)->i.b=h.b)(h:if FT ops s.T o then AC P call n ops start u q w fs o l s k (AB o.op)else BV P call n ops start fs l ⟨s.T.c o.dst undef,s.h⟩ k):BV P call n ops start ((u,q,w)::fs) (o::l) s k:=by
 by_cases j:FT ops s.T o=true
 .rw[ag j]at h;have t:VG P call n ops start fs l o.dst s.T s.h.b k (A_ P call s.T s.h o.op)->∃b,HK P call ops o s=some b/\BV P call n ops start fs l b k:=by intro h;cases m:A_ P call s.T s.h o.op with|none=>rw[m]at h;exact h.elim|some r=>
    obtain⟨v,i⟩:=r;rw[m]at h;have A:=y v i s.h m;refine⟨⟨s.T.c o.dst v,i⟩,by simp only[HK,j,ai,m],?_⟩;have e:i.f s.h.b=i:=by rw[<-A];rfl
    have f:BV P call n ops start fs l ⟨s.T.c o.dst v,i.f s.h.b⟩ k:=h;grind
  have c:∀b,PU P call ops start (ops.size-(l.length+1)) (u,q,w) o s=some b->BV P call n ops start fs l b k->BV P call n ops start ((u,q,w)::fs) (o::l) s k:=by
   rintro b p⟨z,f,d⟩;exact⟨z,by simp only[WX,p,f],d⟩
  cases g:AB o.op with
  |read a=>
   rw[g]at h;obtain⟨x,p⟩:=h;obtain⟨b,f,d⟩:=t p;refine c b ?_ d;unfold PU;rw[ag j,g];simp only;grind|new=>
   rw[g]at h;obtain⟨b,f,d⟩:=t h;refine c b ?_ d;unfold PU;rw[ag j,g];exact f|pure=>
   rw[g]at h;obtain⟨x,p⟩:=h;obtain⟨b,f,d⟩:=t p;refine c b ?_ d;unfold PU;rw[ag j,g];simp only[x,ai];exact f|store=>
   rw[g]at h;obtain⟨x,p⟩:=h;obtain⟨b,f,d⟩:=t p;refine c b ?_ d;unfold PU;rw[ag j,g];simp only[x,ai];exact f|act=>
   rw[g]at h;cases q with
   |false=>
    obtain⟨b,f,d⟩:=t h;refine c b ?_ d;unfold PU;rw[ag j,g];simpa using f|true=>have h:VG P call n ops start fs l o.dst s.T s.h.b k (A_ P call s.T (s.h.f (max s.h.b start)) o.op):=h;cases m:A_ P call s.T (s.h.f (max s.h.b start)) o.op with
    |none=>rw[m]at h;exact h.elim|some r=>
     obtain⟨v,i⟩:=r;rw[m]at h;refine c ⟨s.T.c o.dst v,i.f s.h.b⟩ ?_ h;unfold PU;rw[ag j,g];simp only[HK,j,ai,m]
 .rw[ad j]at h;obtain⟨z,f,d⟩:=h;refine⟨z,?_,d⟩;simp only[WX,PU];grind
theorem BV.d{d:Bool}{f:List Operand}{o:Oper}{ids:List Nat}{v:Value}{h1:AA}(g:FT ops s.T o=true)(i:AB o.op=.act)(j:SP ops (ops.size-(l.length+1))=true)(b:(J0 ops (ops.size-(l.length+1))).filterMap (fun x=>DP (ev s.T x))=ids)(m:∀a∈ids,a<s.h.a/\OX (s.h.c a)=true)(p:A_ P call s.T (s.h.f (max s.h.b start)) o.op=none)(q:A_ P call s.T (OW ids s.h) o.op=some (v,h1))(h:BV P call n ops start fs l ⟨s.T.c o.dst v,MM s.h ids h1⟩ k):BV P call n ops start ((d,true,f)::fs) (o::l) s k:=by
 obtain⟨r,t,u⟩:=h;refine⟨r,?_,u⟩;have e:PU P call ops start (ops.size-(l.length+1)) (d,true,f) o s=some ⟨s.T.c o.dst v,MM s.h ids h1⟩:=by
  unfold PU;rw[ag g,i];have c:ids.all (fun a=>decide (a<s.h.a)&&OX (s.h.c a))=true:=bm.2 fun a w=>by grind
  simp only[HK,g,ai,p,lO,b,j,c,ao,q]
 simp only[WX,e,t]
theorem iI{a:Option Tmp}{T:Tr}{fl:Nat}{v:Value}{h:AA}:VG P call n ops start fs l a T fl k (some (v,h))=BV P call n ops start fs l ⟨T.c a v,h.f fl⟩ k:=rfl
theorem l_:BV P call n ops start fs [] s k=k.a P call n .normal s:=by apply propext;refine⟨fun⟨c,a,b⟩=>?_,fun h=>⟨s,by cases fs<;>rfl,h⟩⟩;cases fs<;>(cases a;exact b)
theorem BS{h:AA}{a b:Nat}:(h.f a).f b=h.f b:=rfl
theorem D7{h:AA}:h.f h.b=h:=rfl
theorem BI{h:AA}{a:Nat}:(h.f a).b=a:=rfl
theorem WK.a{id:Nat}{fs:List (Bool×Bool×List Operand)}(f:CA ops=fs)(h:BV P call n ops s.h.a fs ops.toList s k):WK P call n (.region id ops true) s k:=by
 obtain⟨b,v,g⟩:=h;refine WS.b ⟨b,?_,g⟩;have j:∀(l:List Oper)(i:Nat)(s:St)(start:Nat),(∀k,l[k]?=ops[i+k]?)->i+l.length=ops.size->WX P call ops start (fs.drop i) l s=some b->OM P call ops start i l s=some b:=by intro l;induction l with|nil=>intro i s start _ _ h;cases m:fs.drop i<;>(rw[m]at h;exact h)|cons o l p=>
   intro i s start q e h;have w:i<ops.size:=by grind
   have c:fs[i]?=some (RN ops i,RZ ops i,J0 ops i):=by
    rw[<-f];unfold CA;grind
   have d:=(ae.1 c).1;rw[cd d]at h;have r:fs[i]=(RN ops i,RZ ops i,J0 ops i):=by grind
   rw[r]at h;simp only[WX]at h;have a:ops.size-(l.length+1)=i:=by grind
   rw[a]at h;split at h;.rename_i t u;simp only[OM,nR P call ops start u];exact p (i+1) t start (fun k=>by have:=q (k+1);grind) (by grind) h
   .cases h
 grind
end
def YA(r:Nat):Code->Option (Array Oper)
 |.region i d _=>if i=r then some d else none|.seq a b=>match YA r a with
  |some o=>some o|none=>YA r b
 |.cond _ a b=>match YA r a with
  |some o=>some o|none=>YA r b
 |.block _ c=>YA r c|.loop c=>YA r c|_=>none
def B9(a:Func)(r:Nat):Array Oper:=match a.body with|some c=>(YA r c).getD #[]|none=>#[]
def seen(o:Oper):Option Tmp×Op×Option (Nat×Bool):=(o.dst,o.op,o.guard)
section
variable {P:Program} {call:AY} {n:Nat} {ops:Array Oper} {start:Nat} {F:List (Bool × Bool × List Operand)} {s:St} {k:DH}
theorem Jf{T:Tr}{o o':Oper}(h:seen o=seen o'):FT ops T o=FT ops T o':=by simp only[seen,aO]at h;unfold FT;rw[h.2.2]
theorem Vv{a b:Bool}{d:List Operand}{fs:List (Bool×Bool×List Operand)}{o o':Oper}{l:List Oper}{c:W_}(h:seen o=seen o'):AC P call n ops start a b d fs o l s k c=AC P call n ops start a b d fs o' l s k c:=by simp only[seen,aO]at h;cases c<;>simp only[AC,h.1,h.2.1]
theorem BV.a(h:BV P call n ops start (F.drop 0) (ops.toList.drop 0) s k):BV P call n ops start F ops.toList s k:=h
theorem BV.f(i:Nat)(a:Option Tmp)(b:Op)(g:Option (Nat×Bool)){e f:Bool}{j:List Operand}(hi:(ops[i]?).map seen=some (a,b,g))(t:F[i]?=some (e,f,j))(u:∀v r,∀h:AA,A_ P call s.T h b=some (v,r)->r.b=h.b)(h:if FT ops s.T ⟨a,b,0, "",#[],g⟩then AC P call n ops start e f j (F.drop (i+1)) ⟨a,b,0, "",#[],g⟩ (ops.toList.drop (i+1)) s k (AB b)else BV P call n ops start (F.drop (i+1)) (ops.toList.drop (i+1)) ⟨s.T.c a undef,s.h⟩ k):BV P call n ops start (F.drop i) (ops.toList.drop i) s k:=by cases w:ops[i]? with
 |none=>grind|some o=>
  rw[w]at hi;have d:seen o=seen ⟨a,b,0, "",#[],g⟩:=by simpa[seen]using hi
  have l:o.op=b:=jj (·.2.1) d;have c:o.dst=a:=jj (·.1) d;have x:F.drop i=(e,f,j)::F.drop (i+1):=by obtain⟨m,p⟩:=ae.1 t;rw[cd m,p]
  have q:ops.toList[i]?=some o:=by grind
  have y:ops.toList.drop i=o::ops.toList.drop (i+1):=by obtain⟨m,p⟩:=ae.1 q;rw[cd m,p]
  rw[x,y];refine BV.c (by grind) ?_;rw[Jf d,Vv d,l,c];exact h
theorem BV.e(i:Nat)(a:Option Tmp)(b:Op)(g:Option (Nat×Bool)){m:Bool}{p L:List Operand}{ids:List Nat}{v:Value}{h1:AA}(hi:(ops[i]?).map seen=some (a,b,g))(y:F[i]?=some (m,true,p))(E:SP ops i=true)(G:J0 ops i=L)(z:FT ops s.T ⟨a,b,0, "",#[],g⟩=true)(H:AB b=.act)(q:L.filterMap (fun x=>DP (ev s.T x))=ids)(d:∀r∈ids,r<s.h.a/\OX (s.h.c r)=true)(I:A_ P call s.T (s.h.f (max s.h.b start)) b=none)(A:A_ P call s.T (OW ids s.h) b=some (v,h1))(h:BV P call n ops start (F.drop (i+1)) (ops.toList.drop (i+1)) ⟨s.T.c a v,MM s.h ids h1⟩ k):BV P call n ops start (F.drop i) (ops.toList.drop i) s k:=by cases t:ops[i]? with|none=>grind|some o=>
  rw[t]at hi;have c:seen o=seen ⟨a,b,0, "",#[],g⟩:=by simpa[seen]using hi
  have e:o.op=b:=jj (·.2.1) c;have u:o.dst=a:=jj (·.1) c;have B:F.drop i=(m,true,p)::F.drop (i+1):=by
   obtain⟨f,j⟩:=ae.1 y;rw[cd f,j]
  have l:ops.toList[i]?=some o:=by grind
  have C:ops.toList.drop i=o::ops.toList.drop (i+1):=by
   obtain⟨f,j⟩:=ae.1 l;rw[cd f,j]
  have D:=(gl.1 t).1;have w:ops.size-((ops.toList.drop (i+1)).length+1)=i:=by grind
  rw[B,C];exact BV.d (by rw[Jf c];exact z) (by grind) (by grind) (by grind) d (by grind) (by rw[e];exact A) (by grind)
theorem BV.b{i:Nat}(a:ops.toList.drop i=[])(h:k.a P call n .normal s):BV P call n ops start (F.drop i) (ops.toList.drop i) s k:=by rw[a,l_];exact h
end
end Go.Sx
namespace Go.Proofs.YtjailoenloejbaaGreatDoor
open Go Go.Sx
set_option maxRecDepth 100000
set_option maxHeartbeats 0
theorem GW{cs:Array Value}:(Value.agg cs).cells=cs:=rfl
theorem JQ{k:IntKind}{x:Int}:one (.int k x)=true:=rfl
theorem TL{x:ByteArray}:one (.string x)=true:=rfl
theorem Pc{x:Bool}:one (.bool x)=true:=rfl
theorem BU{h:AA}{o:BO}:(h.d o).a=h.a+1:=rfl
theorem CE{h:AA}{o:BO}:(h.d o).b=h.b:=rfl
theorem D_{h:AA}{o:BO}{i:Nat}:(h.e i o).a=h.a:=rfl
theorem EJ{h:AA}{o:BO}{i:Nat}:(h.e i o).b=h.b:=rfl
theorem Rw{m f:Nat}:(GK m f).a=m:=rfl
theorem Sy{m f:Nat}:(GK m f).b=f:=rfl
theorem OT{h:AA}{o:BO}{i:Nat}:(h.d o).c i=if i=h.a then o else h.c i:=by
 split;.rename_i e;subst e;exact BJ
 .rename_i e;exact UF e
theorem ZF{h:AA}{o:BO}{i j:Nat}:(h.e i o).c j=if j=i then(if i<h.a then o else .dead)else h.c j:=by
 by_cases a:i<h.a
 .split;.rename_i e;subst e;exact BE rfl a
  .rename_i e;exact AP a (bc e)
 .split;.rename_i e;subst e;exact NJ (by show h.a<=j;omega)
  .rename_i e;by_cases b:j<h.a
   .unfold AA.c AA.e;simp only[b,ai];rw[GI.a,ad e]
   .rw[NJ (by show h.a<=j;omega),NJ (by omega)]
theorem CM{h:AA}{o:BO}{f:Nat}:(h.d o).f f=(h.f f).d o:=rfl
theorem EK{h:AA}{o:BO}{i f:Nat}:(h.e i o).f f=(h.f f).e i o:=rfl
theorem Ml{m f a:Nat}:(GK m a).f f=GK m f:=rfl
theorem BK{h:AA}{f:Nat}:(h.f f).a=h.a:=rfl
theorem CZ{h:AA}{f i:Nat}:(h.f f).c i=h.c i:=rfl
theorem N6{m id off:Nat}:Sx.ahead m (DP (.pointer (some ⟨id,off,none⟩)))=decide (id<m):=rfl
theorem CB{id off n:Nat}:(⟨id,off,none⟩:Addr).add n=⟨id,off+n,none⟩:=by unfold Addr.add;simp
def AI(off:Nat):BO->Option Value|.row a _ _ _=>a[off]?|_=>none
def AX(n off:Nat):BO->Option Value
 |.row a _ _ _=>match GN a off n with
  |some l=>some (.agg l.toArray)|none=>none
 |_=>none
theorem JL{P:Program}{t:TypeId}{h:AA}{id off:Nat}(a:HC P t=some false):EP P h t (.pointer (some ⟨id,off,none⟩))=AI off (h.c id):=by simp only[EP,a];cases h.c id<;>rfl
theorem NF{P:Program}{t:TypeId}{n:Nat}{h:AA}{id off:Nat}(a:HC P t=some true)(b:BN P t=some n):EP P h t (.pointer (some ⟨id,off,none⟩))=AX n off (h.c id):=by simp only[EP,a,b];cases h.c id<;>rfl
theorem kJ:HC Tryz.prog 3=some false:=by kernel_rfl
theorem agg9:HC Tryz.prog 9=some false:=by kernel_rfl
theorem agg4:HC Tryz.prog 4=some false:=by kernel_rfl
theorem nX:HC Tryz.prog 125=some true:=by kernel_rfl
theorem Zs:HC Tryz.prog 243=some true:=by kernel_rfl
theorem B_:BN Tryz.prog 3=some 1:=by kernel_rfl
theorem KN:BN Tryz.prog 9=some 1:=by kernel_rfl
theorem MZ:BN Tryz.prog 4=some 1:=by kernel_rfl
theorem GC:BN Tryz.prog 125=some 5:=by kernel_rfl
theorem Rx:BN Tryz.prog 243=some 5:=by kernel_rfl
theorem FC:DK Tryz.prog 125=some (.agg #[.int .i64 0,.string ByteArray.empty,.int .i64 0,.int .i64 0,.int .i64 0]):=by kernel_rfl
theorem Ki:DK Tryz.prog 243=some (.agg #[.bool false,.bool false,.bool false,.int .i64 0,.int .i64 0]):=by kernel_rfl
theorem C3{a b c d e:Value}:flat (.agg #[a,b,c,d,e])=(B7 a&&(B7 b&&(B7 c&&(B7 d&&(B7 e&&true))))):=by simp[flat]
theorem NO{k:IntKind}{x:Int}:B7 (.int k x)=true:=rfl
theorem QZ{x:ByteArray}:B7 (.string x)=true:=rfl
theorem Oc{x:Bool}:B7 (.bool x)=true:=rfl
theorem AM{h:AA}{id off:Nat}:EP Tryz.prog h 3 (.pointer (some ⟨id,off,none⟩))=AI off (h.c id):=JL kJ
theorem HS{h:AA}{id off:Nat}:EP Tryz.prog h 9 (.pointer (some ⟨id,off,none⟩))=AI off (h.c id):=JL agg9
theorem F4{h:AA}{id off:Nat}:EP Tryz.prog h 4 (.pointer (some ⟨id,off,none⟩))=AI off (h.c id):=JL agg4
theorem FX{h:AA}{id off:Nat}:EP Tryz.prog h 125 (.pointer (some ⟨id,off,none⟩))=AX 5 off (h.c id):=NF nX GC
theorem Gz{h:AA}{id off:Nat}:EP Tryz.prog h 243 (.pointer (some ⟨id,off,none⟩))=AX 5 off (h.c id):=NF Zs Rx
theorem NC{a:Value}{l:List Value}{ty:TypeId}{g ro:Bool}:AI 0 (.row (a::l) ty g ro)=some a:=rfl
theorem ZL{a b:Value}{l:List Value}{ty:TypeId}{g ro:Bool}:AI 1 (.row (a::b::l) ty g ro)=some b:=rfl
theorem bJ{a b c:Value}{l:List Value}{ty:TypeId}{g ro:Bool}:AI 2 (.row (a::b::c::l) ty g ro)=some c:=rfl
theorem W9{a b c d:Value}{l:List Value}{ty:TypeId}{g ro:Bool}:AI 3 (.row (a::b::c::d::l) ty g ro)=some d:=rfl
theorem Eb{a b c d e:Value}{l:List Value}{ty:TypeId}{g ro:Bool}:AI 4 (.row (a::b::c::d::e::l) ty g ro)=some e:=rfl
theorem Bs{a b c d e:Value}{ty:TypeId}{g ro:Bool}:AX 5 0 (.row [a,b,c,d,e] ty g ro)=some (.agg #[a,b,c,d,e]):=rfl
noncomputable def QP(t:TypeId)(h:AA)(id:Nat)(a b c d e:Value):BO->Option AA|.row [_,_,_,_,_] f g false=>if h.b<=id/\[a,b,c,d,e].all one=true then some (h.e id (.row [a,b,c,d,e] f g false))else BD Tryz.prog h t (.pointer (some ⟨id,0,none⟩)) (.agg #[a,b,c,d,e])|_=>BD Tryz.prog h t (.pointer (some ⟨id,0,none⟩)) (.agg #[a,b,c,d,e])
theorem Ob{t:TypeId}(k:BN Tryz.prog t=some 5){h:AA}{id:Nat}{a b c d e:Value}:BD Tryz.prog h t (.pointer (some ⟨id,0,none⟩)) (.agg #[a,b,c,d,e])=QP t h id a b c d e (h.c id):=by
 unfold QP;split
 .rename_i v w x y z n g l;split
  .rename_i m;have j:=m.2;have o:Go.Sx.lay [v,w,x,y,z] 0 [a,b,c,d,e]=[a,b,c,d,e]:=rfl;have f:(Value.agg #[a,b,c,d,e]).cells=#[a,b,c,d,e]:=rfl;simp only[BD,f,k,HW,l];have i:(some 5:Option Nat)=some (#[a,b,c,d,e]:Array Value).size:=rfl;rw[ag i,ag (by grind)];rfl
  .rfl
 .rfl
theorem DE{h:AA}{id:Nat}{a b c d e:Value}:BD Tryz.prog h 125 (.pointer (some ⟨id,0,none⟩)) (.agg #[a,b,c,d,e])=QP 125 h id a b c d e (h.c id):=Ob GC
theorem Ib{h:AA}{id:Nat}{a b c d e:Value}:BD Tryz.prog h 243 (.pointer (some ⟨id,0,none⟩)) (.agg #[a,b,c,d,e])=QP 243 h id a b c d e (h.c id):=Ob Rx
theorem YF{t:TypeId}{h:AA}{id:Nat}{a b c d e v w x y z:Value}{ty:TypeId}{g:Bool}:QP t h id a b c d e (.row [v,w,x,y,z] ty g false)=if h.b<=id/\[a,b,c,d,e].all one=true then some (h.e id (.row [a,b,c,d,e] ty g false))else BD Tryz.prog h t (.pointer (some ⟨id,0,none⟩)) (.agg #[a,b,c,d,e]):=rfl
theorem Gu{a b c d e:Value}:#[a,b,c,d,e].toList.all one=(one a&&(one b&&(one c&&(one d&&(one e&&true))))):=by simp
section
variable {id off:Nat}
theorem BB:BC Tryz.prog 125 (.pointer (some ⟨id,off,none⟩)) 0=some (.pointer (some ⟨id,off,none⟩)):=by simp[BC,ez,B_,CB]
theorem PY:BC Tryz.prog 125 (.pointer (some ⟨id,off,none⟩)) 1=some (.pointer (some ⟨id,off+1,none⟩)):=by simp[BC,ez,KN,CB]
theorem ZO:BC Tryz.prog 125 (.pointer (some ⟨id,off,none⟩)) 2=some (.pointer (some ⟨id,off+2,none⟩)):=by simp[BC,ez,B_,CB]
theorem FY:BC Tryz.prog 125 (.pointer (some ⟨id,off,none⟩)) 3=some (.pointer (some ⟨id,off+3,none⟩)):=by simp[BC,ez,B_,CB]
theorem YW:BC Tryz.prog 125 (.pointer (some ⟨id,off,none⟩)) 4=some (.pointer (some ⟨id,off+4,none⟩)):=by simp[BC,ez,B_,CB]
theorem mZ:BC Tryz.prog 243 (.pointer (some ⟨id,off,none⟩)) 0=some (.pointer (some ⟨id,off,none⟩)):=by simp[BC,Tryz.underlying243,MZ,CB]
theorem i5:BC Tryz.prog 243 (.pointer (some ⟨id,off,none⟩)) 1=some (.pointer (some ⟨id,off+1,none⟩)):=by simp[BC,Tryz.underlying243,MZ,CB]
theorem j9:BC Tryz.prog 243 (.pointer (some ⟨id,off,none⟩)) 2=some (.pointer (some ⟨id,off+2,none⟩)):=by simp[BC,Tryz.underlying243,MZ,CB]
theorem Nb:BC Tryz.prog 243 (.pointer (some ⟨id,off,none⟩)) 3=some (.pointer (some ⟨id,off+3,none⟩)):=by simp[BC,Tryz.underlying243,B_,CB]
theorem Jk:BC Tryz.prog 243 (.pointer (some ⟨id,off,none⟩)) 4=some (.pointer (some ⟨id,off+4,none⟩)):=by simp[BC,Tryz.underlying243,B_,CB]
end
theorem OZ(a:ByteArray):(a==a)=true:=by cases a with|mk d=>show(d==d)=true;simp
theorem Ig(a b:ByteArray):(a.toList==b.toList)=(a==b):=by
 rw[ByteArray.toList_eq,ByteArray.toList_eq];apply Bool.eq_iff_iff.2;constructor
 .intro h;have d:a.data.toList=b.data.toList:=by grind
  have c:a=b:=by cases a;cases b;simp_all
  subst c;exact OZ a
 .intro h;have:=OA h;grind
theorem od{P:Program}{t:TypeId}{x y:Operand}{a b:ByteArray}:CT P .eql t x y (.string a) (.string b)=some (.bool (a==b)):=by
 have e:BZ P (do eqGuard .eql t x y (.string a) (.string b);binOp .eql t (.string a) (.string b))=some (.bool (a==b)):=by
  rw[EF];have g:BZ P (eqGuard .eql t x y (.string a) (.string b))=some ():=rfl;rw[g,<-Ig];simp[binOp,Op.stringOp,Option.bind];rfl
 assumption
theorem X8{x y:Operand}{a b:ByteArray}:CT Tryz.prog .eql 9 x y (.string a) (.string b)=some (.bool (a==b)):=od
theorem eJ{x y:Operand}{a b:Bool}:CT Tryz.prog .eql 4 x y (.bool a) (.bool b)=some (.bool (a==b)):=nP gm
theorem jO{x y:Operand}{a b:Bool}:CT Tryz.prog .neq 4 x y (.bool a) (.bool b)=some (.bool (a !=b)):=dL gm
def AQ(r:AF):List Value:=[.int .i64 r.a,.string r.c,.int .i64 r.d,.int .i64 r.n,.int .i64 r.b]
theorem WU{h:AA}{a:Option Addr}{n c:Nat}:CU Tryz.prog h 22 (.slice a n c)=some (.int .i64 n):=by simp[CU,bq]
def A8(h:AA)(v:Value)(l:List AF):Prop:=∃a c,v=.slice a l.length c/\((l=[]/\a=none)\/∃d b e f g i,a=some ⟨d,b,none⟩/\h.c d=.row e f g i/\d<h.a/\∀k r,l[k]?=some r->(e.drop (b+k*5)).take 5=AQ r)
theorem A8.b{h:AA}{v:Value}{l:List AF}(q:A8 h v l){k:Nat}{r:AF}(o:l[k]?=some r):∃d p,BW Tryz.prog 22 v (.int .i64 (k:Int))=some (.pointer (some ⟨d,p,none⟩))/\d<h.a/\AI p (h.c d)=some (.int .i64 r.a)/\AI (p+1) (h.c d)=some (.string r.c)/\AI (p+2) (h.c d)=some (.int .i64 r.d)/\AI (p+3) (h.c d)=some (.int .i64 r.n)/\AI (p+4) (h.c d)=some (.int .i64 r.b)/\AX 5 p (h.c d)=some (.agg #[.int .i64 r.a,.string r.c,.int .i64 r.d,.int .i64 r.n,.int .i64 r.b]):=by
 obtain⟨a,c,rfl,⟨rfl,_⟩|⟨d,f,s,w,g,x,rfl,e,m,t⟩⟩:=q;.grind
 .have u:=(ae.1 o).1;have i:=t k r o;have b:∀j,j<5->s[f+k*5+j]?=(AQ r)[j]?:=fun j y=>by grind
  refine⟨d,f+k*5,?_,m,?_,?_,?_,?_,?_,?_⟩;.simp only[BW,bq,GC,CB];grind
  .rw[e];exact b 0 (by decide)
  .rw[e];exact b 1 (by decide)
  .rw[e];exact b 2 (by decide)
  .rw[e];exact b 3 (by decide)
  .rw[e];exact b 4 (by decide)
  .rw[e];simp only[AX,GN,i];rfl
theorem A8.c{h:AA}{v:Value}{l:List AF}(b:A8 h v l){h':AA}:CU Tryz.prog h' 22 v=some (.int .i64 l.length):=by obtain⟨a,c,rfl,_⟩:=b;exact WU
theorem A8.a{h h':AA}{v:Value}{l:List AF}(e:A8 h v l)(p:h.a<=h'.a)(q:∀i,i<h.a->h'.c i=h.c i):A8 h' v l:=by
 obtain⟨a,c,rfl,d|⟨f,b,j,k,g,m,rfl,d,n,o⟩⟩:=e;.exact⟨_,_,rfl,.inl d⟩
 .exact⟨_,_,rfl,.inr ⟨f,b,j,k,g,m,rfl,by grind,by omega,o⟩⟩
def iY:=aQ @JX.eq_1 (aQ @JX.eq_2 (aQ @RW.eq_1 (aQ @evs.eq_1 (aQ @F5.eq_1 (aQ @F5.eq_2 (aQ @F5.eq_3 (aQ @GU.eq_1 (aQ @GU.eq_2 (aQ @A_.eq_1 (aQ @A_.eq_2 (aQ @A_.eq_3 (aQ @A_.eq_4 (aQ @A_.eq_5 (aQ @A_.eq_6 (aQ @A_.eq_7 (aQ @A_.eq_8 (aQ @A_.eq_9 (aQ @A_.eq_10 (aQ @A_.eq_11 (aQ @A_.eq_12 (aQ @A_.eq_13 (aQ @A_.eq_14 (aQ @A_.eq_15 (aQ @A_.eq_16 (aQ @A_.eq_17 (aQ @A_.eq_18 (aQ @A_.eq_19 (aQ @A_.eq_20 (aQ @A_.eq_21 (aQ @A_.eq_22 (aQ @A_.eq_23 (aQ @A_.eq_24 (aQ @A_.eq_25 (aQ @A_.eq_26 (aQ @A_.eq_27 @A_.eq_28)))))))))))))))))))))))))))))))))))
def TC:=aQ iY (aQ @NB (aQ @Ov (aQ @Cl (aQ @Gl (aQ @Mr (aQ @Ks (aQ @Pj (aQ @Pg (aQ @Nc (aQ @Em (aQ @aI (aQ @Hf (aQ @Kc (aQ @Bd (aQ @Rk (aQ @Ro (aQ @Dk (aQ @Gb (aQ @Mw (aQ @dJ (aQ @Ff (aQ @Rs (aQ @Jh (aQ @WA (aQ @oZ (aQ @iG (aQ @Tr.b (aQ @Tr.d (aQ @nL (aQ @dp.{0,0} (aQ @dz.{0,0} (aQ @aj.{0} (aQ @mJ (aQ @dZ (aQ @a_ (aQ @pD (aQ @V6 (aQ @XQ (aQ @i6 (aQ @iW (aQ @Da (aQ @max2 (aQ @min2 (aQ @am (aQ @bk (aQ @ak.{0} (aQ @true_and (aQ @and_true (aQ @or_true (aQ @true_or (aQ @exists_eq_left'.{1} (aQ @dA.{0,0} (aQ @jq.{0,0} (aQ @l7 (aQ @cp.{0,0} (aQ @dw.{0} (aQ @dm.{0} (aQ @jn.{0} (aQ @Value.int.injEq (aQ @hJ (aQ @dr.{0} (aQ @fc.{0} (aQ @dl.{0} (aQ @ee (aQ @decide_false (aQ @fg.{0} (aQ @jQ (aQ @iM (aQ @jo (aQ @Bool.not_false (aQ @aV (aQ @ai.{1} (aQ @bi.{1} (aQ @OL (aQ @UM (aQ @Hw (aQ @Ph (aQ @dd (aQ @true_implies @Qo)))))))))))))))))))))))))))))))))))))))))))))))))))))))))))))))))))))))))))))))
def eE:=aQ @XF TC
def eP:=aQ @Rr @Dn
def DJ:=aQ @BU (aQ @CE (aQ @D_ (aQ @EJ (aQ @Rw (aQ @Sy (aQ @AM (aQ @HS (aQ @F4 (aQ @FX (aQ @Gz (aQ @NC (aQ @ZL (aQ @bJ (aQ @W9 (aQ @Eb (aQ @Bs (aQ @Ib (aQ @YF (aQ @JQ (aQ @TL (aQ @Pc (aQ @BB (aQ @PY (aQ @ZO (aQ @FY (aQ @YW (aQ @mZ (aQ @i5 (aQ @j9 (aQ @Nb (aQ @Jk (aQ @FC (aQ @Ki (aQ @Gu (aQ @az.{0} (aQ @bd.{0} (aQ @ao (aQ @fk (aQ @Bool.and_true (aQ @bg (aQ @BS (aQ @D7 (aQ @eJ (aQ @jO (aQ @X8 @WU)))))))))))))))))))))))))))))))))))))))))))))
def rP:=aQ @GW (aQ @OT (aQ @ZF (aQ @DE (aQ @C3 DJ))))
def rG:=aQ iY (aQ @Tr.d (aQ @nL (aQ @dJ (aQ @l7 (aQ @hJ (aQ @jQ (aQ @iM (aQ @WA (aQ @oZ (aQ @Tr.b (aQ @aj.{0} (aQ @ai.{1} (aQ @bi.{1} (aQ @iI (aQ @dA.{0,0} (aQ @jo (aQ @Bool.not_false (aQ @aV (aQ @true_and @D7)))))))))))))))))))
def A7:=aQ @eq_self.{1} (aQ @true_implies (aQ @jq.{0,0} (aQ @dA.{0,0} (aQ @ab (aQ @N6 (aQ @ee (aQ @dd @forall_const.{1})))))))
def BL:=aQ @iG (aQ @dw.{0} (aQ @dm.{0} (aQ @jn.{0} (aQ @dp.{0,0} (aQ @dz.{0,0} (aQ @BK (aQ @CZ (aQ @BS @BI))))))))
def BY:=aQ @az.{0} (aQ @bd.{0} (aQ @ao (aQ @CM (aQ @EK (aQ @CE (aQ @EJ (aQ @BU @D_)))))))
def KY:=aQ @CM (aQ @EK (aQ @CE (aQ @EJ (aQ @BU @D_))))
def C8:=aQ @V6 (aQ @XQ (aQ @X8 (aQ @eJ (aQ @a_ (aQ @pD (aQ @mJ (aQ @dZ (aQ @i6 @iW))))))))
theorem AG{P:Program}{call:AY}{n:Nat}{ops:Array Oper}{a:Nat}{F:List (Bool×Bool×List Operand)}{s:St}{k:DH}(d:C_ call)(i:Nat)(b:Option Tmp)(c:Op)(g:Option (Nat×Bool)){e f:Bool}{j:List Operand}(h:if FT ops s.T ⟨b,c,0, "",#[],g⟩then AC P call n ops a e f j (F.drop (i+1)) ⟨b,c,0, "",#[],g⟩ (ops.toList.drop (i+1)) s k (AB c)else BV P call n ops a (F.drop (i+1)) (ops.toList.drop (i+1)) ⟨s.T.c b undef,s.h⟩ k)(hi:(ops[i]?).map Go.Sx.seen=some (b,c,g):=by kernel_rfl)(l:F[i]?=some (e,f,j):=by rfl):BV P call n ops a (F.drop i) (ops.toList.drop i) s k:=BV.f i b c g hi l (fun _ _ _ m=>(jI d m).c) h
theorem DG{P:Program}{call:AY}{n:Nat}{ops:Array Oper}{a:Nat}{fs:List (Bool×Bool×List Operand)}{l:List Oper}{s:St}{k:DH}{c d:Bool}{e:List Operand}{o:Oper}(b:C_ call)(h:if FT ops s.T o then AC P call n ops a c d e fs o l s k (AB o.op)else BV P call n ops a fs l ⟨s.T.c o.dst undef,s.h⟩ k):BV P call n ops a ((c,d,e)::fs) (o::l) s k:=BV.c (fun _ _ _ f=>(jI b f).c) h
theorem DF{P:Program}{call:AY}{n:Nat}{ops:Array Oper}{a:Nat}{fs:List (Bool×Bool×List Operand)}{s:St}{k:DH}(h:k.a P call n .normal s):BV P call n ops a fs [] s k:=by rw[l_];exact h
def rF:=aQ @iI (aQ @l_ (aQ @N6 (aQ @CM (aQ @EK (aQ @Ml (aQ @BK @CZ))))))
section
variable (h:AA) (a b c d:BO)
theorem OP:let A:=(h.d a).d b
  A.c h.a=a/\A.c (h.a+1)=b/\A.a=h.a+2/\A.b=h.b/\∀i,i<h.a->A.c i=h.c i:=⟨by rw[AV (by show h.a<h.a+1;omega)];exact BJ,BJ (h:=h.d a),rfl,rfl,fun i e=>by rw[AV (by show i<h.a+1;omega),AV e]⟩
theorem kY:let A:=((h.d a).d b).d c
  A.c h.a=a/\A.c (h.a+1)=b/\A.c (h.a+2)=c/\A.a=h.a+3/\A.b=h.b/\∀i,i<h.a->A.c i=h.c i:=by obtain⟨e,f,g,j,k⟩:=OP h a b;exact⟨by rw[AV];exact e,by rw[AV];exact f,BJ (h:=(h.d a).d b),rfl,rfl,fun i l=>by rw[AV];grind⟩
theorem i_:let A:=(((h.d a).d b).d c).d d
  A.c h.a=a/\A.c (h.a+1)=b/\A.c (h.a+2)=c/\A.c (h.a+3)=d/\A.a=h.a+4/\A.b=h.b/\∀i,i<h.a->A.c i=h.c i:=by obtain⟨e,f,g,j,k,l⟩:=kY h a b c;exact⟨by rw[AV];exact e,by rw[AV];exact f,by rw[AV];exact g,BJ (h:=((h.d a).d b).d c),rfl,rfl,fun i m=>by rw[AV];grind⟩
end
theorem BX{a n:Nat}(h:a<n):∃j,n=j+1:=⟨n-1,by omega⟩
theorem DU(i:Nat)(h:i<9223372036854775807:=by omega):IntKind.i64.wrap ((i:Int)+1)=((i+1:Nat):Int):=BR
theorem C9(l:List Value):(Value.agg l.toArray).cells.toList=l:=rfl
theorem I3:(Value.agg #[.int .i64 0,.int .i64 0]).cells.toList=[.int .i64 0,.int .i64 0]:=rfl
theorem PK:(Value.agg #[.string ByteArray.empty,.slice none 0 0,.slice none 0 0,.slice none 0 0,.slice none 0 0,.slice none 0 0,.slice none 0 0,.int .i64 0]).cells.toList=[.string ByteArray.empty,.slice none 0 0,.slice none 0 0,.slice none 0 0,.slice none 0 0,.slice none 0 0,.slice none 0 0,.int .i64 0]:=rfl
def AJ:Bool×Bool×List Operand:=(false,false,[])
def AO:Bool×Bool×List Operand:=(false,true,[])
def DT:Bool×Bool×List Operand:=(true,true,[])
def AH(l:List Operand):Bool×Bool×List Operand:=(false,true,l)
def BP(l:List Operand):Bool×Bool×List Operand:=(true,true,l)
abbrev Z0:Value:=.slice none 0 0
abbrev CO:List Value:=[.string ByteArray.empty,Z0,Z0,Z0,Z0,Z0,Z0,.int .i64 0]
abbrev FG:List Value:=[.int .i64 0,.string ByteArray.empty,.int .i64 0,.int .i64 0,.int .i64 0]
abbrev qP(a o:Nat):Value:=.pointer (some ⟨a,o,none⟩)
abbrev qS(a n c:Nat):Value:=.slice (some ⟨a,0,none⟩) n c
theorem oe:Tryz.prog.globals.size<=1:=by simp
noncomputable def VW(m:Nat)(call:AY):AY:=fun f a h=>if a.all RC then match call f a (GK m 0)with|some (v,_)=>if E5 v then some (v,h)else none|none=>none else none
theorem Mm{m:Nat}{call:AY}{f:FuncId}{args:List Value}{h h':AA}{v:Value}(a:VW m call f args h=some (v,h')):args.all RC=true/\(∃b,call f args (GK m 0)=some (v,b))/\E5 v=true/\h'=h:=by unfold VW at a;grind
theorem og{m:Nat}{call:AY}{f:FuncId}{args:List Value}{h:AA}{v:Value}(c:args.all RC=true)(d:E5 v=true)(b:∃a,call f args (GK m 0)=some (v,a)):VW m call f args h=some (v,h):=by obtain⟨a,e⟩:=b;unfold VW;grind
theorem Te{P:Program}{call:AY}(w:EN P call){m:Nat}(C:P.globals.size<=m):EN P (VW m call)/\C_ (VW m call):=by
 refine⟨fun f b h v x d=>?_,fun f b h v x d=>?_⟩
 .obtain⟨y,⟨D,z⟩,r,rfl⟩:=Mm d;obtain⟨j,k⟩:=w _ _ _ _ _ z;refine⟨j,fun s W c t a=>?_⟩;have l:CV P (EB s m) (GK m 0) W:=wS (fun i E=>by unfold EB;grind) fun g n=>by rw[L9];exact t.b g n
  have o:∀i,¬wr ((GK m 0).c i):=fun i u=>by rw[R6]at u;exact u
  refine(k _ W c l (Og y a)).mono fun e F⟨V,A,p,B,q⟩=>⟨V,s,p,(Nx.a t).h (B.c.g o),?_⟩;rw[Ga r q];exact Hm r
 .obtain⟨_,_,_,rfl⟩:=Mm d;exact .a _
noncomputable def SW(fs:List FuncId)(base:AY)(k:Nat):AY:=JE base (PQ fs (VW 1 (AW Tryz.prog (J2 Tryz.prog base k) k)))
section
variable {fs:List FuncId} {k:Nat} {base:AY} {f:FuncId} {args:List Value} {h:AA} {v:Value} {r:Value × AA}
theorem Al(a:EN Tryz.prog base/\C_ base):EN Tryz.prog (SW fs base k)/\C_ (SW fs base k):=UJ a (tK (Te (WC NA (S7 NA a.1 a.2 k).1 (S7 NA a.1 a.2 k).2 k).1 oe))
theorem JO(a:base f args h=some r):SW fs base k f args h=some r:=eI a
theorem JP(a:base f args h=none)(b:fs.contains f=false):SW fs base k f args h=none:=by unfold SW JE PQ;grind
theorem HJ(g:base f args h=none)(i:fs.contains f=true)(a:args.all RC=true)(b:E5 v=true)(c:∃d,AW Tryz.prog (J2 Tryz.prog base k) k f args (GK 1 0)=some (v,d)):SW fs base k f args h=some (v,h):=by have e:VW 1 (AW Tryz.prog (J2 Tryz.prog base k) k) f args h=some (v,h):=og a b c;unfold SW JE PQ;grind
end
theorem ofEx{a:Type}{p:a->Prop}{q:a->Prop}(h:∃x,p x/\q x):∃x,p x:=h.elim fun x b=>⟨x,b.1⟩
def LR:List Int:=(List.range 54).map fun(i:Nat)=>(i:Int)+1
theorem mH{k:Int}(h:1<=k/\k<=54):k∈LR:=jr.2 ⟨(k-1).toNat,by grind,by omega⟩
noncomputable def LD(f:FuncId)(b:Int->List Value)(a:Int->Value):Bool:=LR.all fun k=>match AW Tryz.prog (J2 Tryz.prog PN 12) 12 f (b k) (GK 1 0)with|some (v,_)=>ZV v (a k)|none=>false
theorem LV{f:FuncId}{b:Int->List Value}{a:Int->Value}(h:LD f b a=true){k:Int}(d:1<=k/\k<=54):∃c,AW Tryz.prog (J2 Tryz.prog PN 12) 12 f (b k) (GK 1 0)=some (a k,c):=by
 have:=bm.1 h k (mH d);split at this
 .rename_i v c e;rw[jS this]at e;grind
 grind
def EG(k:Int):Int:=if k=54 then 1 else if k=53 then 2 else if k>=47 then 3 else if k>=45 then 4 else if k>=43 then 5 else if k>=41 then 6 else if k>=27 then 7 else 0
def G0(k:Int):Int:=if[1,11,26,31,32,35,36,37,38,39,40,41,42].contains k then 1 else 0
def CR(k:Int):Int:=if[2,3].contains k then 1 else if k=4 then 2 else if k=5 then 3 else if k=7 then 4 else 0
def FN(k:Int):Int:=if[8,9,16,17,19,20,21,24,26,31,32,35,36,37].contains k then 1 else if[14,28].contains k then 2 else if[15,38].contains k then 3 else if k=22 then 4 else 0
def E9(k:Int):Bool:=decide (k>=8)&&decide (k<=10)
def WG(k:Int)(j:Nat):Int:=if k=1 then 1 else CH k j
abbrev iv(x:Int):Value:=.int .i64 x
theorem oh:LD 185 (fun k=>[iv k]) (fun k=>.agg #[.bool (KD k),.bool (MP k),.bool (k==27),iv (F8 k),iv (DV k)])=true:=by kernel_rfl
theorem Hd:LD 289 (fun k=>[iv k]) (fun k=>iv (EG k))=true:=by kernel_rfl
theorem Wa:LD 246 (fun k=>[iv k]) (fun k=>iv (G0 k))=true:=by kernel_rfl
theorem ol:LD 124 (fun k=>[iv k]) (fun k=>iv (CR k))=true:=by kernel_rfl
theorem om:LD 126 (fun k=>[iv k]) (fun k=>iv (FN k))=true:=by kernel_rfl
theorem oo:LD 127 (fun k=>[iv k]) (fun k=>.bool (E9 k))=true:=by kernel_rfl
theorem oq:LD 89 (fun k=>[iv k]) (fun k=>iv (CR k))=true:=by kernel_rfl
theorem ot:LD 91 (fun k=>[iv k]) (fun k=>iv (FN k))=true:=by kernel_rfl
theorem oy:LD 93 (fun k=>[iv k]) (fun k=>.bool (E9 k))=true:=by kernel_rfl
theorem oz:LD 256 (fun k=>[iv k]) (fun k=>iv (EG k))=true:=by kernel_rfl
theorem Wb:LD 253 (fun k=>[iv k]) (fun k=>.bool (KD k))=true:=by kernel_rfl
theorem oA:LD 252 (fun k=>[iv k]) (fun k=>.bool (MP k))=true:=by kernel_rfl
theorem Wv:LD 255 (fun k=>[iv k]) (fun k=>.tuple #[iv (F8 k),iv (DV k)])=true:=by kernel_rfl
theorem oC:LD 219 (fun k=>[iv k,iv 0]) (fun k=>iv (WG k 0))=true:=by kernel_rfl
theorem oQ:LD 219 (fun k=>[iv k,iv 1]) (fun k=>iv (WG k 1))=true:=by kernel_rfl
theorem oX:LD 219 (fun k=>[iv k,iv 2]) (fun k=>iv (WG k 2))=true:=by kernel_rfl
theorem pd:LD 188 (fun k=>[iv k,iv 0]) (fun k=>iv (CH k 0))=true:=by kernel_rfl
theorem pg:LD 188 (fun k=>[iv k,iv 1]) (fun k=>iv (CH k 1))=true:=by kernel_rfl
theorem pj:LD 188 (fun k=>if k=15 then[iv 1,iv 2]else[iv k,iv 2]) (fun k=>if k=15 then iv (CH 1 2)else iv (CH k 2))=true:=by kernel_rfl
def Gs:List Int:=(List.range 256).map fun(i:Nat)=>(i:Int)
theorem pk{k:Nat}(h:k<256):(k:Int)∈Gs:=jr.2 ⟨k,by grind,rfl⟩
noncomputable def cD(f:FuncId)(a:Int->Bool):Bool:=Gs.all fun k=>match AW Tryz.prog (J2 Tryz.prog PN 12) 12 f [.int .u8 k] (GK 1 0)with|some (v,_)=>ZV v (.bool (a k))|none=>false
theorem nI{f:FuncId}{a:Int->Bool}(h:cD f a=true)(b:UInt8):∃c,AW Tryz.prog (J2 Tryz.prog PN 12) 12 f [.int .u8 (b.toNat:Int)] (GK 1 0)=some (.bool (a (b.toNat:Int)),c):=by
 have:=bm.1 h _ (pk (UInt8.toNat_lt b));split at this
 .rename_i v c d;rw[jS this]at d;grind
 grind
def HR(c:Int):Bool:=(decide (c>=97)&&decide (c<=122))||(decide (c>=65)&&decide (c<=90))||c==95
def JH(c:Int):Bool:=decide (c>=48)&&decide (c<=57)
theorem pl:cD 242 HR=true:=by kernel_rfl
theorem pm:cD 244 JH=true:=by kernel_rfl
theorem Tt:cD 296 HR=true:=by kernel_rfl
theorem pt:cD 297 JH=true:=by kernel_rfl
section
variable {call:AY} {n:Nat} {h:AA}
theorem px{a kind:Int}:AW Tryz.prog call n 184 [iv a,iv kind] h=some (.bool (CX a kind),h):=by
 refine DO Tryz.func184 rfl (by simp) ?_;have c:Tryz.f184.results.toList=[.tmp 4]:=rfl;unfold CX;by_cases k:a=8;.subst k;simp only[eE,seval,↓eP,c]
 have d:(a==8)=false:=by grind
 by_cases l:a=0
 .subst l;cases b:decide (kind>=2)<;>simp only[eE,seval,↓eP,rP,c,d,b]<;>simp
 have e:(a==0)=false:=by grind
 by_cases m:a=1;.subst m;cases b:decide (kind>=8)<;>simp only[eE,seval,↓eP,rP,c,d,e,b]<;>simp
 have f:(a==1)=false:=by grind
 by_cases o:a=2;.subst o;simp only[eE,seval,↓eP,c,d,e,f]<;>simp
 have g:(a==2)=false:=by grind
 by_cases p:a=3
 .subst p;cases b:decide (kind>=11)<;>simp only[eE,seval,↓eP,rP,c,d,e,f,g,b]<;>simp
 have i:(a==3)=false:=by grind
 by_cases q:a=4;.subst q;cases b:(kind==11)<;>simp only[eE,seval,↓eP,c,d,e,f,g,i,b]<;>simp
 have j:(a==4)=false:=by grind
 by_cases r:a=5;.subst r;cases b:(kind==25)<;>simp only[eE,seval,↓eP,c,d,e,f,g,i,j,b]<;>simp
 have s:(a==5)=false:=by grind
 by_cases t:a=6;.subst t;simp only[eE,seval,↓eP,c,d,e,f,g,i,j,s]<;>simp
 have u:(a==6)=false:=by grind
 rw[ad k,ad l,ad m,ad o,ad p,ad q,ad r,ad t];cases b:decide (kind>=27)<;>simp only[eE,seval,↓eP,rP,c,d,e,f,g,i,j,s,u,b]<;>simp
end
end Go.Proofs.YtjailoenloejbaaGreatDoor




