/- Part 15. -/
import Derived.Test.YtjailoenloejbaaGreatDoorDV14
set_option linter.all false
namespace Go.Proofs.YtjailoenloejbaaGreatDoor
open Go Go.Sx Go.Proofs.Tryz
set_option maxRecDepth 100000
set_option maxHeartbeats 0
structure ON (s:AS):Prop where
 q:s.b.length<=16
 v:s.f.length<=16
 t:s.g.length<=4
 u:s.d.length<=64
 o:s.h.length=s.b.length
 a:∀ t∈s.e,1<=t.a/\t.a<=4/\0<=t.c/\t.c<CI s t.a/\0<=t.b
theorem W8(k:Int):0<=CR k/\CR k<=4:=by unfold CR;omega
theorem Jt(k:Int):0<=FN k/\FN k<=4:=by unfold FN;(repeat' split)<;>omega
theorem OH{l:List AF}{k:Nat}{n:Int}{x:AF}(a:l[k]?=some x):(JF l k n)[k]?=some {x with n:=n}:=by unfold JF;grind
theorem qZ{s:AS}(a:ON s)(k:Int):CI s k<=64:=by have:=a.q;have:=a.v;have:=a.t;have:=a.u;unfold CI;grind
section
variable {call:AY} {N:Nat} {h:AA} {lo m k c e r n:Nat} {nm:ByteArray} {E:List Int} {F:List Nat} {tag:Nat->Nat} {vq vv vt vu vo:Value} {es:List (Value × Value)} {s:AS}
def HG(h:AA)(lo m k c e r n:Nat)(nm:ByteArray)(E:List Int)(F:List Nat)(s:AS):Prop:=∃tag vq vv vt vu vo es,DD h lo m k c e r n nm E tag vq vv vt vu vo es s/\aF es s/\ON s/\∀i∈F,i<h.a/\11<=tag i
def IR(h H:AA)(lo:Nat)(F:List Nat):Prop:=(∀i,i<lo\/i∈F->H.c i=h.c i)/\h.a<=H.a/\H.b=h.b
theorem tx{s s':AS}{kd:Int}{es:List (Value×Value)}(a:aF es s)(h1:CI s' kd=CI s kd+1)(g:∀k,1<=k->k<=4->k≠kd->CI s' k=CI s k):aF (JU (iv kd) (iv ((CI s kd:Int)+1)) es) s':=by
 refine⟨Mn _ _ _ a.1,fun k b d=>?_⟩;rw[Eh _ _ _ _ a.1];by_cases f:k=kd;.grind
 .rw[ad f,g k b d f];exact a.2 k b d
theorem Ah{s:AS}{at_:Nat}{end_:Int}{x:AF}{k:Int}(i:1<=k/\k<=4):CI (HE at_ end_ x s) k=CI s k+(if k=CR x.a then 1 else 0):=by
 have j:=W8 x.a;generalize b:CR x.a=a at*;unfold CI HE;rw[b];obtain rfl|rfl|rfl|rfl:k=1\/k=2\/k=3\/k=4:=by omega
 all_goals
  by_cases e:a=1;.subst e;simp
  by_cases d:a=2;.subst d;simp
  by_cases f:a=3;.subst f;simp
  by_cases g:a=4;.subst g;simp
  simp[e,d,f,g,bc e,bc d,bc f,bc g];try omega
theorem uR{s:AS}{at_:Nat}{end_:Int}{x:AF}(d:ON s)(l:CR x.a≠0)(f:(CI s (CR x.a):Int)≠JY (CR x.a))(z:0<=end_):ON (HE at_ end_ x s):=by
 have A:=W8 x.a;have o:=d.q;have p:=d.v;have q:=d.t;have u:=d.u;have B:=d.o;have v:=d.a;have j:=fun k(g:1<=k/\k<=4)=>Ah (s:=s) (at_:=at_) (end_:=end_) (x:=x) g;have w:∀t∈(HE at_ end_ x s).e,1<=t.a/\t.a<=4/\0<=t.c/\t.c<CI (HE at_ end_ x s) t.a/\0<=t.b:=by
  intro t i;simp only[HE,ji,fv,gH,or_false]at i;grind
 generalize a:CR x.a=y at*;have e:∀k,k=y->1<=k->CI s k≠(JY k).toNat:=by
  intro k g b h;subst g;apply f;rw[h];unfold JY;omega
 constructor
 .simp only[HE,a];split
  .rename_i b;have:=e 1 b.symm (by omega);simp[CI,JY]at this;grind
  .exact o
 .simp only[HE,a];split
  .rename_i b;have:=e 2 b.symm (by omega);simp[CI,JY]at this;grind
  .exact p
 .simp only[HE,a];split
  .rename_i b;have:=e 3 b.symm (by omega);simp[CI,JY]at this;grind
  .exact q
 .simp only[HE,a];split
  .rename_i b;have:=e 4 b.symm (by omega);simp[CI,JY]at this;grind
  .exact u
 .simp only[HE,a];grind
 assumption
theorem Vh(q:C_ call){at_:Nat}{end_:Int}{x:AF}(g:HG h lo m k c e r n nm E F s)(I:s.a[at_]?=some x)(t:1<=x.a/\x.a<=54)(L:n<30000000000000)(he:0<=end_)(M:∀k a,1<=k/\k<=54->call 124 [iv k] a=some (iv (CR k),a))(O:∀k a,call 125 [iv k] a=some (iv (JY k),a)):∃a,AW prog call N 65 [qP m 0,iv at_,iv end_] h=some (iv (FV x s),a)/\(IR h a lo F/\(FV x s=0->HG a lo m k c e r n nm E F (CQ at_ end_ x s))):=by
 obtain⟨tag,vq,vv,vt,vu,vo,es,g,P,j,hF⟩:=g;have h1:∀i,i<lo\/i∈F->i<lo\/(i<h.a/\11<=tag i):=by grind
 have z:∀i,i<lo\/i∈F->i<h.a:=fun i l=>by have:=g.f;grind
 refine EA (R:=fun a=>IR h a lo F/\(FV x s=0->HG a lo m k c e r n nm E F (CQ at_ end_ x s))) func65 rfl (by simp) ?_;have hr:f65.results.toList=[.tmp 6]:=rfl;generalize Q:DH.top (fun ex u=>(ex=FJ.normal\/ex=FJ.ret)/\∃vs,F5 prog u f65.results.toList=some vs/\GU vs=iv (FV x s)/\IR h u.h lo F/\(FV x s=0->HG u.h lo m k c e r n nm E F (CQ at_ end_ x s)))=K;have b:∀(A:Tr)H v,A.a 6=iv v->v=FV x s->IR h H lo F->(v=0->HG H lo m k c e r n nm E F (CQ at_ end_ x s))->K.a prog call N .ret ⟨A,H⟩:=fun A H v w hv ha hb=>by
  subst hv;rw[<-Q];simp only[eE,reduceCtorEq,hr,w];grind
 show WK _ _ _ (.seq _ (.seq _ (.seq _ (.seq _ D5)))) _ _;have B:=g.L;obtain⟨C,l0,l1,l2,l3,l4,lr⟩:=g.y I;have o:=fun a=>M x.a a t;have y:=W8 x.a;by_cases d0:CR x.a=0
 .have dE:FV x s=0:=by unfold FV;omega
  have dS:CQ at_ end_ x s=s:=by unfold CQ;grind
  have S:(CR x.a==0)=true:=by grind
  simp only[eE,seval,↓eP,rP,M5,CK,CJ,B,NE C,l0,o,S];exact b _ _ 0 (by simp only[Tr.b,ai]) dE.symm ⟨fun _ _=>rfl,af _,rfl⟩ fun _=>by rw[dS];exact⟨tag,vq,vv,vt,vu,vo,es,g,P,j,hF⟩
 .have S:(CR x.a==0)=false:=by grind
  simp only[eE,seval,↓eP,rP,M5,CK,CJ,B,NE C,l0,o,S];have h2:lo<=h.a:=by grind
  refine tq q g I (by simp only[eE,seval]) (by simp only[eE,seval]) (fun A H hf w J L d=>?_) fun A H hf p J D d=>?_;.exact b _ _ 31 w (by unfold FV;grind) ⟨fun i l=>J i (z i l),L,d⟩ fun h=>by cases h
  .have T:=g.o D d (fun _ _=>rfl) fun i _ l=>J i l;have h3:¬(I8 s.e x.c).isSome=true:=by grind
   have h4:=qZ j (CR x.a);refine tt (end_:=end_) q T I P (by omega) y.2 (by omega) (fun a=>O _ a) hf (by rw[p 0 (by decide)];simp only[eE,seval]) (by rw[p 2 (by decide)];simp only[eE,seval]) (by rw[p 7 (by decide)];simp only[eE,seval]) (by rw[p 8 (by decide)];simp only[eE,seval]) (fun T2 hc w=>?_) fun T2 H2 hc f U h5 h7 h8=>?_;.exact b _ _ 3 w (by unfold FV;grind) ⟨fun i l=>J i (z i l),D,d⟩ fun h=>by cases h
   .have hq:=j.q;have hv:=j.v;have ht:=j.t;have hu:=j.u;have h9:=j.o;refine tu q U (at_:=at_) (x:={x with n:=(CI s (CR x.a):Int)}) (OH I) (by omega) y.2 ⟨by grind,by grind,by grind,by grind,by grind⟩ L
     (by rw[f 0 (by decide),p 0 (by decide)];simp only[eE,seval]) (by rw[f 1 (by decide),p 1 (by decide)];simp only[eE,seval]) (by rw[f 7 (by decide),p 7 (by decide)];simp only[eE,seval]) (by rw[f 8 (by decide),p 8 (by decide)];simp only[eE,seval]) fun T3 H3 G V W X Y Z w h0 g0 g1 g2 g3=>?_;have hS:CQ at_ end_ x s=HE at_ end_ x s:=by unfold CQ;grind
    refine b _ _ 0 w (by unfold FV;grind) ⟨fun i l=>by grind,by omega,by omega⟩ fun _=>?_;rw[hS];refine⟨G,V,W,X,Y,Z,_,h0,tx P ?_ ?_,uR j d0 hc he,fun i l=>?_⟩;.exact(Ah ⟨by omega,y.2⟩).trans (by simp)
    .intro k k1 k4 hk;exact(Ah ⟨k1,k4⟩).trans (by grind)
    grind
end
theorem OS{P:Program}:BZ P Go.program=some P:=rfl
theorem KU{P:Program}{b:Type}{a:b}:BZ P (pure a:Sem b)=some a:=rfl
theorem O8{P:Program}{t:TypeId}{c k:IntKind}{a b:Int}(h:P.underlying t=some (.int c))(d:Nat):BZ P (Op.equalIn (d+1) t (.int k a) (.int k b))=some (a==b):=by rw[Op.equalIn,EF,R3 h];simp[KU]
theorem mS{a b:Int}:BZ prog (part 3 #[.int .i64 a,.int .i64 b] 0)=some (.int .i64 a)/\BZ prog (part 3 #[.int .i64 a,.int .i64 b] 1)=some (.int .i64 b)/\BZ prog (part 41 #[.int .i64 a,.int .i64 b] 0)=some (.int .i64 a):=⟨rfl,rfl,rfl⟩
theorem tz:prog.stoodInHeld 200=false:=by simp
abbrev IT(a b:Int):Value:=.agg #[.int .i64 a,.int .i64 b]
theorem Dr{a b:Int}:flat (IT a b)=true:=rfl
theorem tB{a b c d:Int}(n:Nat):BZ prog (Op.equalIn (n+2) 200 (IT a b) (IT c d))=some (a==c&&b==d):=by rw[Op.equalIn,EF,R3 underlying200];simp only[cp,EF,OS,tz,aV,bi];simp only[List.forIn_toArray,List.forIn_cons,List.forIn_nil,ne_eq,String.reduceEq,not_false_eq_true,ai,EF,mS.1,cp,O8 dc];cases f:(a==c)<;>cases e:(b==d)<;>simp[EF,KU,mS.2.1,O8 dc,e,-beq_iff_eq,-beq_eq_false_iff_ne]
theorem Hr{x y:Operand}{a b c d:Int}:CT prog .neq 200 x y (IT a b) (IT c d)=some (.bool (!(a==c&&b==d))):=by
 have e:BZ prog (do eqGuard .neq 200 x y (IT a b) (IT c d);binOp .neq 200 (IT a b) (IT c d))=some (.bool (!(a==c&&b==d))):=by
  rw[EF];have g:BZ prog (eqGuard .neq 200 x y (IT a b) (IT c d))=some ():=by
   unfold eqGuard;simp[EF,OS,KU]
  rw[g];show BZ prog ((do pure (.bool (!(<-Op.equal 200 (IT a b) (IT c d))))):Sem Value)=_;rw[EF];have k:BZ prog (Op.equal 200 (IT a b) (IT c d))=some (a==c&&b==d):=tB 9998;rw[k];rfl
 simp only[CT,Dr,ao,ai,e,OL]
noncomputable def C5:Code:=rt (rt (rt (rt (f66.body.getD .skip))))
noncomputable def Gn:Array Oper:=B9 f66 5
def tO:List (Bool×Bool×List Operand):=[AO,AO,AO,AO,AH [.tmp 26],AH [.tmp 26],AH [.tmp 26],AH [.tmp 26],AJ,AJ,AJ,AJ,AH [.tmp 26,.tmp 30,.tmp 27],AJ,AJ]
theorem tP:CA Gn=tO:=by kernel_rfl
theorem Er{a b c:Value}{ty:TypeId}{g ro:Bool}:AX 2 0 (.row [a,b,c] ty g ro)=some (.agg #[a,b]):=rfl
section
variable {call:AY} {N:Nat} {h:AA} {lo m k c e r n:Nat} {nm:ByteArray} {E:List Int} {F:List Nat} {tag:Nat->Nat} {vq vv vt vu vo:Value} {es:List (Value × Value)} {s:AS}
theorem tT(f:C_ call){at_:Nat}{x:AF}(p:HG h lo m k c e r n nm E F s)(hx:s.a[at_]?=some x)(I:1<=x.a/\x.a<=54)(hn:n<30000000000000)(W:∀k u,1<=k/\k<=54->call 126 [iv k] u=some (iv (FN k),u)):∃u,AW prog call N 66 [qP m 0,iv at_] h=some (iv (EI at_ x s),u)/\(IR h u lo F/\(EI at_ x s=0->HG u lo m k c e r n nm E F (C2 at_ x s))):=by
 obtain⟨tag,vq,vv,vt,vu,vo,es,p,hm,z,X⟩:=p;have h5:∀i,i<lo\/i∈F->i<lo\/(i<h.a/\11<=tag i):=by grind
 have J:∀i,i<lo\/i∈F->i<h.a:=fun i q=>by have:=p.f;grind
 refine EA (R:=fun u=>IR h u lo F/\(EI at_ x s=0->HG u lo m k c e r n nm E F (C2 at_ x s))) func66 rfl (by simp) ?_;have hr:f66.results.toList=[.tmp 4]:=rfl;generalize Y:DH.top (fun ex L=>(ex=FJ.normal\/ex=FJ.ret)/\∃vs,F5 prog L f66.results.toList=some vs/\GU vs=iv (EI at_ x s)/\IR h L.h lo F/\(EI at_ x s=0->HG L.h lo m k c e r n nm E F (C2 at_ x s)))=K;have w:∀(Z:Tr)H v,Z.a 4=iv v->v=EI at_ x s->IR h H lo F->(v=0->HG H lo m k c e r n nm E F (C2 at_ x s))->K.a prog call N .ret ⟨Z,H⟩:=fun Z H v h6 hv ha hb=>by
  subst hv;rw[<-Y];simp only[eE,reduceCtorEq,hr,h6];grind
 show WK _ _ _ (.seq _ (.seq _ (.seq _ (.seq _ C5)))) _ _;have P:=p.L;obtain⟨Q,l0,l1,l2,l3,l4,lr⟩:=p.y hx;have A:=fun u=>W x.a u I;have h7:=Jt x.a;by_cases d0:FN x.a=0
 .have y:EI at_ x s=0:=by unfold EI;omega
  have dS:C2 at_ x s=s:=by unfold C2;grind
  have b0:(FN x.a==0)=true:=by grind
  simp only[eE,seval,↓eP,rP,M5,CK,CJ,P,NE Q,l0,A,b0];exact w _ _ 0 (by simp only[Tr.b,ai]) y.symm ⟨fun _ _=>rfl,af _,rfl⟩ fun _=>by rw[dS];exact⟨tag,vq,vv,vt,vu,vo,es,p,hm,z,X⟩
 .have b0:(FN x.a==0)=false:=by grind
  simp only[eE,seval,↓eP,rP,M5,CK,CJ,P,NE Q,l0,A,b0];have h8:lo<=h.a:=by grind
  show WK _ _ _ (.seq (.region _ _ true) _) _ _;rw[NB];have c8:=p.M;have g:=Ez (x:=x.c) p.d;have h9:=p.f.2;have g0:=p.l.2;have g1:=p.a.b.2;have S:h.b<=h.a:=by have:=p.t;omega
  have n1:(some m !=some h.a)=true:=by grind
  have n2:(some r !=some h.a)=true:=by grind
  have n3:(some k !=some h.a)=true:=by grind
  have T:(h.d (.row [iv 0,iv 0,iv 0] 202 false false)).c h.a=.row [iv 0,iv 0,iv 0] 202 false false:=BJ;have U:=fun a b d=>Kz (a:=iv a) (b:=iv b) (c:=iv d) T (by exact S) rfl;have B:∀o i,i<h.a->((h.d (.row [iv 0,iv 0,iv 0] 202 false false)).e h.a o).c i=h.c i:=fun o i q=>by rw[AP (by show h.a<h.a+1;omega) (by omega),AV q]
  have h1:∀o,((h.d (.row [iv 0,iv 0,iv 0] 202 false false)).e h.a o).c h.a=o:=fun o=>BE rfl (by show h.a<h.a+1;omega);have C:flat (.agg #[iv 0,iv 0,iv 0])=true:=rfl;have D:=C9 [iv 0,iv 0,iv 0];have i1:DP (qP m 8)=some m:=rfl;have i2:DP (.pointer (some ⟨r,at_*5+1,none⟩))=some r:=rfl;have i3:DP (.map (some k))=some k:=rfl;have i4:DP (qP h.a 0)=some h.a:=rfl;refine WK.a (ops:=Gn) tP ?_;refine BV.a ?_;refine AG f 0 (some 24) (.move (.tmp 0)) none ?_;simp only[rG,seval,AB,AD,AC];refine AG f 1 (some 25) (.nilCheck (.tmp 24)) none ?_;simp only[rG,seval,AB,AD,AC];refine AG f 2 (some 26) (.fieldAddr 123 (.tmp 25) 1) none ?_;simp only[rG,seval,AB,AD,AC,ab,qY];refine AG f 3 (some 27) (.load 120 (.tmp 26)) none ?_;simp only[rG,seval,AB,AC,A7,uZ,c8];refine AG f 4 (some 28) (.move (.tmp 5)) none ?_;simp only[rG,seval,AB,AD,AC];refine AG f 5 (some 29) (.nilCheck (.tmp 28)) none ?_;simp only[rG,seval,AB,AD,AC];refine AG f 6 (some 30) (.fieldAddr 125 (.tmp 29) 1) none ?_;simp only[rG,seval,AB,AD,AC,PY];refine AG f 7 (some 31) (.load 9 (.tmp 30)) none ?_;simp only[rG,seval,AB,AC,A7,HS,l1];cases hf:I8 s.e x.c with
  |none=>
   rw[hf]at g;refine AG f 8 (some 32) (.lookup 120 (.tmp 27) (.tmp 31) true) none ?_;simp only[rG,seval,AB,AC,A7,g,i3];refine AG f 9 (some 23) (.move (.tmp 32)) none ?_;simp only[rG,seval,AB,AD,AC];refine AG f 10 (some 33) (.extract (.tmp 23) 0) none ?_;simp only[rG,seval,AB,AD,AC,dr,dl];refine AG f 11 (some 34) (.extract (.tmp 23) 1) none ?_;simp only[rG,seval,AB,AD,AC,dr,fc,dl];refine AG f 12 (some 7) (.alloc 202) none ?_;simp only[rG,seval,AB,AC,KY,ZG,C,D];refine AG f 13 (none) (.store 202 (.tmp 7) (.tmp 33)) none ?_;simp only[rG,seval,AB,AC,target,BY,U,i4,target];refine AG f 14 (some 8) (.assign (.tmp 34)) none ?_;simp only[rG,seval,AB,AD,AC];refine BV.b (i:=15) (by kernel_rfl) ?_;have y:EI at_ x s=32:=by unfold EI;grind
   simp only[eE,seval,↓eP];exact w _ _ 32 (by simp only[Tr.b,ai]) y.symm ⟨fun i q=>B _ i (J i q),by show h.a<=h.a+1;omega,rfl⟩ fun h=>by cases h|some t=>
   rw[hf]at g;refine AG f 8 (some 32) (.lookup 120 (.tmp 27) (.tmp 31) true) none ?_;simp only[rG,seval,AB,AC,A7,g,i3];refine AG f 9 (some 23) (.move (.tmp 32)) none ?_;simp only[rG,seval,AB,AD,AC];refine AG f 10 (some 33) (.extract (.tmp 23) 0) none ?_;simp only[rG,seval,AB,AD,AC,dr,dl];refine AG f 11 (some 34) (.extract (.tmp 23) 1) none ?_;simp only[rG,seval,AB,AD,AC,dr,fc,dl];refine AG f 12 (some 7) (.alloc 202) none ?_;simp only[rG,seval,AB,AC,KY,ZG,C,D];refine AG f 13 (none) (.store 202 (.tmp 7) (.tmp 33)) none ?_;simp only[rG,seval,AB,AC,target,BY,U,i4,target];refine AG f 14 (some 8) (.assign (.tmp 34)) none ?_;simp only[rG,seval,AB,AD,AC];refine BV.b (i:=15) (by kernel_rfl) ?_;have j:DD ((h.d (.row [iv 0,iv 0,iv 0] 202 false false)).e h.a (.row [iv t.a,iv t.c,iv t.b] 202 false false)) lo m k c e r n nm E tag vq vv vt vu vo es s:=p.u;have V:=B (.row [iv t.a,iv t.c,iv t.b] 202 false false);have M:=h1 (.row [iv t.a,iv t.c,iv t.b] 202 false false);have g2:((h.d (.row [iv 0,iv 0,iv 0] 202 false false)).e h.a (.row [iv t.a,iv t.c,iv t.b] 202 false false)).a=h.a+1:=rfl;have O:((h.d (.row [iv 0,iv 0,iv 0] 202 false false)).e h.a (.row [iv t.a,iv t.c,iv t.b] 202 false false)).b=h.b:=rfl;generalize(h.d (.row [iv 0,iv 0,iv 0] 202 false false)).e h.a (.row [iv t.a,iv t.c,iv t.b] 202 false false)=H1 at*;generalize g3:h.a=d at*;have h2:=List.mem_of_find?_eq_some hf;obtain⟨q1,q2,q3,q4,q5⟩:=z.a t h2;cases dk:decide (t.b>(at_:Int))with
   |true=>
    have y:EI at_ x s=32:=by unfold EI;grind
    simp only[eE,seval,↓eP,rP,rT,M,dk];exact w _ _ 32 (by simp only[Tr.b,ai]) y.symm ⟨fun i q=>V i (J i q),by omega,O⟩ fun h=>by cases h|false=>
    have g4:¬t.b>(at_:Int):=by grind
    cases dq:(t.a==FN x.a)with
    |false=>
     have y:EI at_ x s=33:=by unfold EI;grind
     simp only[eE,seval,↓eP,rP,rT,Ic,Gv,Sb,M,dk,Er,wV,Hr,dq];exact w _ _ 33 (by simp only[Tr.b,ai]) y.symm ⟨fun i q=>V i (J i q),by omega,O⟩ fun h=>by cases h|true=>
     have g5:¬t.a≠FN x.a:=by grind
     have y:EI at_ x s=0:=by unfold EI;grind
     have dS:C2 at_ x s={s with a:=JF s.a at_ t.c}:=by unfold C2;grind
     have g6:=MT s.a;have h4:=j.a.c;have G:=EO (off:=at_*5+3) B_ (v:=iv t.c) rfl rfl j.a.a (by omega) (by have:=j.t;have:=j.a.b.1;omega);rw[aW hx]at G;have h3:=j.B (l:=JF s.a at_ t.c) TM;simp only[eE,seval,↓eP,rP,rT,Ic,Gv,Sb,M,dk,Er,wV,Hr,dq,G];refine w _ _ 0 (by simp only[Tr.b,ai]) y.symm ⟨fun i q=>?_,by show h.a<=H1.a;omega,O⟩ fun _=>?_
     .rw[AP j.a.b.2 (VQ (h:=h) (tag:=tag) j.a.b.1 (by rw[j.a.d];decide) (by grind))];grind
     .rw[dS];exact⟨tag,vq,vv,vt,vu,vo,es,h3,hm,⟨z.q,z.v,z.t,z.u,z.o,z.a⟩,fun i q=>⟨by have h0:=X i q;show i<H1.a;omega,(X i q).2⟩⟩
end
noncomputable def E4:Code:=rt (rt (rt (f67.body.getD .skip)))
def xY:List (Bool×Bool×List Operand):=[AO,AO,AO,AO,AO,AH [.tmp 29],AH [.tmp 29],AJ,AJ]
section
variable {call:AY} {N:Nat} {h H:AA} {lo m k c e r n:Nat} {nm:ByteArray} {E:List Int} {F:List Nat} {tag:Nat->Nat} {vq vv vt vu vo:Value} {es:List (Value × Value)} {s:AS}
theorem DD.A(b:DD h lo m k c e r n nm E tag vq vv vt vu vo es s)(x:Int):DD (h.e m (.row [.string nm,qS r n AT,vq,vv,vt,vu,vo,iv x,.map (some k),.map (some c)] 123 false false)) lo m k c e r n nm E tag vq vv vt vu vo es {s with c:=x}:=by have d:∀i,tag i≠0->(h.e m (.row [.string nm,qS r n AT,vq,vv,vt,vu,vo,iv x,.map (some k),.map (some c)] 123 false false)).c i=h.c i:=fun i g=>AP b.f.2 (IS (tag:=tag) (by rw[b.i];omega));have a:=b.a.e (h':=h.e m (.row [.string nm,qS r n AT,vq,vv,vt,vu,vo,iv x,.map (some k),.map (some c)] 123 false false)) (af _) (fun _ _=>rfl) fun i _ _ f _=>d i (by omega);exact b.p (af _) rfl (fun _ _=>rfl) (fun i _ _ f=>d i (by omega)) (BE rfl b.f.2) ⟨a.a,a.c,a.d,a.b,a.q,a.v,a.t,a.u,a.o⟩ rfl
theorem DD.C(l:DD h lo m k c e r n nm E tag vq vv vt vu vo es s){i:Nat}(hi:i<s.h.length)(x:Int):∃a d,vo=qS a s.h.length AT/\h.c a=.row (ints s.h++d) 3 true false/\lo<=a/\a<h.a/\tag a=6/\DD (h.e a (.row ((ints s.h++d).set i (iv x)) 3 true false)) lo m k c e r n nm E tag vq vv vt vu vo es {s with h:=s.h.set i x}:=by
 rcases l.a.o with⟨f,_,_⟩|⟨a,d,q,u,g,p,t⟩;.omega
 .refine⟨a,d,q,u,g,p,t,?_⟩;have o:(ints s.h++d).set i (iv x)=ints (s.h.set i x)++d:=by rw[List.set_append_left _ _ (by rw[IE];exact hi),kU]
  rw[o];have f:∀j,tag j≠6->(h.e a (.row (ints (s.h.set i x)++d) 3 true false)).c j=h.c j:=fun j v=>AP p (IS (tag:=tag) (by omega));have b:=l.a;refine l.p (af _) rfl (fun _ _=>rfl) (fun j _ _ q=>f j (by omega)) (by rw[f m (by rw[l.i];decide)];exact l.b) ?_ rfl;refine⟨by rw[f r (by rw[b.d];decide)];exact b.a,b.c,b.d,b.b,b.q.a (af _) (fun _ _=>rfl) fun j _ _ g=>f j (by omega),b.v.a (af _) (fun _ _=>rfl) fun j _ _ g=>f j (by omega),b.t.a (af _) (fun _ _=>rfl) fun j _ _ g=>f j (by omega),b.u.a (af _) (fun _ _=>rfl) fun j _ _ g=>f j (by omega),?_⟩;refine .inr ⟨a,d,by grind,BE rfl p,g,p,t⟩
theorem Sj{l:List Int}{ex:List Value}{i:Nat}{x:Int}{ty:TypeId}{g ro:Bool}(a:l[i]?=some x):AI i (.row (ints l++ex) ty g ro)=some (iv x):=by have b:=(ae.1 a).1;simp only[AI];rw[dt (by rw[IE];exact b),cZ,a];rfl
theorem ua(h4:C_ call){at_:Nat}{x:AF}(t:HG h lo m k c e r n nm E F s)(hx:s.a[at_]?=some x)(I:1<=x.a/\x.a<=54)(hn:n<30000000000000)(h5:E9 x.a=true->x.a≠10->0<=x.n/\x.n<s.h.length)(h7:∀k u,1<=k/\k<=54->call 127 [iv k] u=some (.bool (E9 k),u)):∃u,AW prog call N 67 [qP m 0,iv at_] h=some (iv (EY x s),u)/\(IR h u lo F/\(EY x s=0->HG u lo m k c e r n nm E F (EZ at_ x s))):=by
 obtain⟨tag,vq,vv,vt,vu,vo,es,t,hm,p,hF⟩:=t;have J:∀i,i<lo\/i∈F->i<lo\/(i<h.a/\11<=tag i):=fun i f=>f.imp id fun h=>hF i h;have L:∀i,i<lo\/i∈F->i<h.a:=fun i f=>by have:=t.f;have:=J i f;omega
 refine EA (R:=fun u=>IR h u lo F/\(EY x s=0->HG u lo m k c e r n nm E F (EZ at_ x s))) func67 rfl (by simp[f67]) ?_;have hr:f67.results.toList=[.tmp 4]:=rfl;generalize h8:DH.top (fun ex M=>(ex=FJ.normal\/ex=FJ.ret)/\∃vs,F5 prog M f67.results.toList=some vs/\GU vs=iv (EY x s)/\IR h M.h lo F/\(EY x s=0->HG M.h lo m k c e r n nm E F (EZ at_ x s)))=K;have w:∀(T':Tr)H v,T'.a 4=iv v->v=EY x s->IR h H lo F->(v=0->HG H lo m k c e r n nm E F (EZ at_ x s))->K.a prog call N .ret ⟨T',H⟩:=fun T' H v h6 U ha hb=>by subst U;rw[<-h8];simp only[eE,reduceCtorEq,hr,h6];exact⟨ha,hb⟩
 show WK _ _ _ (.seq _ (.seq _ (.seq _ E4))) _ _;have V:=t.L;obtain⟨W,l0,l1,l2,l3,l4,lr⟩:=t.y hx;have X:=fun u=>h7 x.a u I;have D:h.b<=h.a:=by have:=t.t;have:=t.f;omega
 have g3:(h.b<=h.a)=True:=by simpa using D
 have g5:lo<=h.a:=by have:=t.f;omega
 have g6:=t.a.b.2;have g7:=t.f.2;have g8:(r=h.a)=False:=by simp;omega
 have g9:(m=h.a)=False:=by simp;omega
 have g4:(h.a<h.a+1)=True:=by simp
 have a:=fun o o'=>t.u (o:=o) (o':=o');have Y:([.int .i64 x.a,.string x.c,.int .i64 x.d,.int .i64 x.n,.int .i64 x.b]:List Value).all one=true:=rfl;have hz:flat (.agg #[.int .i64 0,.string ByteArray.empty,.int .i64 0,.int .i64 0,.int .i64 0])=true:=rfl;have Z:=C9 FG;have h1:BD prog (h.d (.row FG 125 false false)) 125 (qP h.a 0) (.agg #[.int .i64 x.a,.string x.c,.int .i64 x.d,.int .i64 x.n,.int .i64 x.b])=some ((h.d (.row FG 125 false false)).e h.a (.row [.int .i64 x.a,.string x.c,.int .i64 x.d,.int .i64 x.n,.int .i64 x.b] 125 false false)):=by rw[DE,BJ,YF,ag ⟨D,Y⟩]
 have a:DD ((h.d (.row FG 125 false false)).e h.a (.row [.int .i64 x.a,.string x.c,.int .i64 x.d,.int .i64 x.n,.int .i64 x.b] 125 false false)) lo m k c e r n nm E tag vq vv vt vu vo es s:=t.u;have q:((h.d (.row FG 125 false false)).e h.a (.row [.int .i64 x.a,.string x.c,.int .i64 x.d,.int .i64 x.n,.int .i64 x.b] 125 false false)).c h.a=.row [.int .i64 x.a,.string x.c,.int .i64 x.d,.int .i64 x.n,.int .i64 x.b] 125 false false:=BE rfl (by show h.a<h.a+1;omega);have O:∀i,i<h.a->((h.d (.row FG 125 false false)).e h.a (.row [.int .i64 x.a,.string x.c,.int .i64 x.d,.int .i64 x.n,.int .i64 x.b] 125 false false)).c i=h.c i:=fun i f=>by rw[AP (by show h.a<h.a+1;omega) (by omega),AV f]
 have x0:((h.d (.row FG 125 false false)).e h.a (.row [.int .i64 x.a,.string x.c,.int .i64 x.d,.int .i64 x.n,.int .i64 x.b] 125 false false)).a=h.a+1:=rfl;have P:((h.d (.row FG 125 false false)).e h.a (.row [.int .i64 x.a,.string x.c,.int .i64 x.d,.int .i64 x.n,.int .i64 x.b] 125 false false)).b=h.b:=rfl;generalize x1:(h.d (.row FG 125 false false)).e h.a (.row [.int .i64 x.a,.string x.c,.int .i64 x.d,.int .i64 x.n,.int .i64 x.b] 125 false false)=H1 at*;have h2:IntKind.i64.wrap ((at_:Int)+1)=(at_:Int)+1:=BR;have b:IR h H1 lo F:=⟨fun i f=>O i (L i f),by omega,P⟩;have Q:∀i∈F,i<H1.a/\11<=tag i:=fun i f=>⟨by have h0:=hF i f;omega,(hF i f).2⟩;have x2:=@FX;cases y:E9 x.a with
 |false=>
  have A:EY x s=0:=by unfold EY;rw[ag y]
  have dS:EZ at_ x s=s:=by unfold EZ;rw[ag y]
  simp only[eE,seval,↓eP,Nat.reduceAdd,ab,M5,CK,CJ,FX,AM,V,NE W,lr,FC,hz,Z,h1,q,BB,NC,X,y];exact w _ _ 0 (by simp only[Tr.b,ai]) A.symm b fun _=>by rw[dS];exact⟨tag,vq,vv,vt,vu,vo,es,a,hm,p,Q⟩|true=>
  simp only[eE,seval,↓eP,Nat.reduceAdd,ab,M5,CK,CJ,FX,AM,V,NE W,lr,FC,hz,Z,h1,q,BB,NC,X,y];show WK _ _ _ (.seq _ (.seq (.seq _ (.cond _ (.region _ _ _) _)) (.seq (.seq _ (.cond _ _ _)) (.seq _ (.seq _ _))))) _ _;cases B:(x.a==10)with
  |true=>
   have d:x.a=10:=by simpa using B
   have l:(x.a !=10)=false:=by rw[bne,B];rfl
   have c7:=a.Q;have G:BD prog H1 3 (qP m 7) (iv ((at_:Int)+1))=_:=EO B_ rfl rfl a.b (by simp only[bx,du];omega) (by have:=a.t;have:=a.f;omega);simp only[gp,fy]at G;cases C:decide (s.c>=0)with
   |true=>
    have A:EY x s=31:=by unfold EY;rw[ad (by rw[y];simp),ag d,ag (by simpa using C)]
    simp only[eE,seval,↓eP,ab,M5,JV,AM,q,BB,NC,l,c7,C];exact w _ _ 31 (by simp only[Tr.b,ai]) A.symm b fun h=>by cases h|false=>
    have A:EY x s=0:=by unfold EY;rw[ad (by rw[y];simp),ag d,ad (by simpa using C)]
    have dS:EZ at_ x s={s with c:=(at_:Int)+1}:=by unfold EZ;rw[ad (by rw[y];simp),ag d]
    simp only[eE,seval,↓eP,ab,M5,JV,AM,q,BB,NC,l,c7,C,h2,G];refine w _ _ 0 (by simp only[Tr.b,ai]) A.symm ⟨fun i f=>?_,by show h.a<=H1.a;omega,P⟩ fun _=>?_
    .rw[AP a.f.2 (VQ (h:=h) a.f.1 (by rw[a.i];decide) (J i f))];exact O i (L i f)
    .rw[dS];exact⟨tag,vq,vv,vt,vu,vo,es,a.A _,hm,⟨p.q,p.v,p.t,p.u,p.o,p.a⟩,Q⟩
  |false=>
   have d:¬x.a=10:=by simpa using B
   have l:(x.a !=10)=true:=by rw[bne,B];rfl
   obtain⟨x3,x4⟩:=h5 y d;obtain⟨i,f⟩:∃i:Nat,x.n=(i:Int):=⟨x.n.toNat,by omega⟩;have S:i<s.h.length:=by omega
   obtain⟨id,ex,ev,T,h9,g0,g1,g2⟩:=a.C S ((at_:Int)+1);obtain⟨v,U⟩:∃v,s.h[i]?=some v:=⟨_,aa S⟩;have c6:=a.O;rw[ev]at c6;have lv:=Sj (ex:=ex) (ty:=3) (g:=true) (ro:=false) U;have h3:=EO (h:=H1) (off:=i) B_ (v:=iv ((at_:Int)+1)) rfl rfl T (by rw[ch,IE];omega) (by have:=a.t;omega);have z:x.n.toNat=i:=by omega
   simp only[eE,seval,↓eP,ab,M5,JV,AM,q,BB,NC,l];show WK _ _ _ (.region _ _ true) _ _;refine WK.a (fs:=xY) (by kernel_rfl) ?_;unfold xY;iterate 9
    refine DG h4 ?_;simp only[rG,seval,AB,AD,AC,A7,f,M5,I_,BH,c6,FY,AM,q,W9,FO S]
   refine DF ?_;cases C:decide (v>=0)with
   |true=>
    have A:EY x s=31:=by unfold EY;rw[ad (by rw[y];simp),ad d,z,U];simp only;rw[ag (by simpa using C)]
    simp only[eE,seval,↓eP,AM,T,lv,C];exact w _ _ 31 (by simp only[Tr.b,ai]) A.symm b fun h=>by cases h|false=>
    have A:EY x s=0:=by unfold EY;rw[ad (by rw[y];simp),ad d,z,U];simp only;rw[ad (by simpa using C)]
    have dS:EZ at_ x s={s with h:=s.h.set i ((at_:Int)+1)}:=by unfold EZ;rw[ad (by rw[y];simp),ad d,z]
    simp only[eE,seval,↓eP,AM,T,lv,C,h2,h3];refine w _ _ 0 (by simp only[Tr.b,ai]) A.symm ⟨fun j hj=>?_,by show h.a<=H1.a;omega,P⟩ fun _=>?_;.rw[AP g0 (VQ (h:=h) h9 (by rw[g1];decide) (J j hj))];exact O j (L j hj)
    .rw[dS];exact⟨tag,vq,vv,vt,vu,vo,es,g2,hm,⟨p.q,p.v,p.t,p.u,by simp only[bO];exact p.o,p.a⟩,Q⟩
end
def CP(a b:Int):Int:=if a>4611686018427387904-b then 4611686018427387904 else a+b
theorem K7{a b:Int}(d:0<=a)(e:0<=b)(c:b<=4611686018427387904):0<=CP a b/\CP a b<=4611686018427387904:=by unfold CP;omega
def GL(a:List Int)(k:Int):Int:=(a[k.toNat]?).getD 0
def IN(a:List Int):List AF->Int->Int|[],n=>n|x::l,n=>IN a l (if x.a=22 then CP (CP n 1) (GL a x.n)else CP n 1)
def FM(a:List Int):Prop:=∀x∈a,0<=x/\x<=4611686018427387904
theorem n_{a:List Int}(b:FM a)(k:Int):0<=GL a k/\GL a k<=4611686018427387904:=by unfold GL;cases h:a[k.toNat]? with|none=>simp|some x=>exact b x (aw h)
theorem sD{c:List Int}(d:FM c):∀(l:List AF)(n:Int),0<=n->n<=4611686018427387904->0<=IN c l n/\IN c l n<=4611686018427387904
 |[],n,e,g=>⟨e,g⟩|x::l,n,e,g=>by
  have f:=K7 (a:=n) (b:=1) e (by omega) (by omega);have h:=n_ d x.n;have i:=K7 f.1 h.1 h.2;unfold IN;split;.exact sD d l _ i.1 i.2
  .exact sD d l _ f.1 f.2
section
variable {call:AY} {N:Nat} {h:AA}
theorem ub{a b:Int}(i:0<=b/\b<=4611686018427387904)(j:0<=a/\a<=4611686018427387904):AW prog call N 129 [iv a,iv b] h=some (iv (CP a b),h):=by
 refine DO func129 rfl (by simp) ?_;have c:f129.results.toList=[.tmp 4]:=rfl;have e:IntKind.i64.wrap (4611686018427387904-b)=4611686018427387904-b:=BR;unfold CP;cases d:decide (a>4611686018427387904-b)with
 |true=>
  rw[ag (by grind)];simp only[eE,seval,↓eP,c,e,d]|false=>
  have f:¬a>4611686018427387904-b:=by grind
  have g:IntKind.i64.wrap (a+b)=a+b:=BR;rw[ad f];simp only[eE,seval,↓eP,c,e,d,g]
theorem Nw{a b:Int}(h:AA)(c:0<=b/\b<=4611686018427387904)(d:0<=a/\a<=4611686018427387904):L1 129 [iv a,iv b] h=some (iv (CP a b),h):=HJ (JP rfl rfl) rfl rfl rfl ⟨_,ub c d⟩
def yJ:List (Bool×Bool×List Operand):=[AO,AO,AH [.tmp 9],AH [.tmp 9],AH [.tmp 9,.tmp 2],AH [.tmp 9],AH [.tmp 9],AJ,AJ,AH [.tmp 9,.tmp 2,.tmp 14,.tmp 10]]
structure NW (h:AA) (pb eb sb:Nat) (rows:List AF) (E sums:List Int):Prop where
 p:∃ v0 vr v2 v3 v4 v5 v6 v7 g,h.c pb=.row [v0,vr,v2,v3,v4,v5,v6,v7] 27 g false/\(∀ (lo hi:Nat) h',(∀ i,i<h.a->h'.c i=h.c i)->h.a<=h'.a->lo<=hi->hi<=rows.length->∃ v',H9 prog h' 22 vr (some (iv lo)) (some (iv hi)) none=some v'/\A8 h' v' ((rows.drop lo).take (hi-lo)))
 e:∃ e n c g g',h.c eb=.row [qS e n c] 25 g false/\h.c e=.row (ints E) 3 g' false/\n=E.length/\e<h.a
 s:∃ q n c g g',h.c sb=.row [qS q n c] 25 g false/\h.c q=.row (ints sums) 3 g' false/\n=sums.length/\q<h.a
 f:pb<h.a
 d:eb<h.a
 b:sb<h.a
theorem NW.a{h h':AA}{pb eb sb:Nat}{rows:List AF}{E f:List Int}(d:NW h pb eb sb rows E f)(F:h.a<=h'.a)(k:∀i,i<h.a->h'.c i=h.c i):NW h' pb eb sb rows E f where
 p:=by
  obtain⟨r,t,u,v,w,x,y,z,g,j,l⟩:=d.p;exact⟨r,t,u,v,w,x,y,z,g,by rw[k pb d.f];exact j,fun A B m a b=>l A B m (fun i C=>by grind) (by omega)⟩
 e:=by obtain⟨e,n,c,g,o,j,l,q,D⟩:=d.e;exact⟨e,n,c,g,o,by rw[k eb d.d];exact j,by grind,q,by omega⟩
 s:=by
  obtain⟨e,n,c,g,o,j,l,q,D⟩:=d.s;exact⟨e,n,c,g,o,by rw[k sb d.b];exact j,by grind,q,by omega⟩
 f:=by have:=d.f;omega
 d:=by have:=d.d;omega
 b:=by have:=d.b;omega
theorem uc(T:C_ call){pb eb sb row q:Nat}{rows:List AF}{E d:List Int}(M:NW h pb eb sb rows E d)(hs:FM d)(hfl:h.b<=h.a)(hE:E[row]?=some (q:Int))(U:row<=q)(hq:q<=rows.length)(g6:rows.length<30000000000000)(hN:rows.length+3<N)(hcalls:∀x∈(rows.drop row).take (q-row),x.a=22->0<=x.n/\x.n<d.length)(A:∀a b h',0<=b/\b<=4611686018427387904->0<=a/\a<=4611686018427387904->call 129 [iv a,iv b] h'=some (iv (CP a b),h')):∃h',AW prog call N 190 [iv row,qP pb 0,qP eb 0,qP sb 0] h=some (iv (IN d ((rows.drop row).take (q-row)) 0),h')/\∀i,i<h.a->h'.c i=h.c i:=by
 refine EA (R:=fun h'=>∀i,i<h.a->h'.c i=h.c i) func190 rfl (by simp) ?_;have hr:f190.results.toList=[.tmp 5]:=rfl;obtain⟨v0,vr,v2,v3,v4,v5,v6,v7,g,V,W⟩:=M.p;obtain⟨e,ne,ce,ge,ge',he1,he2,he3,x2⟩:=M.e;obtain⟨O,ns,cs,gs,gs',h2,x3,x4,x5⟩:=M.s;obtain⟨v',h3,u⟩:=W row q h (fun _ _=>rfl) (af _) U hq;have x6:=(ae.1 hE).1;have h4:=fun h'=>u.c (h':=h');have g7:((rows.drop row).take (q-row)).length=q-row:=by grind
 generalize hS:(rows.drop row).take (q-row)=S at*;have lE:=KM (ty:=3) (g:=ge') (ro:=false) hE;obtain⟨va,vc,h5⟩:∃a c,v'=.slice a S.length c:=by obtain⟨a,c,h1,_⟩:=u;grind
 subst h5;simp only[eE,seval];show WK _ _ _ (.region _ _ true) _ _;refine WK.a (fs:=yJ) (by kernel_rfl) ?_;unfold yJ;iterate 10
  refine DG T ?_;simp only[rG,seval,AB,AD,AC,A7,BL,CK,CJ,V,ZL,BH,he1,NC,FO (show row<ne by omega),AM,he2,lE,h3,h4]
 refine DF ?_;simp only[eE,seval];refine WK.b (fun i s=>s.T.a 3=qP sb 0/\s.T.a 16=.slice va S.length vc/\s.T.a 17=iv (S.length:Int)/\s.T.a 18=iv i/\i<=S.length/\s.h.b=h.b/\h.a<=s.h.a/\(∀i,i<h.a->s.h.c i=h.c i)/\∃n:Int,s.T.a 6=iv n/\0<=n/\n<=4611686018427387904/\IN d (S.drop i) n=IN d S 0) S.length (by omega) ?_ ?_
 .simp only[eE,↓reduceIte,Nat.reduceEqDiff,rP];simp
 .rintro i⟨T1,f⟩hi⟨t3,v,t17,t18,x7,h6,B,w,n,P,C,h7,k⟩;simp only at t3 v t17 t18 h6 B w P;by_cases h8:i<S.length
  .have Q:decide ((i:Int)<(S.length:Int))=true:=by grind
   obtain⟨x,hx⟩:∃x,S[i]?=some x:=⟨_,aa h8⟩;have h9:=u.a B w;obtain⟨id,p,e0,x8,l0,l1,l2,l3,l4,lr⟩:=h9.b hx;have D:f.b<=f.a:=by omega
   have hz:flat (.agg #[.int .i64 0,.string ByteArray.empty,.int .i64 0,.int .i64 0,.int .i64 0])=true:=rfl;have F:=C9 FG;have G:([.int .i64 x.a,.string x.c,.int .i64 x.d,.int .i64 x.n,.int .i64 x.b]:List Value).all one=true:=rfl;have H:BD prog (f.d (.row FG 125 false false)) 125 (qP f.a 0) (.agg #[.int .i64 x.a,.string x.c,.int .i64 x.d,.int .i64 x.n,.int .i64 x.b])=some ((f.d (.row FG 125 false false)).e f.a (.row [.int .i64 x.a,.string x.c,.int .i64 x.d,.int .i64 x.n,.int .i64 x.b] 125 false false)):=by rw[DE,BJ,YF,ag ⟨D,G⟩]
   have I:((f.d (.row FG 125 false false)).e f.a (.row [.int .i64 x.a,.string x.c,.int .i64 x.d,.int .i64 x.n,.int .i64 x.b] 125 false false)).c f.a=.row [.int .i64 x.a,.string x.c,.int .i64 x.d,.int .i64 x.n,.int .i64 x.b] 125 false false:=BE rfl (by show f.a<f.a+1;omega);have g0:∀i,i<h.a->((f.d (.row FG 125 false false)).e f.a (.row [.int .i64 x.a,.string x.c,.int .i64 x.d,.int .i64 x.n,.int .i64 x.b] 125 false false)).c i=h.c i:=fun i hi=>by rw[AP (by show f.a<f.a+1;omega) (by omega),AV];grind
   have x9:((f.d (.row FG 125 false false)).e f.a (.row [.int .i64 x.a,.string x.c,.int .i64 x.d,.int .i64 x.n,.int .i64 x.b] 125 false false)).a=f.a+1:=rfl;have hfl2:((f.d (.row FG 125 false false)).e f.a (.row [.int .i64 x.a,.string x.c,.int .i64 x.d,.int .i64 x.n,.int .i64 x.b] 125 false false)).b=f.b:=rfl;generalize(f.d (.row FG 125 false false)).e f.a (.row [.int .i64 x.a,.string x.c,.int .i64 x.d,.int .i64 x.n,.int .i64 x.b] 125 false false)=H2 at*;have p1:=K7 (a:=n) (b:=1) C (by omega) (by omega);have t:=fun hh=>A n 1 hh (by omega) ⟨C,h7⟩;have w1:=DU i;have g1:S.drop i=x::S.drop (i+1):=by
    obtain⟨hl,rfl⟩:=ae.1 hx;simp
   rw[g1]at k;change IN d (S.drop (i+1)) (if x.a=22 then CP (CP n 1) (GL d x.n)else CP n 1)=_ at k;cases J:(x.a==22)with
   |false=>
    rw[ad (by grind)]at k;simp only[eE,seval,↓eP,t3,v,t17,t18,P,Q,e0,FX,lr,FC,hz,F,H,t,BB,AM,I,NC,J,w1];grind|true=>
    have K:x.a=22:=by grind
    rw[ag K]at k;obtain⟨c0,c2⟩:=hcalls x (aw hx) K;obtain⟨j,hj⟩:∃j:Nat,x.n=(j:Int):=⟨x.n.toNat,by omega⟩;have g2:j<d.length:=by omega
    obtain⟨y,hy⟩:∃y,d[j]?=some y:=⟨_,aa g2⟩;have z:=hs y (aw hy);have g3:GL d x.n=y:=by unfold GL;simp_all
    rw[g3]at k;have g4:H2.c sb=.row [qS O ns cs] 25 gs false:=by rw[g0 sb M.b];exact h2
    have g5:H2.c O=.row (ints d) 3 gs' false:=by grind
    have lS:=KM (ty:=3) (g:=gs') (ro:=false) hy;have L:=fun hh=>A (CP n 1) y hh z p1;have ix:BW prog 25 (qS O ns cs) (iv x.n)=some (qP O j):=by rw[hj];exact FO (show j<ns by omega)
    have p2:=K7 p1.1 z.1 z.2;simp only[eE,seval,↓eP,ab,t3,v,t17,t18,P,Q,e0,FX,lr,FC,hz,F,H,t,BB,FY,AM,I,NC,W9,J,w1,BH,g4,ix,g5,lS,L];grind
  .have Q:decide ((i:Int)<(S.length:Int))=false:=by grind
   have hn:IN d S 0=n:=by
    rw[<-k,eC (by omega)];rfl
   rw[hn];simp only[eE,seval,↓eP,hr,t17,t18,P,Q];exact w
end
def Gz0(rows:List AF)(E a:List Int)(row:Nat):Int:=IN a ((rows.drop row).take (((E[row]?).getD 0).toNat-row)) 0
def UQ(rows:List AF)(E:List Int):List Int->Nat->List Int->List Int|[],_,a=>a|c::b,i,a=>UQ rows E b (i+1) (a.set i (Gz0 rows E a c.toNat))
def I1(rows:List AF)(E rules:List Int):List Int:=UQ rows E rules 0 (List.replicate rules.length 0)
structure TH (rows:List AF) (E rules:List Int):Prop where
 c:rows.length<2932031007403
 e:E.length=rows.length
 d:∀ i,i<rows.length->∃ q:Nat,E[i]?=some (q:Int)/\i<q/\q<=rows.length
 g:∀ ru∈rules,0<=ru/\ru<rows.length
 b:rules.length<1000000
 a:∀ x∈rows,x.a=22->0<=x.n/\x.n<rules.length
theorem Jc(n:Nat):FM (List.replicate n 0):=fun x a=>by grind
theorem Kd{a:List Int}(b:FM a)(i:Nat){x:Int}(d:0<=x/\x<=4611686018427387904):FM (a.set i x):=fun y c=>by
 rcases List.mem_or_eq_of_mem_set c with h|h;.exact b y h
 omega
theorem WN{rows:List AF}{E a:List Int}(b:FM a)(row:Nat):0<=Gz0 rows E a row/\Gz0 rows E a row<=4611686018427387904:=sD b _ 0 (by omega) (by omega)
theorem Fb{rows:List AF}{E:List Int}:∀(l:List Int)(i:Nat)(a:List Int),FM a->FM (UQ rows E l i a)/\(UQ rows E l i a).length=a.length
 |[],i,a,c=>⟨c,rfl⟩|d::b,i,a,c=>by
  have:=Fb (rows:=rows) (E:=E) b (i+1) (a.set i (Gz0 rows E a d.toNat)) (Kd c _ (WN c _));rw[bO]at this;exact this
theorem Y8{rows:List AF}{E rules:List Int}:FM (I1 rows E rules)/\(I1 rows E rules).length=rules.length:=by have:=Fb (rows:=rows) (E:=E) rules 0 _ (Jc rules.length);rw[gu]at this;exact this
def uB:List (Bool×Bool×List Operand):=[(true,false,[]),BP [.tmp 5],AH [.tmp 5],AH [.tmp 5],AH [.tmp 5],AJ,AJ]
theorem NW.c{h:AA}{pb eb sb:Nat}{rows:List AF}{E a:List Int}(b:NW h pb eb sb rows E a)(f:Nat):NW (h.f f) pb eb sb rows E a:=b.a (af _) fun _ _=>rfl
section
variable {call:AY} {N:Nat} {h:AA}
theorem ue(V:C_ call){rows:List AF}{E rules:List Int}(W:TH rows E rules){v0 vr v2 v3 v4 vu v6 v7:Value}{e ce:Nat}{ge:Bool}(hone:[v0,vr,v2,v3,v4,vu,v6,v7].all one=true)(g6:h.b<=h.a)(hN:rows.length+3<N)(g7:rules.length+3<N)(X:∀(lo hi:Nat)m,(∀i,i<h.a->m.c i=h.c i)->h.a<=m.a->lo<=hi->hi<=rows.length->∃v',H9 prog m 22 vr (some (iv lo)) (some (iv hi)) none=some v'/\A8 m v' ((rows.drop lo).take (hi-lo)))(Y:∀m,CU prog m 25 vu=some (iv (rules.length:Int)))(Z:∃a c,vu=.slice a rules.length c)(hu:∀m:AA,(∀i,i<h.a->m.c i=h.c i)->∀(i:Nat)t,rules[i]?=some t->∃id z,BW prog 25 vu (iv i)=some (qP id z)/\AI z (m.c id)=some (iv t))(he:h.c e=.row (ints E) 3 ge false)(h0:e<h.a)(h1:∀pb eb sb(row:Nat)k m,NW m pb eb sb rows E k->k.length=rules.length->FM k->m.b<=m.a->row<rows.length->call 190 [iv row,qP pb 0,qP eb 0,qP sb 0] m=some (iv (Gz0 rows E k row),m)):∃m,AW prog call N 128 [.agg #[v0,vr,v2,v3,v4,vu,v6,v7],qS e E.length ce] h=some (.func (.func 190) #[] #[qP h.a 0,qP (h.a+1) 0,qP (h.a+3) 0],m)/\(NW m h.a (h.a+1) (h.a+3) rows E (I1 rows E rules)/\h.a<=m.a/\m.b=h.b/\∀i,i<h.a->m.c i=h.c i):=by
 refine EA (R:=fun m=>NW m h.a (h.a+1) (h.a+3) rows E (I1 rows E rules)/\h.a<=m.a/\m.b=h.b/\∀i,i<h.a->m.c i=h.c i) func128 rfl (by simp) ?_;have hr:f128.results.toList=[.tmp 4]:=rfl;have g5:=W.c;have g8:=W.b;obtain⟨Q,S,rfl⟩:=Z;have h3:∀a n c,(Value.slice a n c).cells.toList=[.slice a n c]:=fun _ _ _=>rfl;have h4:∀a n c,([.slice a n c]:List Value).all one=true:=fun _ _ _=>rfl;have h5:=C9 [v0,vr,v2,v3,v4,.slice Q rules.length S,v6,v7];have h6:DK prog 25=some (Z0):=by kernel_rfl
 have fz:flat (Z0)=true:=rfl;have h7:=fun hh=>TO (h:=hh) (show rules.length<30000000000000 by omega);have g9:∀{a b c d e' f:Value}{l:List Value}{ty:TypeId}{g ro:Bool},AI 5 (.row (a::b::c::d::e'::f::l) ty g ro)=some f:=rfl;have F:∀hh:AA,hh.c (h.a+3)=.row [Z0] 25 false false->hh.b<=h.a+3->∀a n c,BD prog hh 25 (qP (h.a+3) 0) (.slice a n c)=some (hh.e (h.a+3) (.row [.slice a n c] 25 false false)):=fun hh hg hf a n c=>EO FW rfl rfl hg (by decide) hf;generalize hA:BO.row [v0,vr,v2,v3,v4,.slice Q rules.length S,v6,v7] 27 false false=A at*;generalize hB:BO.row [qS e E.length ce] 25 false false=B at*;have hst0:=F ((((h.d A).d B).d (.row (ints (List.replicate rules.length 0)) 3 false false)).d (.row [Z0] 25 false false)) BJ (by show h.b<=h.a+3;omega) (some ⟨h.a+2,0,none⟩) rules.length rules.length;have a5:AI 5 A=some (.slice Q rules.length S):=by grind
 have hX:∀C D o,let H:=((((h.d A).d B).d C).d D).e (h.a+3) o
   H.c h.a=A/\H.c (h.a+1)=B/\H.c (h.a+2)=C/\H.c (h.a+3)=o/\H.a=h.a+4/\H.b=h.b/\∀i,i<h.a->H.c i=h.c i:=fun C D o=>by
  have q1:(h.d A).a=h.a+1:=rfl;have q2:((h.d A).d B).a=h.a+2:=rfl;have q3:(((h.d A).d B).d C).a=h.a+3:=rfl;have q4:((((h.d A).d B).d C).d D).a=h.a+4:=rfl;refine⟨?_,?_,?_,BE rfl (by omega),rfl,rfl,fun i hi=>?_⟩;.rw[AP (by omega) (by omega),AV,AV,AV,BJ]
  .rw[AP (by omega) (by omega),AV,AV];exact BJ (h:=h.d A)
  .rw[AP (by omega) (by omega),AV];exact BJ (h:=(h.d A).d B)
  .rw[AP (by omega) (by omega),AV,AV,AV,AV hi]
 have h8:((h.d A).d B).c h.a=A:=by rw[AV (by show h.a<h.a+1;omega),BJ]
 obtain⟨x0,x1,x2,x3,x4,x5,x6⟩:=hX (.row (ints (List.replicate rules.length 0)) 3 false false) (.row [Z0] 25 false false) (.row [qS (h.a+2) rules.length rules.length] 25 false false);simp only[eE,seval,h5,hone,h3,h4,EQ,FW,hA,hB,BU,gf,Nat.reduceAdd,ab,GF,BH,h8,a5,Y,h7,h6,fz,hst0,List.map_toArray,x0];generalize hH:((((h.d A).d B).d (.row (ints (List.replicate rules.length 0)) 3 false false)).d (.row [Z0] 25 false false)).e (h.a+3) (.row [qS (h.a+2) rules.length rules.length] 25 false false)=H at*;have I2:∀(y:AA)k,y.c h.a=A->y.c (h.a+1)=B->y.c (h.a+3)=.row [qS (h.a+2) rules.length rules.length] 25 false false->y.c (h.a+2)=.row (ints k) 3 false false->k.length=rules.length->y.a=h.a+4->(∀i,i<h.a->y.c i=h.c i)->NW y h.a (h.a+1) (h.a+3) rows E k:=fun y k g0 g1 g3 g2 hl hn ho=>
  { p:=⟨_,_,_,_,_,_,_,_,_,g0.trans hA.symm,fun lo hi h2 a b=>X lo hi h2 (fun i hi=>by grind) (by omega)⟩
    e:=⟨e,E.length,ce,_,_,g1.trans hB.symm,by rw[ho e h0];exact he,rfl,by omega⟩
    s:=⟨h.a+2,rules.length,rules.length,_,_,g3,g2,hl.symm,by omega⟩
    f:=by omega
    d:=by omega
    b:=by omega};refine WK.b (fun i s=>s.T.a 5=qP (h.a+3) 0/\s.T.a 6=.func (.func 190) #[] #[qP h.a 0,qP (h.a+1) 0,qP (h.a+3) 0]/\s.T.a 15=.slice Q rules.length S/\s.T.a 16=iv (rules.length:Int)/\s.T.a 17=iv i/\i<=rules.length/\s.h.c h.a=A/\s.h.c (h.a+1)=B/\s.h.c (h.a+3)=.row [qS (h.a+2) rules.length rules.length] 25 false false/\s.h.a=h.a+4/\s.h.b=h.b/\(∀i,i<h.a->s.h.c i=h.c i)/\∃k,s.h.c (h.a+2)=.row (ints k) 3 false false/\k.length=rules.length/\FM k/\UQ rows E (rules.drop i) i k=I1 rows E rules) rules.length (by omega) ?_ ?_;.simp only[eE,↓reduceIte,Nat.reduceEqDiff,reduceCtorEq,rP];exact⟨rfl,x0,x1,x3,x4,x5,x6,_,x2,by simp,Jc _,rfl⟩
 .rintro i⟨T1,r⟩hi⟨t5,T,G,u,v,x7,y0,y1,U,y4,y5,y6,k,y2,M,yS,yF⟩;simp only at t5 T G u v y0 y1 y2 U y4 y5 y6;have hC:=I2 r k y0 y1 U y2 M y4 y6;by_cases w:i<rules.length
  .have c1:decide ((i:Int)<(rules.length:Int))=true:=by grind
   obtain⟨t,O⟩:∃t,rules[i]?=some t:=⟨_,aa w⟩;obtain⟨id,z,ix,lx⟩:=hu r y6 i t O;have x8:=W.g t (aw O);obtain⟨row,P⟩:∃row:Nat,t=(row:Int):=⟨t.toNat,by omega⟩;subst P;have I:=h1 h.a (h.a+1) (h.a+3) row k (r.f (max r.b r.a)) (hC.c _) M yS (by show max r.b r.a<=r.a;omega) (by omega);have h9:decide (h.a+3<r.a)=true:=by grind
   have w1:=DU i;have g4:=WN (rows:=rows) (E:=E) yS row;have F:=LZ (x:=Gz0 rows E k row) y2 (by omega:i<k.length) (by omega);simp only[eE,seval,↓eP,G,u,v,c1,ix,AM,lx];show WK _ _ _ (.region _ _ true) _ _;refine WK.a (fs:=uB) (by kernel_rfl) ?_;unfold uB;iterate 7 refine DG V ?_;simp only[rG,seval,AB,AD,AC,A7,BL,target,BY,t5,BH,U,NC,h9,T,I,FO w,F]
   refine DF ?_;have q:h.a+2<r.a:=by omega
   simp only[eE,seval,t5,T,G,u,v,w1];refine⟨w,by omega,?_,?_,?_,y4,y5,fun j hj=>?_,_,BE rfl q,by grind,Kd yS _ g4,?_⟩;.rw[AP q (by omega)];exact y0
   .rw[AP q (by omega)];exact y1
   .rw[AP q (by omega)];exact U
   .rw[AP q (by omega)];grind
   .rw[<-yF,cd w];have:rules[i]=(row:Int):=by grind
    rw[this];rfl
  .have c1:decide ((i:Int)<(rules.length:Int))=false:=by grind
   have hF:k=I1 rows E rules:=by rw[<-yF,eC (by omega)];rfl
   rw[<-hF];simp only[eE,seval,↓eP,hr,u,v,T,c1];grind
end
def RV(rows:List AF)(E a:List Int):List AF->Nat->Int->Int|[],_,_=>-1|x::l,b,n=>if E9 x.a=false then RV rows E a l (b+1) n else if CP n (Gz0 rows E a (b+1))>16384 then b else RV rows E a l (b+1) (CP n (Gz0 rows E a (b+1)))
def LI(rows:List AF)(E rules:List Int):Int:=RV rows E (I1 rows E rules) rows 0 0
section
variable {call:AY} {N:Nat} {h:AA} {lo m k c e r n:Nat} {nm:ByteArray} {E:List Int} {tag:Nat->Nat} {vq vv vt vu vo:Value} {es:List (Value × Value)} {s:AS}
theorem uf(F:DD h lo m k c e r n nm E tag vq vv vt vu vo es s)(hL:TH s.a E s.d)(g7:h.b<=h.a)(hN:s.a.length+3<N){G:Value}(t:∀x∈s.a,1<=x.a/\x.a<=54)(H:∀i x,s.a[i]?=some x->E9 x.a=true->i+1<s.a.length){pb eb sb:Nat}(W:∃h',call 128 [.agg #[.string nm,qS r n AT,vq,vv,vt,vu,vo,iv s.c],G] h=some (.func (.func 190) #[] #[qP pb 0,qP eb 0,qP sb 0],h')/\(NW h' pb eb sb s.a E (I1 s.a E s.d)/\h.a<=h'.a/\h'.b=h.b/\∀i,i<h.a->h'.c i=h.c i))(X:∀k h',1<=k/\k<=54->call 127 [iv k] h'=some (.bool (E9 k),h'))(Y:∀a b h',0<=b/\b<=4611686018427387904->0<=a/\a<=4611686018427387904->call 129 [iv a,iv b] h'=some (iv (CP a b),h'))(Z:∀(row:Nat)h',NW h' pb eb sb s.a E (I1 s.a E s.d)->h'.b<=h'.a->row<s.a.length->call 190 [iv row,qP pb 0,qP eb 0,qP sb 0] h'=some (iv (Gz0 s.a E (I1 s.a E s.d) row),h')):∃h',AW prog call N 68 [qP m 0,G] h=some (iv (LI s.a E s.d),h')/\∀i,i<h.a->h'.c i=h.c i:=by
 refine EA (R:=fun h'=>∀i,i<h.a->h'.c i=h.c i) func68 rfl (by simp) ?_;have hr:f68.results.toList=[.tmp 4]:=rfl;obtain⟨w,h0,hC,h2,g8,I⟩:=W;have g4:=hL.c;have g9:=F.a.c;have h3:=F.f.2;have l8:AX 8 0 (h.c m)=some (.agg #[.string nm,qS r n AT,vq,vv,vt,vu,vo,iv s.c]):=by rw[F.b];rfl
 have y:AI 1 (w.c m)=some (qS r n AT):=by rw[I m h3];exact F.L
 have J:=F.a.h.a h2 I;have h4:=fun h'=>J.c (h':=h');have hS:=(Y8 (rows:=s.a) (E:=E) (rules:=s.d)).1;simp only[eE,↓reduceIte,Nat.reduceEqDiff,reduceCtorEq,Nat.reduceAdd,ab,M5,CK,C7,l8,h0,CJ,y,h4];generalize g5:I1 s.a E s.d=sums at*;refine WK.b (fun i v=>v.T.a 5=.func (.func 190) #[] #[qP pb 0,qP eb 0,qP sb 0]/\v.T.a 19=qS r n AT/\v.T.a 20=iv (s.a.length:Int)/\v.T.a 21=iv i/\i<=s.a.length/\v.h.b=w.b/\w.a<=v.h.a/\(∀i,i<w.a->v.h.c i=w.c i)/\∃a:Int,v.T.a 6=iv a/\0<=a/\a<=4611686018427387904/\RV s.a E sums (s.a.drop i) i a=LI s.a E s.d) s.a.length (by omega) ?_ ?_
 .simp only[eE,↓reduceIte,Nat.reduceEqDiff,rP];refine⟨by omega,by omega,fun _ _=>cj,by omega,by omega,?_⟩;unfold LI;grind
 .rintro i⟨T1,H1⟩hi⟨T,u,l,o,x0,h5,K,L,a,U,M,h6,j⟩;simp only at T u l o h5 K L U;by_cases h7:i<s.a.length
  .have y:decide ((i:Int)<(s.a.length:Int))=true:=by grind
   obtain⟨x,V⟩:∃x,s.a[i]?=some x:=⟨_,aa h7⟩;have h8:=J.a K L;obtain⟨id,p,e0,x1,l0,l1,l2,l3,l4,lr⟩:=h8.b V;have h9:=t x (aw V);have z:=fun h'=>X x.a h' h9;have O:H1.b<=H1.a:=by omega
   have hz:flat (.agg #[.int .i64 0,.string ByteArray.empty,.int .i64 0,.int .i64 0,.int .i64 0])=true:=rfl;have A:=C9 FG;have P:([.int .i64 x.a,.string x.c,.int .i64 x.d,.int .i64 x.n,.int .i64 x.b]:List Value).all one=true:=rfl;have B:BD prog (H1.d (.row FG 125 false false)) 125 (qP H1.a 0) (.agg #[.int .i64 x.a,.string x.c,.int .i64 x.d,.int .i64 x.n,.int .i64 x.b])=some ((H1.d (.row FG 125 false false)).e H1.a (.row [.int .i64 x.a,.string x.c,.int .i64 x.d,.int .i64 x.n,.int .i64 x.b] 125 false false)):=by rw[DE,BJ,YF,ag ⟨O,P⟩]
   have C:((H1.d (.row FG 125 false false)).e H1.a (.row [.int .i64 x.a,.string x.c,.int .i64 x.d,.int .i64 x.n,.int .i64 x.b] 125 false false)).c H1.a=.row [.int .i64 x.a,.string x.c,.int .i64 x.d,.int .i64 x.n,.int .i64 x.b] 125 false false:=BE rfl (by show H1.a<H1.a+1;omega);have g0:∀i,i<w.a->((H1.d (.row FG 125 false false)).e H1.a (.row [.int .i64 x.a,.string x.c,.int .i64 x.d,.int .i64 x.n,.int .i64 x.b] 125 false false)).c i=w.c i:=fun i hi=>by rw[AP (by show H1.a<H1.a+1;omega) (by omega),AV];grind
   have x2:((H1.d (.row FG 125 false false)).e H1.a (.row [.int .i64 x.a,.string x.c,.int .i64 x.d,.int .i64 x.n,.int .i64 x.b] 125 false false)).a=H1.a+1:=rfl;have g6:((H1.d (.row FG 125 false false)).e H1.a (.row [.int .i64 x.a,.string x.c,.int .i64 x.d,.int .i64 x.n,.int .i64 x.b] 125 false false)).b=H1.b:=rfl;generalize(H1.d (.row FG 125 false false)).e H1.a (.row [.int .i64 x.a,.string x.c,.int .i64 x.d,.int .i64 x.n,.int .i64 x.b] 125 false false)=H2 at*;have w1:=DU i;have g1:s.a.drop i=x::s.a.drop (i+1):=by
    obtain⟨hl,rfl⟩:=ae.1 V;simp
   rw[g1]at j;change(if E9 x.a=false then RV s.a E sums (s.a.drop (i+1)) (i+1) a else if CP a (Gz0 s.a E sums (i+1))>16384 then(i:Int)else RV s.a E sums (s.a.drop (i+1)) (i+1) (CP a (Gz0 s.a E sums (i+1))))=_ at j;cases Q:E9 x.a with
   |false=>
    rw[ag Q]at j;simp only[eE,seval,↓eP,T,U,u,l,o,y,e0,FX,lr,FC,hz,A,B,BB,AM,C,NC,z,Q,w1];grind|true=>rw[ad (by grind)]at j;have g2:=H i x V Q;have g3:=hC.a (by omega) g0;have q:=Z (i+1) H2 g3 (by omega) g2;have D:=WN (rows:=s.a) (E:=E) hS (i+1);have S:=Y a _ H2 D ⟨M,h6⟩;have x3:=K7 M D.1 D.2;cases dg:decide (CP a (Gz0 s.a E sums (i+1))>16384)with
    |true=>
     rw[ag (by grind)]at j;rw[<-j];simp only[eE,seval,↓eP,hr,T,U,u,l,o,y,e0,FX,lr,FC,hz,A,B,BB,AM,C,NC,z,Q,w1,q,S,dg];grind|false=>
     rw[ad (by grind)]at j;simp only[eE,seval,↓eP,T,U,u,l,o,y,e0,FX,lr,FC,hz,A,B,BB,AM,C,NC,z,Q,w1,q,S,dg];grind
  .have y:decide ((i:Int)<(s.a.length:Int))=false:=by grind
   have hn:LI s.a E s.d=-1:=by
    rw[<-j,eC (by omega)];rfl
   rw[hn];simp only[eE,seval,↓eP,hr,l,o,y];grind
end
def DC(l:List AF):AS:=⟨l,[],[],[],[],[],-1,[]⟩
def GB(E:List Int)(at_:Nat)(s:AS):Int×AS:=match s.a[at_]? with|none=>(0,s)|some x=>if FV x s≠0 then(FV x s,s)else match(CQ at_ ((E[at_]?).getD 0) x s).a[at_]? with|none=>(0,s)|some a=>if EI at_ a (CQ at_ ((E[at_]?).getD 0) x s)≠0 then(EI at_ a (CQ at_ ((E[at_]?).getD 0) x s),s)else match(C2 at_ a (CQ at_ ((E[at_]?).getD 0) x s)).a[at_]? with|none=>(0,s)|some b=>if EY b (C2 at_ a (CQ at_ ((E[at_]?).getD 0) x s))≠0 then(EY b (C2 at_ a (CQ at_ ((E[at_]?).getD 0) x s)),s)else(0,EZ at_ b (C2 at_ a (CQ at_ ((E[at_]?).getD 0) x s)))
def ED(E:List Int):Nat->Nat->AS->Int×Nat×AS|0,a,s=>(0,a,s)|r+1,a,s=>if(GB E a s).1≠0 then((GB E a s).1,a,s)else ED E r (a+1) (GB E a s).2
noncomputable def DA(l:List AF):(Int×Int)×AS:=if(CY l).1≠0 then(CY l,DC l)else let g:=ED (AZ l) l.length 0 (DC l)
 if g.1≠0 then((g.1,(g.2.1:Int)),DC l)else let b:=LI g.2.2.a (AZ l) g.2.2.d
 if b>=0 then((34,b),DC l)else((0,0),g.2.2)
theorem FQ.f{l:List AF}{at_ q:Nat}(h:FQ l at_ q):∃x,l[at_]?=some x/\EW BG x=true:=by
 rcases h with⟨m,b,h⟩|⟨rfl,m,h⟩;.cases m with|zero=>cases h|succ m=>cases a:l[at_]? with|none=>rw[zW a]at h;cases h|some x=>rw[fY a]at h;grind
 .cases a:l[0]? with
  |none=>rw[yV a]at h;cases h|some x=>rw[m8 a]at h;grind
theorem DM.h{l:List AF}(h:DM l){i:Nat}{x:AF}(b:l[i]?=some x):EW BG x=true/\(1<=x.a/\x.a<=54)/\F8 x.a<=x.b/\i+1+x.b.toNat<=AE l i/\AE l i<=l.length:=by
 have f:=(ae.1 b).1;have a:=h.U f;obtain⟨y,c,d⟩:=a.f;obtain⟨z,e,k,g,j⟩:=a.a;rw[b]at c e;cases c;cases e;refine⟨d,g,?_,HM _ _ _ j,a.b.2⟩;unfold EW at d;grind
theorem tR{k:Int}(h:E9 k=true)(a:k≠10):FN k=1/\CR k=0:=by
 unfold E9 at h;simp only[ah,am]at h;obtain rfl|rfl:k=8\/k=9:=by omega
 .exact⟨rfl,rfl⟩
 .exact⟨rfl,rfl⟩
theorem SI{l:List AF}{k i:Nat}{n:Int}(h:i≠k:=by omega):(JF l k n)[i]?=l[i]?:=by unfold JF;grind
structure JI (l:List AF) (at_:Nat) (s:AS):Prop where
 e:ON s
 a:s.a.length=l.length
 d:∀ (i:Nat) (x:AF),s.a[i]?=some x->∃ y:AF,l[i]?=some y/\x={ y with n:=x.n }
 b:∀ i:Nat,at_<=i->s.a[i]?=l[i]?
 f:∀ ru∈s.d,0<=ru/\ru<l.length
 c:∀ (i:Nat) (x:AF),i<at_->s.a[i]?=some x->x.a=22->0<=x.n/\x.n<s.d.length
theorem VO(l:List AF):JI l 0 (DC l)where
 e:=⟨by simp[DC],by simp[DC],by simp[DC],by simp[DC],rfl,fun t a=>by simp[DC]at a⟩
 a:=rfl
 d:=fun i x b=>⟨x,b,rfl⟩
 b:=fun _ _=>rfl
 f:=fun c h=>by simp[DC]at h
 c:=fun i x h=>by omega
theorem h_{at_:Nat}{end_:Int}{x:AF}{s:AS}:(CQ at_ end_ x s).a=if CR x.a=0 then s.a else JF s.a at_ (CI s (CR x.a)):=by unfold CQ;split<;>rfl
theorem pY{l:List JS}{x:ByteArray}{t:JS}(h:I8 l x=some t):t∈l:=List.mem_of_find?_eq_some h
theorem uh{l:List AF}{E:List Int}{at_:Nat}{s:AS}{x:AF}(j:DM l)(k:0<=(E[at_]?).getD 0)(hi:JI l at_ s)(d:s.a[at_]?=some x)(g:FV x s=0):ON (CQ at_ ((E[at_]?).getD 0) x s)/\(CQ at_ ((E[at_]?).getD 0) x s).a.length=l.length/\(∃n,(CQ at_ ((E[at_]?).getD 0) x s).a[at_]?=some {x with n:=n})/\(∀i,i≠at_->(CQ at_ ((E[at_]?).getD 0) x s).a[i]?=s.a[i]?)/\(∀c∈(CQ at_ ((E[at_]?).getD 0) x s).d,0<=c/\c<l.length)/\s.d.length<=(CQ at_ ((E[at_]?).getD 0) x s).d.length:=by
 have e:l[at_]?=some x:=by rw[<-hi.b at_ (af _)];exact d
 unfold CQ;unfold FV at g;by_cases f:CR x.a=0
 .rw[ag f];exact⟨hi.e,hi.a,⟨x.n,d⟩,fun _ _=>rfl,hi.f,af _⟩
 .rw[ad f]at g⊢;have b:(CI s (CR x.a):Int)≠JY (CR x.a):=fun h=>by omega
  refine⟨uR hi.e f b k,?_,⟨_,OH d⟩,fun i b=>SI b,fun c a=>?_,?_⟩;.exact TM.trans hi.a
  .simp only[HE]at a;split at a
   .rename_i m;simp only[ji,fv,gH,or_false]at a;rcases a with h|rfl;.exact hi.f c h
    .have:=j.h e;have o:x.a=7:=by
      revert m;unfold CR;omega
     have p:F8 x.a=0\/0<F8 x.a:=by have:=XX x.a;omega
     have q:F8 x.a=1:=by rw[o];rfl
     omega
   .exact hi.f c a
  .simp only[HE];grind
theorem aG{l:List AF}{E:List Int}{at_:Nat}{s:AS}(J:DM l)(K:0<=(E[at_]?).getD 0)(q:at_<l.length)(hi:JI l at_ s)(h0:(GB E at_ s).1=0):JI l (at_+1) (GB E at_ s).2:=by
 obtain⟨x,r⟩:∃x,s.a[at_]?=some x:=⟨_,aa (by rw[hi.a];exact q)⟩;have L:l[at_]?=some x:=by rw[<-hi.b at_ (af _)];exact r
 unfold GB at h0⊢;rw[r]at h0⊢;simp only at h0⊢;by_cases u:FV x s=0;case neg=>rw[ag u]at h0;exact absurd h0 u
 rw[ad (by omega)]at h0⊢;obtain⟨e,H,⟨f,v⟩,w,R,S⟩:=uh J K hi r u;generalize CQ at_ ((E[at_]?).getD 0) x s=a at*;rw[v]at h0⊢;simp only at h0⊢;by_cases m:EI at_ {x with n:=f} a=0;case neg=>grind
 rw[ad (by omega)]at h0⊢;have g:ON (C2 at_ {x with n:=f} a)/\(C2 at_ {x with n:=f} a).a.length=l.length/\(∃n,(C2 at_ {x with n:=f} a).a[at_]?=some {x with n:=n}/\(x.a=22->0<=n/\n<a.d.length)/\(FN x.a=1->0<=n/\n<a.h.length))/\(∀i,i≠at_->(C2 at_ {x with n:=f} a).a[i]?=a.a[i]?)/\(C2 at_ {x with n:=f} a).d=a.d/\(C2 at_ {x with n:=f} a).h=a.h:=by
  unfold C2;unfold EI at m;by_cases o:FN x.a=0
  .rw[ag o];refine⟨e,H,⟨f,v,fun h=>?_,fun h=>by omega⟩,fun _ _=>rfl,rfl,rfl⟩;rw[h]at o;cases o
  .rw[ad o]at m⊢;cases z:I8 a.e x.c with|none=>simp only[z]at m;cases m|some t=>
    simp only[z]at m⊢;have b:=e.a t (pY z);have I:t.a=FN x.a:=by omega
    refine⟨⟨e.q,e.v,e.t,e.u,e.o,e.a⟩,TM.trans H,⟨t.c,(OH v).trans rfl,fun h=>?_,fun h=>?_⟩,fun i A=>SI A,cj,cj⟩
    .have M:t.a=4:=by rw[I,h];rfl
     rw[M]at b;exact⟨b.2.2.1,b.2.2.2.1⟩
    .rw[I,h]at b;rw[e.o];exact⟨b.2.2.1,b.2.2.2.1⟩
 obtain⟨c,T,⟨p,N,U,V⟩,B,O,W⟩:=g;generalize C2 at_ {x with n:=f} a=k at*;rw[N]at h0⊢;simp only at h0⊢;by_cases X:EY {x with n:=p} k=0;case neg=>grind
 rw[ad (by omega)]at h0⊢;have C:ON (EZ at_ {x with n:=p} k)/\(EZ at_ {x with n:=p} k).a=k.a/\(EZ at_ {x with n:=p} k).d=k.d:=by
  unfold EZ;split;.grind
  .split;.exact⟨⟨c.q,c.v,c.t,c.u,c.o,c.a⟩,rfl,rfl⟩
   .exact⟨⟨c.q,c.v,c.t,c.u,by simp only[bO];exact c.o,c.a⟩,rfl,rfl⟩
 obtain⟨P,D,Q⟩:=C;refine⟨P,by grind,fun i y j=>?_,fun i F=>?_,by grind,fun i y F j G=>?_⟩
 .rw[D]at j;by_cases d:i=at_;.grind
  .rw[B i d,w i d]at j;exact hi.d i y j
 .rw[D,B i (by omega),w i (by omega)];exact hi.b i (by omega)
 .rw[D]at j;rw[Q,O];by_cases d:i=at_;.grind
  .rw[B i d,w i d]at j;have:=hi.c i y (by omega) j G;omega
theorem Na{l:List AF}{E:List Int}(d:DM l)(e:∀i:Nat,0<=(E[i]?).getD 0):∀r a s,a+r=l.length->JI l a s->(ED E r a s).1=0->JI l l.length (ED E r a s).2.2
 |0,a,s,f,b,_=>by
  have:a=l.length:=by omega
  subst this;exact b|r+1,a,s,f,b,c=>by
  unfold ED at c⊢;by_cases h:(GB E a s).1=0
  .rw[ad (by omega)]at c⊢;exact Na d e r (a+1) _ (by omega) (aG d (e a) (by omega) b h) c
  grind
theorem aM{l:List AF}(i:Nat):0<=((AZ l)[i]?).getD 0:=by
 by_cases a:i<l.length;.rw[NU a];simp
 .rw[de (by rw[UC];omega)];simp
theorem Me{l:List AF}{s:AS}(d:DM l)(a:l.length<2932031007403)(hi:JI l l.length s):TH s.a (AZ l) s.d where
 c:=by rw[hi.a];exact a
 e:=by rw[UC,hi.a]
 d:=fun i h=>by
  rw[hi.a]at h;have:=(d.U h).b;exact⟨AE l i,NU h,by omega,by rw[hi.a];omega⟩
 g:=fun f h=>by rw[hi.a];exact hi.f f h
 b:=by have:=hi.e.u;omega
 a:=fun x g c=>by obtain⟨i,b,rfl⟩:=List.getElem_of_mem g;exact hi.c i _ (by rw[<-hi.a];exact b) (aa b) c
theorem Y0{l:List AF}{at_:Nat}{s:AS}(b:DM l)(hi:JI l at_ s):∀x∈s.a,1<=x.a/\x.a<=54:=fun x c=>by obtain⟨i,a,rfl⟩:=List.getElem_of_mem c;obtain⟨y,d,e⟩:=hi.d i _ (aa a);rw[e];exact(b.h d).2.1
theorem xG{l:List AF}{at_:Nat}{s:AS}(b:DM l)(hi:JI l at_ s):∀i x,s.a[i]?=some x->E9 x.a=true->i+1<s.a.length:=fun i x c a=>by
 obtain⟨y,d,e⟩:=hi.d i _ c;have f:=b.h d;rw[e]at a;have g:F8 y.a=1:=by
  unfold E9 at a;simp only[ah,am]at a;obtain h|h|h:y.a=8\/y.a=9\/y.a=10:=by omega
  all_goals(rw[h];rfl)
 rw[hi.a];omega
theorem X_(l:List AF):(l.flatMap AQ).all one=true:=by rw[bm];intro v a;rw[List.mem_flatMap]at a;obtain⟨r,_,a⟩:=a;simp only[AQ,fv,gH,or_false]at a;rcases a with rfl|rfl|rfl|rfl|rfl<;>rfl
theorem ui{c:Type}(l:List c)(a b:Nat):l.take (a+b)=l.take a++(l.drop a).take b:=List.take_add
theorem zK:∀(l:List AF)(cs:List Value)(off:Nat),(∀k r,l[k]?=some r->(cs.drop (off+k*5)).take 5=AQ r)->(cs.drop off).take (l.length*5)=l.flatMap AQ
 |[],cs,off,_=>by simp|r::l,cs,off,h=>by
  have a:=h 0 r rfl;rw[ff,fe]at a;have b:=zK l cs (off+5) fun k c d=>by
   have:=h (k+1) c d;grind
  rw[bx,show(l.length+1)*5=5+l.length*5 by omega,ui,a,jl,b,dh]
theorem A8.e{h:AA}{v:Value}{l:List AF}(d:A8 h v l):EL h 5 l.length v=some (l.flatMap AQ):=by
 obtain⟨a,c,rfl,⟨rfl,rfl⟩|⟨m,b,e,n,g,o,rfl,f,i,j⟩⟩:=d;.rfl
 .have:=zK l e b j;have k:=MT l;simp only[EL,f,GN,this,k,ai];grind
section
variable {call:AY} {N:Nat} {h:AA}
theorem Ql{l:List AF}{v:Value}(n:A8 h v l)(p:0<l.length)(o:l.length<2932031007403):∃d,AW prog call N 62 [v] h=some (qS (h.a+1) l.length AT,d)/\(d.c (h.a+1)=.row (l.flatMap AQ) 125 true false/\d.a=h.a+2/\d.b=h.b/\∀i,i<h.a->d.c i=h.c i):=by
 refine EA (R:=fun d=>d.c (h.a+1)=.row (l.flatMap AQ) 125 true false/\d.a=h.a+2/\d.b=h.b/\∀i,i<h.a->d.c i=h.c i) func62 rfl (by simp) ?_;have q:f62.results.toList=[.tmp 2]:=rfl;have e:=(n.a (h':=h.d (.row [] 125 false false)) (by show h.a<=h.a+1;omega) fun i g=>AV g).e;obtain⟨a,c,rfl,z⟩:=n;obtain⟨f,b,rfl⟩:∃f b,a=some ⟨f,b,none⟩:=by grind
 have r:CT prog .eql 22 (.tmp 3) (.const (Z0)) (.slice (some ⟨f,b,none⟩) l.length c) (Z0)=some (.bool false):=by have s:flat (.slice (some ⟨f,b,none⟩) l.length c)=false:=rfl;simp only[CT,s,bz,aV,bi,bq]
 have j:FP prog h 22 0 []=some (qS h.a 0 0,h.d (.row [] 125 false false)):=by simp[FP,bq,GC,FC,flat,B7,GW,I6,CF]
 have k:(Value.agg #[.int .i64 0,.string ByteArray.empty,.int .i64 0,.int .i64 0,.int .i64 0]).cells.size=5:=rfl;have m:DR prog (h.d (.row [] 125 false false)) 22 (qS h.a 0 0) (.slice (some ⟨f,b,none⟩) l.length c)=some (qS (h.a+1) l.length AT,(h.d (.row [] 125 false false)).d (.row (l.flatMap AQ) 125 true false)):=by
  have t:(0:Nat)≠AT:=by unfold AT;omega
  have u:¬(l.length<=0):=by omega
  have w:l.length*48<=140737488355328:=by omega
  have x:l.length<=140737488355328:=by omega
  have y:EL (h.d (.row [] 125 false false)) 5 0 (qS h.a 0 0)=some []:=by simp[EL]
  simp only[DR,bq,GC,WO,FC,k,e,X_,t,y,u,w,x,ee,fg,ao,ai,bi,af,ab,ff,bg,dw,show(0<5)=True by simp,BU]
 simp only[eE,seval,↓eP,q,r,j,m];refine⟨?_,rfl,rfl,fun i g=>?_⟩;.exact BJ (h:=h.d (.row [] 125 false false))
 .rw[AV (by show i<h.a+1;omega),AV g]
def uN:List (Bool×Bool×List Operand):=[AO,AH [.tmp 1],AH [.tmp 1],AH [.tmp 1,.tmp 2],AH [.tmp 1],AH [.tmp 1],AJ,AJ]
theorem uj(b:C_ call){at_ m e i j n ce:Nat}{E:List Int}{y v:Int}{k l ge:Bool}{R:AA->Prop}(p:h.c i=.row [qP m 0] 119 k false)(q:h.c j=.row [qS e n ce] 25 l false)(r:h.c e=.row (ints E) 3 ge false)(s:E[at_]?=some y)(z:n=E.length)(c:∃a,call 65 [qP m 0,iv at_,iv y] h=some (iv v,a)/\(a.b=h.b/\R a)):∃a,AW prog call N 64 [iv at_,qP i 0,qP j 0] h=some (iv v,a)/\R a:=by
 refine EA (R:=R) func64 rfl (by simp) ?_;have t:f64.results.toList=[.tmp 4]:=rfl;obtain⟨a,c,u,w⟩:=c;have d:at_<n:=by grind
 have f:a.f h.b=a:=by rw[<-u];exact C0 a
 have x:=KM (ty:=3) (g:=ge) (ro:=false) s;simp only[eE,seval];show WK _ _ _ (.region _ _ true) _ _;refine WK.a (fs:=uN) (by kernel_rfl) ?_;unfold uN;iterate 8
  refine DG b ?_;simp only[rG,seval,AB,AD,AC,A7,BL,cW,p,NC,BH,q,FO d,AM,r,x,c,f]
 refine DF ?_;simp only[eE,seval,t];exact w
end
end Go.Proofs.YtjailoenloejbaaGreatDoor




